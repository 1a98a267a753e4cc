/-
  Texts of this proof, put together: Ur, Uv, Gt, Gu, Gv, Wa, Wb, Wd, Wc, We, Wf, Wg.
-/
import Derived.Maps.RangeRun
import Derived.WideKeyEntry
import Derived.Test.YtdllbdlnmjngcaaGreatQ3AcceptOne

namespace Go.Proofs.YtdllbdlnmjngcaaGreat.T
open Go Go.RowKit L
set_option linter.unusedVariables false
set_option linter.unusedSimpArgs false
structure RE where
 f:FuncId
 n:Nat
 rs:List ResultVar
 b:Nat
 un:List Nat
 hin:LH
 hout:LH
 g:DL hin.tys→Option (DL hout.tys)
def z69 (P:Program) (x:RE):Prop:=∃ fn c,P.funcs[x.f]? = some fn∧fn.body=some c∧fn.ntmps=x.n∧fn.results.toList=x.rs∧ya P x.f=true∧∀ t r,x.g t=some r →
 ∃ e0,(e0 = .normal∨e0 = .ret)∧OutC P x.b x.n c (unE x.hin (za _ t)) (unG x.hin (za _ t)) e0 (unE x.hout (za _ r)) (unG x.hout (za _ r))
def jai (P:Program) (x:RE) (cl:Call) (nid:Nat) (E:EF) (G:EG):Option SK:=match zuy E cl with
 | none=>none
 | some (f,az)=>match Nat.beq f x.f && Nat.ble az.length x.n with
  | false=>none
  | true=>match zkh G 1000 (Yo G (zdf az)) [] with
   | none=>none
   | some seen=>match zkj x.un true seen 0 with
    | L0=>match L0++zkj x.un false seen 0 with
     | L=>match zee L && Nat.beq L0.length x.b with
      | false=>none
      | true=>some ⟨fun k=>meet x.b x.hin (fun t=>ja (x.g t) fun r=>inlX P ⟨x.f,x.n,x.rs, .skip,fun _=>none,0,x.un⟩ L x.b nid G k .ret 0 (unE x.hout (za _ r)) (unG x.hout (za _ r))) (z81 (J7 (mu1 L L.length G) az)) (inG L G)⟩
theorem z2a {P:Program} {x:RE} (hx:z69 P x) {o:Oper} {cl:Call} (ho:o.op = .call cl) {nid:Nat} {E:EF} {G:EG} {q:SK} (h:jai P x cl nid E G=some q):z3g P o E G q:=by
 obtain⟨fn,c,hf,hb,hn,hr,hg,hC⟩:=hx
 unfold jai at h
 split at h<;>try (cases h;done)
 rename_i f az ht
 split at h<;>try (cases h;done)
 rename_i hfx
 simp only[Bool.and_eq_true] at hfx
 have hf1:=qn hfx.1
 have hf2:=Nat.le_of_ble_eq_true hfx.2
 subst hf1
 split at h<;>try (cases h;done)
 rename_i seen hseen
 simp only at h
 split at h<;>try (cases h;done)
 rename_i hnd
 simp only[Bool.and_eq_true] at hnd
 cases h
 intro β k r hk
 obtain⟨t,hp,hj,hu⟩:=Ye hk
 cases hgt:x.g t with
 | none=>rw[hgt] at hj;cases hj
 | some r0=>
  rw[hgt] at hj
  replace hj:inlX P ⟨x.f,x.n,x.rs, .skip,fun _=>none,0,x.un⟩ (zkj x.un true seen 0++zkj x.un false seen 0) x.b nid G k .ret 0 (unE x.hout (za _ r0)) (unG x.hout (za _ r0))=some r:=hj
  obtain⟨_,s,NL,hs,hex,hkr,hu2⟩:=zsi hj
  obtain⟨e0,he0,hoc⟩:=hC t r0 hgt
  have hlb:=qn hnd.2
  refine⟨_,_,_,hkr,fun k2=>?_,fun id hid=>by rw[Z5] at hid;exact hid,fun W n F H hfl hd hF hH=>?_⟩
  ·refine(hu _).trans ?_
   rw[hgt]
   exact hu2 k2
  ·have hag:Agr o E G [] F H:=⟨hF,fun id h=>by cases h⟩
   have hout:=OutC.into (zc6 (P:=P) (n:=x.n) hp) hoc
   refine PE.eff hd ho (zhc ho hag ht) hg hf hb (by rw[hn];exact hf2) hfl (zww hex) (Z1 hnd.1) (fun i hi=>hH i (.inr (by rw[Z5];exact hi))) he0 (fun W1 R1 hg1 hr1=>by rw[hn];exact hout W1 R1 hg1 hr1) ?_
   rw[hr];exact hs
def z15 (re:FuncId→Option RE) (o:Oper) (E:EF):Option (RE×Call):=match o.op with
 | .call c=>match zuy E c with
  | some (f,_)=>match re f with
   | some x=>some (x,c)
   | none=>none
  | none=>none
 | _=>none
theorem zn0 {re:FuncId→Option RE} {o:Oper} {E:EF} {x:RE×Call} (h:z15 re o E=some x):o.op = .call x.2∧∃ f,re f=some x.1:=by
 unfold z15 at h
 split at h<;>try (cases h;done)
 rename_i c ho
 split at h<;>try (cases h;done)
 rename_i f az ht
 split at h<;>cases h
 rename_i y hy
 exact⟨ho,_,hy⟩
def syR (P:Program) (st:Sy1) (it:Nat→Nat→FuncId→Option IE) (re:FuncId→Option RE) (fuel:Nat):Nat→SyT
 | 0=>fun ctx nid site o E G=>match z15 re o E with
  | some x=>jai P x.1 x.2 nid E G
  | none=>stK P (st ctx nid site o E G) nid o E G
 | d+1=>fun ctx nid site o E G=>match z15 re o E with
  | some x=>jai P x.1 x.2 nid E G
  | none=>match z7u it ctx site o E with
   | some x=>inlK P (syR P st it re fuel d) fuel x.1 x.2 nid E G
   | none=>stK P (st ctx nid site o E G) nid o E G
theorem z9h {P:Program} {st:Sy1} {it:Nat→Nat→FuncId→Option IE} {re:FuncId→Option RE} {fuel:Nat} (hm:P.follows .mixedOrders=true) (hst:∀ ctx nid site o E G q,st ctx nid site o E G=some q→SOk P o E G q) (hit:∀ ctx site f x,it ctx site f=some x→z8v P x) (hre:∀ f x,re f=some x→z69 P x):∀ d,zqj P (syR P st it re fuel d)
 | 0=>fun ctx nid site o E G q h=>by
  simp only[syR] at h
  split at h
  ·rename_i x hx
   obtain⟨ho,f,hf⟩:=zn0 hx
   exact z2a (hre _ _ hf) ho h
  ·exact z6d (fun x hx=>hst _ _ _ _ _ _ _ hx) h
 | d+1=>fun ctx nid site o E G q h=>by
  simp only[syR] at h
  split at h
  ·rename_i x hx
   obtain⟨ho,f,hf⟩:=zn0 hx
   exact z2a (hre _ _ hf) ho h
  ·split at h
   ·rename_i x hx
    obtain⟨ho,ctx',site',f,hf⟩:=z0z hx
    exact jbv (z9h hm hst hit hre d) hm (hit _ _ _ _ hf) ho h
   ·exact z6d (fun x hx=>hst _ _ _ _ _ _ _ hx) h
end Go.Proofs.YtdllbdlnmjngcaaGreat.T

namespace Go.Proofs.YtdllbdlnmjngcaaGreat.T
open Go Go.RowKit L
set_option linter.unusedVariables false
set_option linter.unusedSimpArgs false
noncomputable def lk {α:Type} (l:List (Nat×α)) (k:Nat):Option α:=List.rec (motive:=fun _=>Option α) none (fun e _ ih=>cond (Nat.beq k e.1) (some e.2) ih) l
noncomputable def hsN (l:List Nat) (k:Nat):Bool:=List.rec (motive:=fun _=>Bool) false (fun a _ ih=>cond (Nat.beq k a) true ih) l
noncomputable def lkL {α:Type} (l:List (Nat×List α)) (k:Nat):List α:=List.rec (motive:=fun _=>List α) [] (fun e _ ih=>cond (Nat.beq k e.1) e.2 ih) l
theorem zur {α:Type} {a:Nat} {y:α} {l:List (Nat×α)} {f:Nat} {x:α} (h:lk ((a,y) :: l) f=some x):f=a∧y=x∨lk l f=some x:=by
 have h:cond (Nat.beq f a) (some y) (lk l f)=some x:=h
 cases hb:Nat.beq f a
 ·rw[hb] at h;exact .inr h
 ·rw[hb] at h;exact .inl ⟨Nat.eq_of_beq_eq_true hb,Option.some.inj h⟩
structure Cfg where
 zt:ZT
 zt2:ZT
 zy:ZY
 ky:TypeId→Option KY
structure z8z (c:Cfg):Prop where
 zt:zdl Tryz.prog c.zt
 zt2:zdl Tryz.prog c.zt2
 ky:z8n Tryz.prog c.ky
noncomputable def prsK (cf:Cfg) (bds:List (Nat×List Nat)) (lits:List (Nat×List (Nat×LK))) (S:zz7) (c:Nat):Prm:={ bd:=hsN (lkL bds c),lit:=lk (lkL lits c),zt:=cf.zt,zt2:=cf.zt2,zy:=cf.zy,S:=S }
noncomputable def fzK (l:List (Nat×List (Nat×Ty))) (c t:Nat):List (Nat×Ty):=lkL l (c*1000000+t)
noncomputable def frK (l:List Nat) (c t:Nat):Bool:=hsN l (c*1000000+t)
noncomputable def itK (l:List (Nat×IE)) (c t f:Nat):Option IE:=lk l ((c*1000000+t)*10000+f)
noncomputable def syK (cf:Cfg) (bds:List (Nat×List Nat)) (lits:List (Nat×List (Nat×LK))) (fz:List (Nat×List (Nat×Ty))) (frs:List Nat) (S:List (Nat×PF)) (T:List (Nat×FF)) (it:List (Nat×IE)) (re:List (Nat×RE)) (nn d:Nat):SyT:=
 syR Tryz.prog (z5q cf.ky (prsK cf bds lits (lk S)) (fzK fz) (frK frs) (lk T)) (itK it) (lk re) nn d
def qe (f:FuncId) (x:PF):Prop:=zvz Tryz.prog f x.ats x.rt x.g
def FFOk (f:FuncId) (x:FF):Prop:=zgx Tryz.prog f x.ats x.e x.rt x.g
theorem tn:Jl Tryz.prog (lk []):=fun f x h=>by cases h
theorem tc {f:FuncId} {y:PF} {l:List (Nat×PF)} (h:qe f y) (hl:Jl Tryz.prog (lk l)):Jl Tryz.prog (lk ((f,y) :: l)):=fun g x hx=>by
 rcases zur hx with ⟨rfl,rfl⟩ | hx
 ·exact h
 ·exact hl g x hx
theorem gn:Zj Tryz.prog (lk []):=fun f x h=>by cases h
theorem gc {f:FuncId} {y:FF} {l:List (Nat×FF)} (h:FFOk f y) (hl:Zj Tryz.prog (lk l)):Zj Tryz.prog (lk ((f,y) :: l)):=fun g x hx=>by
 rcases zur hx with ⟨rfl,rfl⟩ | hx
 ·exact h
 ·exact hl g x hx
def zy1 (l:List (Nat×IE)):Prop:=∀ k x,lk l k=some x→z8v Tryz.prog x
noncomputable abbrev ie (f:FuncId) (fn:Func) (h:Nat→Option HK) (ctx:Nat) (un:List Nat):IE:=⟨f,fn.ntmps,fn.results.toList,fn.body.getD .skip,h,ctx,un⟩
noncomputable def ckI (f:FuncId) (fn:Func):Bool:=fn.body.isSome && ya Tryz.prog f
theorem itn:zy1 []:=fun k x h=>by cases h
theorem zjn {fn:Func} (h:fn.body.isSome=true):fn.body=some (fn.body.getD .skip):=by
 cases hb:fn.body with
 | none=>rw[hb] at h;cases h
 | some c=>rfl
theorem itc (k:Nat) {f:FuncId} {fn:Func} (hf:Tryz.prog.funcs[f]? = some fn) (h:Nat→Option HK) (ctx:Nat) (un:List Nat) {l:List (Nat×IE)} (hl:zy1 l) (hc:ckI f fn=true):zy1 ((k,ie f fn h ctx un) :: l):=fun g x hx=>by
 rcases zur hx with ⟨rfl,rfl⟩ | hx
 ·unfold ckI at hc
  rw[Bool.and_eq_true] at hc
  exact⟨fn,hf,zjn hc.1,rfl,rfl,hc.2⟩
 ·exact hl g x hx
noncomputable def ckF (f:FuncId) (fn:Func) (ats:List Ty):Bool:=fn.body.isSome && (Nat.ble ats.length fn.ntmps && ya Tryz.prog f)
def zrw (l:List (Nat×RE)):Prop:=∀ f x,lk l f=some x→z69 Tryz.prog x
theorem rn:zrw []:=fun k x h=>by cases h
theorem z7a {cf:Cfg} (hcf:z8z cf) {bds:List (Nat×List Nat)} {lits:List (Nat×List (Nat×LK))} {fz:List (Nat×List (Nat×Ty))} {frs:List Nat} {S:List (Nat×PF)} {T:List (Nat×FF)} {it:List (Nat×IE)} {re:List (Nat×RE)} {nn d:Nat} (hS:Jl Tryz.prog (lk S)) (hT:Zj Tryz.prog (lk T)) (hI:zy1 it) (hR:zrw re):zqj Tryz.prog (syK cf bds lits fz frs S T it re nn d):=
 z9h mixed (z8m hcf.ky hT (fun _=>hS) (fun _=>hcf.zt) (fun _=>hcf.zt2)) (fun _ _ _ _ h=>hI _ _ h) hR d
section
variable {cf : Cfg} (hcf : z8z cf) {f : FuncId} {fn : Func} (hf : Tryz.prog.funcs[f]? = some fn) (nn d : Nat) (bds : List (Nat × List Nat)) (lits : List (Nat × List (Nat × LK))) (fz : List (Nat × List (Nat × Ty))) (frs : List Nat) {S : List (Nat × PF)} {T : List (Nat × FF)} {it : List (Nat × IE)} {re : List (Nat × RE)} (hI : zy1 it) (h : Nat → Option HK)
include hcf hf hI
theorem mkP (hR:zrw re) (hT:Zj Tryz.prog (lk T)) (hS:Jl Tryz.prog (lk S)) {x:PF} (hc:ckF f fn x.ats=true) (hk:∀ t,funP Tryz.prog (syK cf bds lits fz frs S T it re nn d) h fn.ntmps fn.results.toList (fn.body.getD .skip) x.ats x.rt nn t=x.g t):qe f x:=by
 unfold ckF at hc
 simp only[Bool.and_eq_true] at hc
 have h:=z9n (z7a hcf (bds:=bds) (lits:=lits) (fz:=fz) (frs:=frs) (nn:=nn) (d:=d) hS hT hI hR) mixed (hint:=h) (ats:=x.ats) (rt:=x.rt) (nn:=nn) hf (zjn hc.1) rfl rfl hc.2.1 hc.2.2
 exact⟨h.1,fun t r hr=>h.2 t r ((hk t).trans hr)⟩
theorem mkF (hR:zrw re) (hT:Zj Tryz.prog (lk T)) (hS:Jl Tryz.prog (lk S)) {x:FF} (hc:ckF f fn x.ats=true) (hk:∀ t,funF Tryz.prog (syK cf bds lits fz frs S T it re nn d) h fn.ntmps fn.results.toList (fn.body.getD .skip) x.ats x.e x.rt nn t=x.g t):FFOk f x:=by
 unfold ckF at hc
 simp only[Bool.and_eq_true] at hc
 have h:=z9s (z7a hcf (bds:=bds) (lits:=lits) (fz:=fz) (frs:=frs) (nn:=nn) (d:=d) hS hT hI hR) mixed (hint:=h) (ats:=x.ats) (ee:=x.e) (rt:=x.rt) (nn:=nn) hf (zjn hc.1) rfl rfl hc.2.1 hc.2.2
 exact⟨h.1,fun t r hr=>h.2 t r ((hk t).trans hr)⟩
theorem mkR (hR:zrw re) (hT:Zj Tryz.prog (lk T)) {ats:List Ty} {rt:Ty} {b:(DL ats→Option rt.D)→DL ats→Option rt.D} {q:Nat→DL ats→Option rt.D} {S:(DL ats→Option rt.D)→List (Nat×PF)} (hS:∀ rec,qe f ⟨ats,rt,rec⟩→Jl Tryz.prog (lk (S rec))) (hc:ckF f fn ats=true) (hk:∀ rec t,funP Tryz.prog (syK cf bds lits fz frs (S rec) T it re nn d) h fn.ntmps fn.results.toList (fn.body.getD .skip) ats rt nn t=b rec t)
  (h0:∀ t,q 0 t=none) (h1:∀ m t,q (m+1) t=b (q m) t):∀ m,qe f ⟨ats,rt,q m⟩
 | 0=>by
  unfold ckF at hc
  simp only[Bool.and_eq_true] at hc
  exact⟨hc.2.2,fun t r hr=>by have:=(h0 t).symm.trans hr;cases this⟩
 | m+1=>by
  have ih:=mkR hR hT hS hc hk h0 h1 m
  exact mkP hcf hf nn d bds lits fz frs hI h hR hT (hS _ ih) (x:=⟨ats,rt,q (m+1)⟩) hc fun t=>(hk _ t).trans (h1 m t).symm
theorem mkS (hR:zrw re) {ats:List Ty} {e:TypeId} {rt:Ty} {b:(DL ats→Option (List rt.D))→DL ats→Option (List rt.D)} {q:Nat→DL ats→Option (List rt.D)} {T:(DL ats→Option (List rt.D))→List (Nat×FF)} {S:List (Nat×PF)} (hT:∀ rec,FFOk f ⟨ats,e,rt,rec⟩→Zj Tryz.prog (lk (T rec))) (hS:Jl Tryz.prog (lk S)) (hc:ckF f fn ats=true) (hk:∀ rec t,funF Tryz.prog (syK cf bds lits fz frs S (T rec) it re nn d) h fn.ntmps fn.results.toList (fn.body.getD .skip) ats e rt nn t=b rec t)
  (h0:∀ t,q 0 t=none) (h1:∀ m t,q (m+1) t=b (q m) t):∀ m,FFOk f ⟨ats,e,rt,q m⟩
 | 0=>by
  unfold ckF at hc
  simp only[Bool.and_eq_true] at hc
  exact⟨hc.2.2,fun t r hr=>by have:=(h0 t).symm.trans hr;cases this⟩
 | m+1=>by
  have ih:=mkS hR hT hS hc hk h0 h1 m
  exact mkF hcf hf nn d bds lits fz frs hI h hR (hT _ ih) hS (x:=⟨ats,e,rt,q (m+1)⟩) hc fun t=>(hk _ t).trans (h1 m t).symm
end
theorem FFOk.pure {f:FuncId} {x:FF} (h:FFOk f x):qe f ⟨x.ats, .sl x.rt,x.g⟩:=⟨h.1,fun t r hr=>(h.2 t r hr).forget⟩
end Go.Proofs.YtdllbdlnmjngcaaGreat.T

namespace Go.Proofs.YtdllbdlnmjngcaaGreat.L
open Go Go.RowKit
set_option linter.unusedVariables false
theorem e_ {α:Sort _} (a:α):a=a:=rfl
theorem bs {α β:Type} {m:G α} {f:α→G β} {n:Nat} {r:β} (h:G.bind m f n=some r):∃ a,m n=some a∧f a n=some r:=G.bind_some h
theorem pz {α:Type} {a r:α} {n:Nat} (h:G.pure a n=some r):a=r:=G.pure_some h
theorem bk {α β:Type} {m:G α} {f:α→G β} {n:Nat} {r:β} {C:Prop} (h:G.bind m f n=some r) (k:∀ a,m n=some a→f a n=some r→C):C:=by
 obtain⟨a,h1,h2⟩:=G.bind_some h
 exact k a h1 h2
section
variable {P : Program} {W : Env} {n : Nat} {F : PFrame} {H : PHeap} {o : Oper} {l : List Oper} {ops : Array Oper}
theorem Q1 {K:PFrame→PHeap→Prop} {d:Nat} {op:Op} {ty:Nat} {pos:String} {af:Array Edge} (p:PV) (hp:jp P H F ⟨some d,op,ty,pos,af,none⟩=some p) (h:PL P W n ops l (F.put (some d) p) H K) (hd:d<n:=by decide):PL P W n ops (⟨some d,op,ty,pos,af,none⟩ :: l) F H K:=PL.q rfl (Vf hd) hp h
theorem Q2 {Q:PFrame→Prop} {d:Nat} {op:Op} {ty:Nat} {pos:String} {af:Array Edge} (p:PV) (hp:jp P H F ⟨some d,op,ty,pos,af,none⟩=some p) (h:zhv P W n ops H Q l (F.put (some d) p)) (hd:d<n:=by decide):zhv P W n ops H Q (⟨some d,op,ty,pos,af,none⟩ :: l) F:=QF.q rfl (Vf hd) hp h
theorem Q3 {K:PFrame→PHeap→Prop} {d:Nat} {op:Op} {ty:Nat} {pos:String} {af:Array Edge} (p:PV) (hp:PQ P W ⟨some d,op,ty,pos,af,none⟩ F H p) (h:PL P W n ops l (F.put (some d) p) H K) (hd:d<n:=by decide):PL P W n ops (⟨some d,op,ty,pos,af,none⟩ :: l) F H K:=PL.qq rfl (Vf hd) hp h
theorem Q4 {Q:PFrame→Prop} {d:Nat} {op:Op} {ty:Nat} {pos:String} {af:Array Edge} (p:PV) (hp:PQ P W ⟨some d,op,ty,pos,af,none⟩ F H p) (h:zhv P W n ops H Q l (F.put (some d) p)) (hd:d<n:=by decide):zhv P W n ops H Q (⟨some d,op,ty,pos,af,none⟩ :: l) F:=QF.qq rfl (Vf hd) hp h
theorem SR {Q:Exit→PFrame→PHeap→Prop} {id:Nat} {l:List Oper} {y:Code} (h:∀ K:PFrame→PHeap→Prop,(∀ F H,PC P W n y F H Q→K F H)→PL P W n l.toArray l F H K):PC P W n (.seq (.region id l.toArray false) y) F H Q:=PC.seq fun K hK=>PC.region (h K hK)
theorem q1 {K:PFrame→PHeap→Prop} {d:Nat} {op:Op} {ty:Nat} {pos:String} {af:Array Edge} {p:PV} (hp:jp P H F ⟨some d,op,ty,pos,af,none⟩=some p) (h:PL P W n ops l (F.put (some d) p) H K) (hd:d<n:=by decide):PL P W n ops (⟨some d,op,ty,pos,af,none⟩ :: l) F H K:=Q1 p hp h hd
theorem q2 {Q:PFrame→Prop} {d:Nat} {op:Op} {ty:Nat} {pos:String} {af:Array Edge} {p:PV} (hp:jp P H F ⟨some d,op,ty,pos,af,none⟩=some p) (h:zhv P W n ops H Q l (F.put (some d) p)) (hd:d<n:=by decide):zhv P W n ops H Q (⟨some d,op,ty,pos,af,none⟩ :: l) F:=Q2 p hp h hd
theorem q3 {K:PFrame→PHeap→Prop} {d:Nat} {op:Op} {ty:Nat} {pos:String} {af:Array Edge} {p:PV} (hp:PQ P W ⟨some d,op,ty,pos,af,none⟩ F H p) (h:PL P W n ops l (F.put (some d) p) H K) (hd:d<n:=by decide):PL P W n ops (⟨some d,op,ty,pos,af,none⟩ :: l) F H K:=Q3 p hp h hd
theorem q4 {Q:PFrame→Prop} {d:Nat} {op:Op} {ty:Nat} {pos:String} {af:Array Edge} {p:PV} (hp:PQ P W ⟨some d,op,ty,pos,af,none⟩ F H p) (h:zhv P W n ops H Q l (F.put (some d) p)) (hd:d<n:=by decide):zhv P W n ops H Q (⟨some d,op,ty,pos,af,none⟩ :: l) F:=Q4 p hp h hd
theorem nl {ops:Array Oper} {K X:PFrame→PHeap→Prop} (hK:∀ F H,X F H→K F H) (h:X F H):PL P W n ops [] F H K:=PL.nil (hK _ _ h)
theorem m_ {K:PFrame→PHeap→Prop} {d:Nat} {x:Operand} {ty:Nat} {pos:String} {af:Array Edge} {p:PV} (hx:evP F x=p) (h:PL P W n ops l (F.put (some d) p) H K) (hd:d<n:=by decide):PL P W n ops (⟨some d, .move x,ty,pos,af,none⟩ :: l) F H K:=Q1 p (z1v hx) h hd
theorem sk {Q:Exit→PFrame→PHeap→Prop} {K X:PFrame→PHeap→Prop} (hK:∀ F H,X F H→K F H) (h:X F H):PC P W n .skip F H (z12 K Q):=PC.skip (hK _ _ h)
theorem cd {Q:Exit→PFrame→PHeap→Prop} {c:Operand} {x y:Code} {b:Bool} {α:Type} {g1 g2:G α} {m:Nat} {r:α} (hc:evP F c = .u (.bool b)) (h:G.cond b g1 g2 m=some r) (k1:b=true→g1 m=some r→PC P W n x F H Q) (k2:b=false→g2 m=some r→PC P W n y F H Q):PC P W n (.cond c x y) F H Q:=by
 rcases G.cond_some h with ⟨hb,h⟩ | ⟨hb,h⟩
 ·exact PC.condTb hc hb (k1 hb h)
 ·exact PC.condFb hc hb (k2 hb h)
theorem A1 {c:Code} {Q:Exit→PFrame→PHeap→Prop} {p0:PV} (i0:Nat) (h0:F i0=p0) (h:∀ F:PFrame,F i0=p0→PC P W n c F H Q):PC P W n c F H Q:=h F h0
theorem A2 {c:Code} {Q:Exit→PFrame→PHeap→Prop} {p0 p1:PV} (i0:Nat) (h0:F i0=p0) (i1:Nat) (h1:F i1=p1) (h:∀ F:PFrame,F i0=p0→F i1=p1→PC P W n c F H Q):PC P W n c F H Q:=h F h0 h1
theorem A3 {c:Code} {Q:Exit→PFrame→PHeap→Prop} {p0 p1 p2:PV} (i0:Nat) (h0:F i0=p0) (i1:Nat) (h1:F i1=p1) (i2:Nat) (h2:F i2=p2) (h:∀ F:PFrame,F i0=p0→F i1=p1→F i2=p2→PC P W n c F H Q):PC P W n c F H Q:=h F h0 h1 h2
theorem A4 {c:Code} {Q:Exit→PFrame→PHeap→Prop} {p0 p1 p2 p3:PV} (i0:Nat) (h0:F i0=p0) (i1:Nat) (h1:F i1=p1) (i2:Nat) (h2:F i2=p2) (i3:Nat) (h3:F i3=p3) (h:∀ F:PFrame,F i0=p0→F i1=p1→F i2=p2→F i3=p3→PC P W n c F H Q):PC P W n c F H Q:=h F h0 h1 h2 h3
theorem A5 {c:Code} {Q:Exit→PFrame→PHeap→Prop} {p0 p1 p2 p3 p4:PV} (i0:Nat) (h0:F i0=p0) (i1:Nat) (h1:F i1=p1) (i2:Nat) (h2:F i2=p2) (i3:Nat) (h3:F i3=p3) (i4:Nat) (h4:F i4=p4) (h:∀ F:PFrame,F i0=p0→F i1=p1→F i2=p2→F i3=p3→F i4=p4→PC P W n c F H Q):PC P W n c F H Q:=h F h0 h1 h2 h3 h4
theorem A6 {c:Code} {Q:Exit→PFrame→PHeap→Prop} {p0 p1 p2 p3 p4 p5:PV} (i0:Nat) (h0:F i0=p0) (i1:Nat) (h1:F i1=p1) (i2:Nat) (h2:F i2=p2) (i3:Nat) (h3:F i3=p3) (i4:Nat) (h4:F i4=p4) (i5:Nat) (h5:F i5=p5) (h:∀ F:PFrame,F i0=p0→F i1=p1→F i2=p2→F i3=p3→F i4=p4→F i5=p5→PC P W n c F H Q):PC P W n c F H Q:=h F h0 h1 h2 h3 h4 h5
theorem A7 {c:Code} {Q:Exit→PFrame→PHeap→Prop} {p0 p1 p2 p3 p4 p5 p6:PV} (i0:Nat) (h0:F i0=p0) (i1:Nat) (h1:F i1=p1) (i2:Nat) (h2:F i2=p2) (i3:Nat) (h3:F i3=p3) (i4:Nat) (h4:F i4=p4) (i5:Nat) (h5:F i5=p5) (i6:Nat) (h6:F i6=p6) (h:∀ F:PFrame,F i0=p0→F i1=p1→F i2=p2→F i3=p3→F i4=p4→F i5=p5→F i6=p6→PC P W n c F H Q):PC P W n c F H Q:=h F h0 h1 h2 h3 h4 h5 h6
theorem A8 {c:Code} {Q:Exit→PFrame→PHeap→Prop} {p0 p1 p2 p3 p4 p5 p6 p7:PV} (i0:Nat) (h0:F i0=p0) (i1:Nat) (h1:F i1=p1) (i2:Nat) (h2:F i2=p2) (i3:Nat) (h3:F i3=p3) (i4:Nat) (h4:F i4=p4) (i5:Nat) (h5:F i5=p5) (i6:Nat) (h6:F i6=p6) (i7:Nat) (h7:F i7=p7) (h:∀ F:PFrame,F i0=p0→F i1=p1→F i2=p2→F i3=p3→F i4=p4→F i5=p5→F i6=p6→F i7=p7→PC P W n c F H Q):PC P W n c F H Q:=h F h0 h1 h2 h3 h4 h5 h6 h7
theorem A11 {c:Code} {Q:Exit→PFrame→PHeap→Prop} {p0 p1 p2 p3 p4 p5 p6 p7 p8 p9 p10:PV} (i0:Nat) (h0:F i0=p0) (i1:Nat) (h1:F i1=p1) (i2:Nat) (h2:F i2=p2) (i3:Nat) (h3:F i3=p3) (i4:Nat) (h4:F i4=p4) (i5:Nat) (h5:F i5=p5) (i6:Nat) (h6:F i6=p6) (i7:Nat) (h7:F i7=p7) (i8:Nat) (h8:F i8=p8) (i9:Nat) (h9:F i9=p9) (i10:Nat) (h10:F i10=p10) (h:∀ F:PFrame,F i0=p0→F i1=p1→F i2=p2→F i3=p3→F i4=p4→F i5=p5→F i6=p6→F i7=p7→F i8=p8→F i9=p9→F i10=p10→PC P W n c F H Q):PC P W n c F H Q:=h F h0 h1 h2 h3 h4 h5 h6 h7 h8 h9 h10
theorem A12 {c:Code} {Q:Exit→PFrame→PHeap→Prop} {p0 p1 p2 p3 p4 p5 p6 p7 p8 p9 p10 p11:PV} (i0:Nat) (h0:F i0=p0) (i1:Nat) (h1:F i1=p1) (i2:Nat) (h2:F i2=p2) (i3:Nat) (h3:F i3=p3) (i4:Nat) (h4:F i4=p4) (i5:Nat) (h5:F i5=p5) (i6:Nat) (h6:F i6=p6) (i7:Nat) (h7:F i7=p7) (i8:Nat) (h8:F i8=p8) (i9:Nat) (h9:F i9=p9) (i10:Nat) (h10:F i10=p10) (i11:Nat) (h11:F i11=p11) (h:∀ F:PFrame,F i0=p0→F i1=p1→F i2=p2→F i3=p3→F i4=p4→F i5=p5→F i6=p6→F i7=p7→F i8=p8→F i9=p9→F i10=p10→F i11=p11→PC P W n c F H Q):PC P W n c F H Q:=h F h0 h1 h2 h3 h4 h5 h6 h7 h8 h9 h10 h11
end
end Go.Proofs.YtdllbdlnmjngcaaGreat.L

namespace Go.Proofs.YtdllbdlnmjngcaaGreat.L
open Go Go.RowKit
set_option linter.unusedVariables false
set_option linter.unusedSimpArgs false
section
variable {α β : Type} {kv : α → Value} {eqb : α → α → Bool}
def kIx (eqb:α→α→Bool) (k:α):List α→Option Nat
 | []=>none
 | e :: es=>if eqb k e then some 0 else (kIx eqb k es).map (· + 1)
theorem zef {k:α}:∀ {ks:List α} {j:Nat},kIx eqb k ks=some j→∃ e,ks[j]? = some e∧eqb k e=true
 | [],j,h=>by cases h
 | e :: es,j,h=>by
  unfold kIx at h
  split at h
  ·rename_i he;cases h;exact⟨e,rfl,he⟩
  ·obtain⟨i,hi,rfl⟩:=Option.map_eq_some_iff.1 h
   obtain⟨e',h1,h2⟩:=zef hi
   exact⟨e',by simpa using h1,h2⟩
theorem zsc {k:α}:∀ {ks:List α} {vs:List β} {i:Nat},ks.length=vs.length→Qz eqb k (ks.zip vs) i=(kIx eqb k ks).bind fun j=>(vs[j]?).map fun v=>(i+j,v)
 | [],[],i,_=>rfl
 | e :: es,v :: vs,i,h=>by
  simp only[List.zip_cons_cons,Qz,kIx]
  split
  ·simp
  ·rw[zsc (by simpa using h)]
   cases kIx eqb k es with
   | none=>rfl
   | some j=>
    simp only[Option.map_some,Option.bind_some,List.getElem?_cons_succ]
    cases vs[j]? with
    | none=>rfl
    | some u=>simp only[Option.map_some,Option.some.injEq,Prod.mk.injEq,and_true];omega
end
def mapRφ (ks:List Value) (bs:List Nat) (clock:Nat):Nat→Obj→List Value→Prop:=fun _ o vs=>∃ arr,o = .map arr clock∧arr.toList.map (·.key)=ks∧arr.toList.map (·.val)=vs∧arr.toList.map (·.born)=bs∧bs.Nodup∧∀ b∈bs,b<clock
def Qf (ks:List Value) (bs:List Nat) (clock:Nat) (cs:List PV):PBody := .raw false cs (mapRφ ks bs clock)
def itφ (since:Nat) (seen:Array Nat) (st:Nat):Nat→Obj→List Value→Prop:=fun _ o vs=>∃ b,vs=[.map (some b)]∧o = .mapIter (some b) since seen st
def itB (id ver since:Nat) (seen:Array Nat) (st:Nat):PBody := .raw true [.ps id ver] (itφ since seen st)
theorem z67 {w:World} {g:Nat} {o:Obj} (h:w.heap[g]? = some o):{ w with heap:=w.heap.setIfInBounds g o } = w:=by
 have:w.heap.setIfInBounds g o=w.heap:=by
  apply Array.ext_getElem?
  intro i
  by_cases e:g=i
  ·subst e
   have hlt:=(Array.getElem?_eq_some_iff.1 h).1
   simp[Array.getElem?_setIfInBounds,hlt,h]
   exact((Array.getElem?_eq_some_iff.1 h).2).symm
  ·simp[Array.getElem?_setIfInBounds,e]
 rw[this]
section
variable {P : Program} {W : Env} {n : Nat} {H : PHeap} {F : PFrame} {o : Oper} {K : PV → PHeap → Prop}
variable {α : Type} {key elem : TypeId} {kv : α → Value} {eqb : α → α → Bool} {x y z : Operand} {t : TypeId} {id ver clock : Nat} {ks : List α} {bs : List Nat} {cs : List PV}
theorem zek {kvs:List Value} {V:Nat→Value} {w:World} {v:Value} (hH:H id = ⟨ver,some (Qf kvs bs clock cs)⟩) (hr:HRel P W H V w) (hv:Rp W.Z H V w (.ps id ver) v) :
  ∃ g arr,v = .map (some g)∧V id = .map (some g)∧W.w.heap.size≤g∧w.heap[g]? = some (.map arr clock)∧arr.toList.map (·.key)=kvs∧RpL W.Z H V w cs (arr.toList.map (·.val))∧arr.toList.map (·.born)=bs∧bs.Nodup∧∀ b∈bs,b<clock:=by
 obtain⟨g,o,vs,e,hg,hh,⟨arr,rfl,h1,rfl,h2,h3,h4⟩,hR⟩:=hr.map id false cs _ (by rw[hH];rfl)
 cases hv with
 | ps _ _ _ hvv hq=>
  have:=hq (by rw[hH];rfl) (by rw[hH])
  exact⟨g,arr,by rw[this,e];rfl,e,hg,hh,h1,hR,h2,h3,h4⟩
theorem jbo {arr:Array MapEntry} (h:arr.toList.map (·.key)=ks.map kv):arr.toList.map (fun e=>(e.key,e.val))=(ks.zip (arr.toList.map (·.val))).map fun e=>(kv e.1,(fun v:Value=>v) e.2):=by
 generalize arr.toList=l at h
 clear arr
 induction l generalizing ks with
 | nil=>cases ks with
  | nil=>rfl
  | cons _ _=>simp at h
 | cons e l ih=>cases ks with
  | nil=>simp at h
  | cons k ks=>
   simp only[List.map_cons,List.cons.injEq] at h
   simp only[List.map_cons,List.zip_cons_cons,h.1,List.cons.injEq,true_and]
   exact ih h.2
theorem zoe (KL:zho P key kv eqb) (k:α) (w:World) {arr:Array MapEntry} (h:arr.toList.map (·.key)=ks.map kv):(Instr.findKey key (kv k) arr.toList).run P w = .ok ((kIx eqb k ks).bind fun j=>(arr.toList[j]?).map fun e=>(j,e.val)) w:=by
 have hl:ks.length=(arr.toList.map (·.val)).length:=by have:=congrArg List.length h;simpa using this.symm
 rw[zbk (vv:=fun v:Value=>v) KL k w (jbo h),zsc hl]
 congr 1
 cases kIx eqb k ks with
 | none=>rfl
 | some j=>
  simp only[Option.bind_some,List.getElem?_map,Nat.zero_add]
  cases arr.toList[j]?<;>rfl
theorem PQ.entryHit (KL:zho P key kv eqb) (ho:o.op = .mapEntry t x y) (ht:P.underlying t=some (.map key elem)) (hH:H id = ⟨ver,some (Qf (ks.map kv) bs clock cs)⟩) (hx:evP F x = .ps id ver) {pk:PV} {k:α} (hy:evP F y=pk) (hk:pk.val2=some (kv k)) {j b:Nat} {c:PV} (hj:kIx eqb k ks=some j) (hc:cs[j]? = some c) (hbj:bs[j]? = some b) :
  PQ P W o F H (.tup [c, .u (.int .i64 (b:Nat))]):=PQ.of_run fun V a w hw hh=>by
 have hxv:=hh x (by rw[ho];simp[Op.operands])
 have hyv:=(hh y (by rw[ho];simp[Op.operands])).val2 (by rw[hy];exact hk)
 rw[hx] at hxv
 obtain⟨g,arr,hv,hV,hg,hb,hkeys,hR,hborn,hnd,hlt⟩:=zek hH hw hxv
 obtain⟨e,he1,he2⟩:=zef hj
 have hke:=KL.beq _ _ he2
 have hjl:j<arr.toList.length:=by
  have h1:=congrArg List.length hkeys
  have h2:=(List.getElem?_eq_some_iff.1 he1).1
  simp at h1 ⊢;omega
 obtain⟨ae,hae⟩:∃ ae,arr.toList[j]? = some ae:=⟨_,List.getElem?_eq_getElem hjl⟩
 have hae':arr[j]? = some ae:=by simpa using hae
 have hak:ae.key=kv k:=by
  have:(arr.toList.map (·.key))[j]? = (ks.map kv)[j]?:=by rw[hkeys]
  rw[List.getElem?_map,List.getElem?_map,hae,he1] at this
  simp only[Option.map_some,Option.some.injEq] at this
  rw[this,hke]
 have hab:ae.born=b:=by
  have:(arr.toList.map (·.born))[j]? = bs[j]?:=by rw[hborn]
  rw[List.getElem?_map,hae,hbj] at this
  simpa using this
 have hsame:arr.modify j (fun e=>{ e with key:=kv k })=arr:=by
  apply Array.ext'
  rw[Array.toList_modify,Go.ChangeMaps.modify_eq_set _ _ _ _ hae]
  have:({ ae with key:=kv k }:MapEntry)=ae:=by rw[← hak]
  rw[this]
  exact WideElems.set_self _ _ _ hae
 refine⟨.tuple #[ae.val, .int .i64 (b:Nat)],?_,?_⟩
 ·have hks:(Instr.keyThatStays (kv k) (kv k)).run P w = .ok (kv k) w:=by simp[Instr.keyThatStays,KL.bits]
  have hf:=zoe KL k w hkeys
  rw[hj,Option.bind_some,hae,Option.map_some] at hf
  have:(Instr.mapEntry t (.map (some g)) (kv k)).run P w = .ok (.tuple #[ae.val,goInt ae.born]) w:=by
   simp[Instr.mapEntry,run_underlying ht,MapKept.run_getObj_map hb,KL.chk,hf,hae',hak,hks,hsame,MapKept.run_setObj_map _ hb,z67 hb]
  simp only[execOp,ho,hv,hyv,Sem.run_bind,this,Result.andThen_ok,hab]
  rfl
 ·refine .tup _ _ rfl fun i p v h1 h2=>?_
  match i,h1,h2 with
  | 0,h1,h2=>
   cases h1;cases h2
   exact hR.2 j c ae.val hc (by rw[List.getElem?_map,hae];rfl)
  | 1,h1,h2=>cases h1;cases h2;exact .u _
theorem zwr {V:Nat→Value} {w:World} {g:Nat} {ob:Obj} {bd:PBody} (hr:HRel P W H V w) (hH:∃ bd,H id = ⟨ver,some bd⟩) (hV:jy (V id)=some g) (hg:W.w.heap.size≤g):Turn W H V w id ⟨ver,some bd⟩ (V id) { w with heap:=w.heap.setIfInBounds g ob }:=by
 obtain⟨bd0,hH⟩:=hH
 have hl:(H id).body.isSome=true:=by rw[hH];rfl
 have hother:∀ b,b≠g→(w.heap.setIfInBounds g ob)[b]? = w.heap[b]?:=fun b hne=>by simp[Ne.symm hne]
 exact⟨hr.below.trans ⟨rfl,rfl,rfl,by simp,fun b hb=>hother b (by omega)⟩,by simp,fun b hb hn=>hother b fun e=>hn ⟨hl,by rw[e,hV]⟩,fun g' hg' => .inr ⟨hl,hg'⟩, .inr ⟨by rw[hH],rfl,hl⟩⟩
theorem PE.entryMiss (KL:zho P key kv eqb) (ho:o.op = .mapEntry t x y) (hd:jn n o) (ht:P.underlying t=some (.map key elem)) {zv:Value} (hz:∀ w,(zeroValue elem).run P w = .ok zv w) (hH:H id = ⟨ver,some (Qf (ks.map kv) bs clock cs)⟩) (hx:evP F x = .ps id ver) {pk:PV} {k:α} (hy:evP F y=pk) (hk:pk.val2=some (kv k)) (hj:kIx eqb k ks=none)
  (hK:K (.tup [.u zv, .u (.int .i64 (clock:Nat))]) (H.set id ⟨ver,some (Qf ((ks++[k]).map kv) (bs++[clock]) (clock+1) (cs++[.u zv]))⟩)):PE P W n o F H K:=fun V a w hr=>by
 have ev:∀(x:Operand),Rp W.Z H V w (evP F x) (a.eval x):=fun x=>Rp.eval (P:=P) x fun t _=>hr.slot t
 have hxv:=ev x
 have hyv:=(ev y).val2 (by rw[hy];exact hk)
 rw[hx] at hxv
 obtain⟨g,arr,hv,hV,hg,hb,hkeys,hR,hborn,hnd,hlt⟩:=zek hH hr.heap hxv
 have hgl:=(Array.getElem?_eq_some_iff.1 hb).1
 have hf:=zoe KL k w hkeys
 rw[hj,Option.bind_none] at hf
 have hrun:(Instr.mapEntry t (.map (some g)) (kv k)).run P w = .ok (.tuple #[zv,goInt clock]) { w with heap:=w.heap.setIfInBounds g (.map (arr.push ⟨kv k,zv,clock⟩) (clock+1)) }:=by
  simp[Instr.mapEntry,run_underlying ht,MapKept.run_getObj_map hb,KL.chk,hf,hz,MapKept.run_setObj_map _ hb]
 have hex:(execOp a.eval o).run P w = .ok (.value (.tuple #[zv,goInt clock])) { w with heap:=w.heap.setIfInBounds g (.map (arr.push ⟨kv k,zv,clock⟩) (clock+1)) }:=by
  simp only[execOp,ho,hv,hyv,Sem.run_bind,hrun,Result.andThen_ok];rfl
 have hturn:Turn W H V w id ⟨ver,some (Qf ((ks++[k]).map kv) (bs++[clock]) (clock+1) (cs++[.u zv]))⟩ (V id) { w with heap:=w.heap.setIfInBounds g (.map (arr.push ⟨kv k,zv,clock⟩) (clock+1)) }:=zwr hr.heap ⟨_,hH⟩ (by rw[hV];rfl) hg
 refine vk hex ⟨_,_,vd V id (V id),hK,?_⟩
 refine hr.turn hturn (fun bd hbd=>?_) o.dst hd (.tup _ _ rfl fun i p v h1 h2=>?_)
 ·cases hbd
  refine⟨g, .map (arr.push ⟨kv k,zv,clock⟩) (clock+1),_,hV,hg,by simp[hgl],⟨arr.push ⟨kv k,zv,clock⟩,rfl,by simp[hkeys],rfl,by simp[hborn],?_,fun b hb=>?_⟩,?_⟩
  ·rw[List.nodup_append]
   exact⟨hnd,by simp,fun a ha c hc e=>by simp at hc;have:=hlt a ha;omega⟩
  ·rcases List.mem_append.1 hb with h | h
   ·have:=hlt b h;omega
   ·simp at h;omega
  ·have h1:RpL W.Z (H.set id ⟨ver,some (Qf ((ks++[k]).map kv) (bs++[clock]) (clock+1) (cs++[.u zv]))⟩) (vd V id (V id)) { w with heap:=w.heap.setIfInBounds g (.map (arr.push ⟨kv k,zv,clock⟩) (clock+1)) } cs (arr.toList.map (·.val)):=⟨hR.1,fun i p v h3 h4=>hturn.rp (hR.2 i p v h3 h4)⟩
   have hval:(arr.push ⟨kv k,zv,clock⟩).toList.map (·.val)=arr.toList.map (·.val)++[zv]:=by simp
   rw[hval]
   refine⟨by rw[List.length_append,List.length_append,h1.1];rfl,fun i p v h3 h4=>?_⟩
   by_cases hi:i<cs.length
   ·rw[List.getElem?_append_left hi] at h3
    rw[List.getElem?_append_left (by rw[← h1.1];exact hi)] at h4
    exact h1.2 i p v h3 h4
   ·rw[List.getElem?_append_right (by omega)] at h3
    rw[List.getElem?_append_right (by rw[← h1.1];omega),← h1.1] at h4
    match hq:i-cs.length,h3,h4 with
    | 0,h3,h4=>cases h3;cases h4;exact .u _
    | _+1,h3,h4=>simp at h3
 ·match i,h1,h2 with
  | 0,h1,h2=>cases h1;cases h2;exact .u _
  | 1,h1,h2=>cases h1;cases h2;exact .u _
theorem PE.entryStore {kvs:List Value} {s:Operand} {p:PV} {j b:Nat} (ho:o.op = .entryStore t x s y) (hd:jn n o) (hH:H id = ⟨ver,some (Qf kvs bs clock cs)⟩) (hx:evP F x = .ps id ver) (hs:evP F s = .u (.int .i64 (b:Nat))) (hbj:bs[j]? = some b) (hy:evP F y=p)
  (hK:K (.u undef) (H.set id ⟨ver,some (Qf kvs bs clock (cs.set j p))⟩)):PE P W n o F H K:=fun V a w hr=>by
 have ev:∀(x:Operand),Rp W.Z H V w (evP F x) (a.eval x):=fun x=>Rp.eval (P:=P) x fun t _=>hr.slot t
 have hxv:=ev x
 have hyv:=ev y
 have hsv:a.eval s = .int .i64 (b:Nat):=by
  have:=ev s
  rw[hs] at this;generalize a.eval s=q at this;cases this;rfl
 rw[hx] at hxv
 rw[hy] at hyv
 obtain⟨g,arr,hv,hV,hg,hb,hkeys,hR,hborn,hnd,hlt⟩:=zek hH hr.heap hxv
 have hgl:=(Array.getElem?_eq_some_iff.1 hb).1
 obtain⟨ae,hae,hab⟩:∃ ae,arr.toList[j]? = some ae∧ae.born=b:=by
  have:(arr.toList.map (·.born))[j]? = some b:=by rw[hborn];exact hbj
  rw[List.getElem?_map] at this
  exact Option.map_eq_some_iff.1 this
 have hidx:arr.findIdx? (fun e=>((e.born:Nat):Int) == ((b:Nat):Int))=some j:=by
  rw[WideElems.findIdx_arr,← hab]
  exact WideElems.findIdx_born (by rw[hborn];exact hnd) hae
 have hrun:(Instr.entryStore t (.map (some g)) (.int .i64 (b:Nat)) (a.eval y)).run P w = .ok () { w with heap:=w.heap.setIfInBounds g (.map (arr.modify j fun e=>{ e with val:=a.eval y }) clock) }:=by
  simp[Instr.entryStore,MapKept.run_getObj_map hb,asInt,asIntOf,hidx,MapKept.run_setObj_map _ hb,Result.andThen]
 have hex:(execOp a.eval o).run P w = .ok .skip { w with heap:=w.heap.setIfInBounds g (.map (arr.modify j fun e=>{ e with val:=a.eval y }) clock) }:=by
  simp only[execOp,ho,hv,hsv,Sem.run_bind,hrun,Result.andThen_ok];rfl
 have hturn:Turn W H V w id ⟨ver,some (Qf kvs bs clock (cs.set j p))⟩ (V id) { w with heap:=w.heap.setIfInBounds g (.map (arr.modify j fun e=>{ e with val:=a.eval y }) clock) }:=zwr hr.heap ⟨_,hH⟩ (by rw[hV];rfl) hg
 have hmod:∀ {γ:Type} (f:MapEntry→γ),(∀ e v,f { e with val:=v } = f e)→(arr.modify j fun e=>{ e with val:=a.eval y }).toList.map f=arr.toList.map f:=fun f hf=>by
  apply List.ext_getElem?
  intro i
  simp only[Array.toList_modify,List.getElem?_map,List.getElem?_modify]
  cases arr.toList[i]? with
  | none=>rfl
  | some e=>
   simp only[Option.map_some]
   by_cases e2:j=i
   ·simp[e2,hf]
   ·simp[e2]
 unfold Oper.wp
 rw[hex]
 refine⟨.u undef,_,vd V id (V id),hK,hr.turn hturn (fun bd hbd=>?_) o.dst hd (.u _)⟩
 cases hbd
 refine⟨g, .map (arr.modify j fun e=>{ e with val:=a.eval y }) clock,_,hV,hg,by simp[hgl],⟨_,rfl,by rw[hmod _ fun _ _=>rfl];exact hkeys,rfl,by rw[hmod _ fun _ _=>rfl];exact hborn,hnd,hlt⟩,?_⟩
 refine⟨by rw[List.length_set,hR.1];simp,fun i q v h3 h4=>?_⟩
 simp only[Array.toList_modify,List.getElem?_map,List.getElem?_modify] at h4
 rw[List.getElem?_set] at h3
 by_cases e2:j=i
 ·subst e2
  rw[hae] at h4
  have h4:a.eval y=v:=by simpa using h4
  simp only[if_true] at h3
  split at h3
  ·cases h3;subst h4;exact hturn.rp hyv
  ·cases h3
 ·rw[if_neg e2] at h3
  have h5:(arr.toList.map (·.val))[i]? = some v:=by
   rw[List.getElem?_map]
   cases ha:arr.toList[i]? with
   | none=>rw[ha] at h4;simp at h4
   | some e=>rw[ha] at h4;simpa [e2] using h4
  exact hturn.rp (hR.2 i q v h3 h5)
theorem PQ.getHit (KL:zho P key kv eqb) (ho:o.op = .lookup t x y false) (ht:P.underlying t=some (.map key elem)) (hH:H id = ⟨ver,some (Qf (ks.map kv) bs clock cs)⟩) (hx:evP F x = .ps id ver) {pk:PV} {k:α} (hy:evP F y=pk) (hk:pk.val2=some (kv k)) {j:Nat} {c:PV} (hj:kIx eqb k ks=some j) (hc:cs[j]? = some c) :
  PQ P W o F H c:=PQ.of_run fun V a w hw hh=>by
 have hxv:=hh x (by rw[ho];simp[Op.operands])
 have hyv:=(hh y (by rw[ho];simp[Op.operands])).val2 (by rw[hy];exact hk)
 rw[hx] at hxv
 obtain⟨g,arr,hv,hV,hg,hb,hkeys,hR,hborn,hnd,hlt⟩:=zek hH hw hxv
 obtain⟨e,he1,he2⟩:=zef hj
 have hjl:j<arr.toList.length:=by
  have h1:=congrArg List.length hkeys
  have h2:=(List.getElem?_eq_some_iff.1 he1).1
  simp at h1 ⊢;omega
 obtain⟨ae,hae⟩:∃ ae,arr.toList[j]? = some ae:=⟨_,List.getElem?_eq_getElem hjl⟩
 have hf:=zoe KL k w hkeys
 rw[hj,Option.bind_some,hae,Option.map_some] at hf
 refine⟨ae.val,?_,hR.2 j c ae.val hc (by rw[List.getElem?_map,hae];rfl)⟩
 have:(Instr.lookup t (.map (some g)) (kv k) false).run P w = .ok ae.val w:=by
  simp[Instr.lookup,run_underlying ht,MapKept.run_getObj_map hb,KL.chk,hf]
 simp only[execOp,ho,hv,hyv,Sem.run_bind,this,Result.andThen_ok]
 rfl
theorem PE.rangeM {kvs:List Value} {r d:Nat} (ho:o.op = .range t x) (hd:o.dst=some d) (hdn:d<n) (ht:P.underlying t=some (.map key elem)) (hne:id≠r) (hH:H id = ⟨ver,some (Qf kvs bs clock cs)⟩) (hx:evP F x = .ps id ver)
  (hK:K (.ps r ((H r).ver+1)) (H.set r ⟨(H r).ver+1,some (itB id ver clock #[] clock)⟩)):PE P W n o F H K:=fun V a w hr=>by
 have hxv:=Rp.eval (P:=P) (F:=F) (a:=a) (Z:=W.Z) (H:=H) (V:=V) (w:=w) x fun t _=>hr.slot t
 have hxs:=hxv
 rw[hx] at hxv hxs
 obtain⟨g,arr,hv,hV,hg,hb,hkeys,hR,hborn,hnd,hlt⟩:=zek hH hr.heap hxv
 have hex:(execOp a.eval o).run P w = .ok (.value (.pointer (some ⟨w.heap.size,0,none⟩))) (w.alloc (.mapIter (some g) clock #[] clock)):=by
  simp only[execOp,ho,hv,Sem.run_bind,run_range_map w t key elem g arr clock ht hb,Result.andThen_ok]
  rfl
 refine vk hex ⟨_,_,vd V r (.pointer (some ⟨w.heap.size,0,none⟩)),hK,?_⟩
 have hbl:Below w.heap.size w (w.alloc (.mapIter (some g) clock #[] clock)):=(Below.refl _ _).alloc (Nat.le_refl _) _
 have hturn:Turn W H V w r ⟨(H r).ver+1,some (itB id ver clock #[] clock)⟩ (.pointer (some ⟨w.heap.size,0,none⟩)) (w.alloc (.mapIter (some g) clock #[] clock)):=Turn.new hr.heap hbl rfl fun g hg=>by cases hg;exact Nat.le_refl _
 refine hr.turn hturn (fun bd hbd=>?_) o.dst (fun t ht=>by rw[hd] at ht;cases ht;exact hdn) ?_
 ·cases hbd
  refine⟨w.heap.size,_,[.map (some g)],rfl,hr.heap.below.size,heap_alloc_new w _,⟨g,rfl,rfl⟩,rfl,fun i p v h1 h2=>?_⟩
  match i,h1,h2 with
  | 0,h1,h2=>
   cases h1;cases h2
   have:=hturn.rp hxs
   rwa [hv] at this
 ·refine .ps _ _ _ ?_ fun _ _=>?_
  ·simp[PHeap.set]
  ·simp[vd]
theorem jb7 {r vr since st:Nat} {seen:Array Nat} {kvs:List Value} {V:Nat→Value} {w:World} {v:Value} (hH:H id = ⟨ver,some (Qf kvs bs clock cs)⟩) (hHr:H r = ⟨vr,some (itB id ver since seen st)⟩) (hr:HRel P W H V w) (hv:Rp W.Z H V w (.ps r vr) v) :
  ∃ gr g arr,v = .pointer (some ⟨gr,0,none⟩)∧V r = .pointer (some ⟨gr,0,none⟩)∧W.w.heap.size≤gr∧w.heap[gr]? = some (.mapIter (some g) since seen st)∧Rp W.Z H V w (.ps id ver) (.map (some g))∧w.heap[g]? = some (.map arr clock)∧arr.toList.map (·.key)=kvs∧RpL W.Z H V w cs (arr.toList.map (·.val))∧arr.toList.map (·.born)=bs∧bs.Nodup∧∀ b∈bs,b<clock:=by
 obtain⟨gr,o,vs,e,hg,hh,⟨b,rfl,rfl⟩,hR⟩:=hr.map r true _ _ (by rw[hHr];rfl)
 have hm:=hR.2 0 _ _ rfl rfl
 obtain⟨g,arr,hv2,hV,hg2,hb,hrest⟩:=zek hH hr hm
 cases hv2
 cases hv with
 | ps _ _ _ hvv hq=>
  have:=hq (by rw[hHr];rfl) (by rw[hHr])
  exact⟨gr,_,arr,by rw[this,e];rfl,e,hg,hh,hm,hb,hrest⟩
theorem PE.nextM {r vr:Nat} {seen:Array Nat} {kvs:List Value} (ho:o.op = .next x false) (hd:jn n o) (hH:H id = ⟨ver,some (Qf kvs bs clock cs)⟩) (hHr:H r = ⟨vr,some (itB id ver clock seen clock)⟩) (hx:evP F x = .ps r vr)
  (h0:(∀ b∈bs,seen.contains b=true)→K (.tup [.u (.bool false)]) H)
  (h1:∀(j b:Nat) (c:PV) (k:Value),bs[j]? = some b→cs[j]? = some c→kvs[j]? = some k→seen.contains b=false→K (.tup [.u (.bool true),ofV k,c]) (H.set r ⟨vr,some (itB id ver clock (seen.push b) clock)⟩)):PE P W n o F H K:=fun V a w hr=>by
 have hxv:=Rp.eval (P:=P) (F:=F) (a:=a) (Z:=W.Z) (H:=H) (V:=V) (w:=w) x fun t _=>hr.slot t
 rw[hx] at hxv
 obtain⟨gr,g,arr,hv,hV,hgr,hbr,hm,hb,hkeys,hR,hborn,hnd,hlt⟩:=jb7 hH hHr hr.heap hxv
 have hgl:=(Array.getElem?_eq_some_iff.1 hbr).1
 have hold:∀ x∈arr.toList,x.born<clock:=fun x hx=>hlt _ (by rw[← hborn];exact List.mem_map.2 ⟨x,hx,rfl⟩)
 rcases run_next_at (P:=P) w o.type gr g clock clock seen arr clock hbr hb hold (Nat.le_refl _) with ⟨hs,hrun⟩ | ⟨e,he,w1,hw1,hrun⟩
 ·have hex:(execOp a.eval o).run P w = .ok (.value (.tuple #[.bool false])) w:=by
   simp only[execOp,ho,hv,Sem.run_bind,hrun,Result.andThen_ok];rfl
  refine vk hex ⟨_,_,V,h0 fun b hb=>?_,hr.put (Below.refl _ _) o.dst hd (.tup _ _ rfl fun i p v h1 h2=>?_)⟩
  ·rw[← hborn] at hb
   obtain⟨x,hx,rfl⟩:=List.mem_map.1 hb
   exact all_seen arr seen hs x hx
  ·match i,h1,h2 with
   | 0,h1,h2=>cases h1;cases h2;exact .u _
 ·obtain⟨hea,hes⟩:=mem_left he
  obtain⟨j,hj⟩:=List.getElem?_of_mem hea
  have hkj:kvs[j]? = some e.key:=by rw[← hkeys,List.getElem?_map,hj];rfl
  have hbj:bs[j]? = some e.born:=by rw[← hborn,List.getElem?_map,hj];rfl
  have hvj:(arr.toList.map (·.val))[j]? = some e.val:=by rw[List.getElem?_map,hj];rfl
  obtain⟨c,hcj⟩:∃ c,cs[j]? = some c:=⟨_,List.getElem?_eq_getElem (by rw[hR.1];exact(List.getElem?_eq_some_iff.1 hvj).1)⟩
  have hex:(execOp a.eval o).run P w = .ok (.value (.tuple #[.bool true,e.key,e.val])) (Go.ChangeMaps.setBlock w1 gr (.mapIter (some g) clock (seen.push e.born) clock)):=by
   simp only[execOp,ho,hv,Sem.run_bind,hrun,Result.andThen_ok];rfl
  have hw1h:w1.heap=w.heap:=by rcases hw1 with rfl | rfl<;>rfl
  have hw1b:∀ {B:Nat} {a:World},Below B a w→Below B a w1:=fun {B a} h=>by rcases hw1 with rfl | rfl;exact h;exact h.trans ⟨rfl,rfl,rfl,Nat.le_refl _,fun _ _=>rfl⟩
  have hl:(H r).body.isSome=true:=by rw[hHr];rfl
  have hother:∀ b,b≠gr→(Go.ChangeMaps.setBlock w1 gr (.mapIter (some g) clock (seen.push e.born) clock)).heap[b]? = w.heap[b]?:=fun b hne=>by
   unfold Go.ChangeMaps.setBlock
   simp only[hw1h]
   simp[Ne.symm hne]
  have hturn:Turn W H V w r ⟨vr,some (itB id ver clock (seen.push e.born) clock)⟩ (V r) (Go.ChangeMaps.setBlock w1 gr (.mapIter (some g) clock (seen.push e.born) clock)):=
   ⟨(hw1b hr.heap.below).trans ⟨rfl,rfl,rfl,by simp[Go.ChangeMaps.setBlock],fun b hb=>by rw[hother b (by omega),hw1h]⟩,by simp[Go.ChangeMaps.setBlock,hw1h],fun b hb hn=>hother b fun e=>hn ⟨hl,by rw[e,hV];rfl⟩,fun g' hg' => .inr ⟨hl,hg'⟩, .inr ⟨by rw[hHr],rfl,hl⟩⟩
  refine vk hex ⟨_,_,vd V r (V r),h1 j e.born c e.key hbj hcj hkj hes,?_⟩
  refine hr.turn hturn (fun bd hbd=>?_) o.dst hd (.tup _ _ rfl fun i p v h1 h2=>?_)
  ·cases hbd
   refine⟨gr, .mapIter (some g) clock (seen.push e.born) clock,[.map (some g)],hV,hgr,by simp[Go.ChangeMaps.setBlock,hw1h,hgl],⟨g,rfl,rfl⟩,rfl,fun i p v h3 h4=>?_⟩
   match i,h3,h4 with
   | 0,h3,h4=>cases h3;cases h4;exact hturn.rp hm
  ·match i,h1,h2 with
   | 0,h1,h2=>cases h1;cases h2;exact .u _
   | 1,h1,h2=>cases h1;cases h2;exact Rp.ofV _ _ _ _ _
   | 2,h1,h2=>cases h1;cases h2;exact hturn.rp (hR.2 j c e.val hcj hvj)
theorem PQ.entryM {r vr j b:Nat} {seen:Array Nat} {kvs:List Value} {c:PV} {k:Value} (ho:o.op = .entry x) (hH:H id = ⟨ver,some (Qf kvs bs clock cs)⟩) (hHr:H r = ⟨vr,some (itB id ver clock (seen.push b) clock)⟩) (hx:evP F x = .ps r vr) (hb:bs[j]? = some b) (hc:cs[j]? = some c) (hk:kvs[j]? = some k):PQ P W o F H (.tup [ofV k,c]):=PQ.of_run fun V a w hw hh=>by
 have hxv:=hh x (by rw[ho];simp[Op.operands])
 rw[hx] at hxv
 obtain⟨gr,g,arr,hv,hV,hgr,hbr,hm,hbm,hkeys,hR,hborn,hnd,hlt⟩:=jb7 hH hHr hw hxv
 obtain⟨e,hj,heb⟩:∃ e,arr.toList[j]? = some e∧e.born=b:=by
  rw[← hborn,List.getElem?_map] at hb
  exact Option.map_eq_some_iff.1 hb
 subst heb
 have hkj:e.key=k:=by rw[← hkeys,List.getElem?_map,hj] at hk;simpa using hk
 have hrun:=run_entry_at (P:=P) w gr g clock seen arr clock e hbr hbm (List.mem_of_getElem? hj) (by rw[hborn];exact hnd)
 refine⟨.tuple #[e.key,e.val],?_, .tup _ _ rfl fun i p v h1 h2=>?_⟩
 ·simp only[execOp,ho,hv,Sem.run_bind,hrun,Result.andThen_ok];rfl
 ·match i,h1,h2 with
  | 0,h1,h2=>cases h1;cases h2;rw[hkj];exact Rp.ofV _ _ _ _ _
  | 1,h1,h2=>cases h1;cases h2;exact hR.2 j c e.val hc (by rw[List.getElem?_map,hj];rfl)
end
end Go.Proofs.YtdllbdlnmjngcaaGreat.L

namespace Go.Proofs.YtdllbdlnmjngcaaGreat.L
open Go Go.RowKit
set_option linter.unusedVariables false
set_option linter.unusedSimpArgs false
section
variable {α : Type} {kv : α → Value} {eqb : α → α → Bool}
def zoq (eqb:α→α→Bool) (b:Nat) (m:List (α×List Int)) (k:α) (v:Int):Option (List (α×List Int)):=match kIx eqb k (m.map (·.1)) with
 | some j=>match m[j]? with
  | some e=>(Go.Proofs.YtdllbdlnmjngcaaGreat.app b e.2 [v]).map fun zs=>m.set j (e.1,zs)
  | none=>none
 | none=>(Go.Proofs.YtdllbdlnmjngcaaGreat.app b [] [v]).map fun zs=>m++[(k,zs)]
def rowsAt (e base:Nat) (H:PHeap) (cs:List PV) (m:List (α×List Int)):Prop:=cs.length=m.length∧∀(j:Nat) (c:PV) (x:α×List Int),cs[j]? = some c→m[j]? = some x→ownL e 1 I H (base+j) c x.2
def ownMR (kv:α→Value) (e base:Nat) (H:PHeap) (id:Nat) (q:PV) (m:List (α×List Int)):Prop:=
 ∃ ver bs clock cs,q = .ps id ver∧H id = ⟨ver,some (Qf ((m.map (·.1)).map kv) bs clock cs)⟩∧bs.length=m.length∧(bs.Nodup∧∀ b∈bs,b<clock)∧rowsAt e base H cs m
theorem ownMR.mono {e base id:Nat} {H H':PHeap} {q:PV} {m:List (α×List Int)} (h:ownMR kv e base H id q m) (h1:H' id=H id) (h2:∀ j,base≤j→H' j=H j):ownMR kv e base H' id q m:=by
 obtain⟨ver,bs,clock,cs,e1,e2,e3,e0,e4,e5⟩:=h
 exact⟨ver,bs,clock,cs,e1,h1.trans e2,e3,e0,e4,fun j c x h3 h4=>(e5 j c x h3 h4).mono (h2 _ (Nat.le_add_right _ _))⟩
variable {P : Program} {W : Env} {n : Nat} {H : PHeap} {F : PFrame} {ops : Array Oper} {l : List Oper} {K : PFrame → PHeap → Prop}
variable {o1 o2 o3 o4 o5 : Oper} {d1 d2 d3 d4 : Nat} {key elem t ts e base id b : Nat} {x y z : Operand} {q pk : PV} {k : α} {v : Int} {m m' : List (α × List Int)} {zv : Value}
theorem PE.weak {o:Oper} {k k':PV→PHeap→Prop} (h:PE P W n o F H k) (hk:∀ p H',k p H'→k' p H'):PE P W n o F H k':=fun V a w hr=>
 Oper.wp_mono (fun a' w' ⟨p,H',V',h1,h2⟩=>⟨p,H',V',hk p H' h1,h2⟩) (h V a w hr)
theorem PL.ext {F:PFrame} {o:Oper} {d i:Nat} {t:Nat} {xs:List PV} {p:PV} (hg:o.guard=none) (ho:o.op = .extract (.tmp t) i) (hd:o.dst=some d) (hdn:d<n) (hF:F t = .tup xs) (hp:xs[i]? = some p) (h:PL P W n ops l (F.put (some d) p) H K):PL P W n ops (o :: l) F H K:=by
 refine PL.pe hg (PE.quiet (fun t ht=>by rw[hd] at ht;cases ht;exact hdn) (jc ?_) (by rw[hd];exact h))
 unfold jp
 rw[ho]
 simp only[evP,hF,hp]
theorem PL.mapApp (KL:zho P key kv eqb) (hlt:id<base) (ht:P.underlying t=some (.map key elem)) (hts:v7 P ts=some (e,1,b,zv)) (hzr:∀ w,(zeroValue elem).run P w = .ok (.slice none 0 0) w)
  (g1:o1.guard=none) (h1:o1.op = .mapEntry t x y) (hd1:o1.dst=some d1) (g2:o2.guard=none) (h2:o2.op = .extract (.tmp d1) 0) (hd2:o2.dst=some d2)
  (g3:o3.guard=none) (h3:o3.op = .call { callee := .builtin .append,args:=#[.tmp d2,z],argTypes:=#[ts,ts] }) (hd3:o3.dst=some d3)
  (g4:o4.guard=none) (h4:o4.op = .extract (.tmp d1) 1) (hd4:o4.dst=some d4) (g5:o5.guard=none) (h5:o5.op = .entryStore t x (.tmp d4) (.tmp d3)) (hd5:o5.dst=none)
  (hn:d1<n∧d2<n∧d3<n∧d4<n) (hne:d1≠d2∧d1≠d3∧d1≠d4∧d3≠d4)
  (hx:∀ F':PFrame,(∀ t,t≠d1→t≠d2→t≠d3→t≠d4→F' t=F t)→evP F' x=q) (hy:evP F y=pk) (hk:pk.val2=some (kv k)) (hz:∀ F':PFrame,(∀ t,t≠d1→t≠d2→t≠d3→t≠d4→F' t=F t)→evP F' z = .sl 1 [I v])
  (hm:ownMR kv e base H id q m) (ha:zoq eqb b m k v=some m')
  (h:∀ F' H',(∀ t,t≠d1→t≠d2→t≠d3→t≠d4→F' t=F t)→ownMR kv e base H' id q m'→(∀ j,j≠id→j<base→H' j=H j)→PL P W n ops l F' H' K):PL P W n ops (o1 :: o2 :: o3 :: o4 :: o5 :: l) F H K:=by
 obtain⟨n1,n2,n3,n4⟩:=hn
 obtain⟨e12,e13,e14,e34⟩:=hne
 obtain⟨ver,bs,clock,cs,rfl,hH,hbl,hbn,hcl,hrows⟩:=hm
 have hx0:=hx F fun _ _ _ _ _=>rfl
 have hdo:∀ {o:Oper} {d:Nat},o.dst=some d→d<n→jn n o:=fun hd hdn t ht=>by rw[hd] at ht;cases ht;exact hdn
 -- behind the Y1: the append, and the store at place j
 have rest:∀ {H1:PHeap} {ks1:List Value} {bs1:List Nat} {cs1:List PV} {clock1 j:Nat} {c:PV} {bj:Nat} {xs zs:List Int},H1 id = ⟨ver,some (Qf ks1 bs1 clock1 cs1)⟩→cs1[j]? = some c→bs1[j]? = some bj→ownL e 1 I H1 (base+j) c xs→Go.Proofs.YtdllbdlnmjngcaaGreat.app b xs [v]=some zs →
   (∀ F' H' pq,(∀ t,t≠d1→t≠d2→t≠d3→t≠d4→F' t=F t)→H' id = ⟨ver,some (Qf ks1 bs1 clock1 (cs1.set j pq))⟩→ownL e 1 I H' (base+j) pq zs→(∀ i,i≠id→i≠base+j→H' i=H1 i)→PL P W n ops l F' H' K) →
   PL P W n ops (o2 :: o3 :: o4 :: o5 :: l) (F.put (some d1) (.tup [c, .u (.int .i64 (bj:Nat))])) H1 K:=by
  intro H1 ks1 bs1 cs1 clock1 j c bj xs zs hH1 hc hbj hown hzs hk2
  refine PL.ext (xs:=[c, .u (.int .i64 (bj:Nat))]) g2 h2 hd2 n2 (by simp[PFrame.put]) (p:=c) rfl ?_
  have hfr:∀ t,t≠d1→t≠d2→t≠d3→t≠d4→((F.put (some d1) (.tup [c, .u (.int .i64 (bj:Nat))])).put (some d2) c) t=F t:=fun t a1 a2 _ _=>by simp[PFrame.put,Ne.symm a1,Ne.symm a2,a1,a2]
  refine PL.pe g3 ?_
  refine PE.weak (PE.appI (id:=base+j) (q:=c) (xs:=xs) (ys:=[v]) h3 hd3 n3 hts (by simp[evP,PFrame.put]) hown (by rw[hz _ hfr];rfl) (fun _=>rfl) (fun _=>rfl) hzs) fun pq H2 ⟨ho2,hoth⟩=>?_
  rw[hd3]
  refine PL.ext (xs:=[c, .u (.int .i64 (bj:Nat))]) g4 h4 hd4 n4 (by simp[PFrame.put,e12,e13,Ne.symm e12,Ne.symm e13]) (p := .u (.int .i64 (bj:Nat))) rfl ?_
  have hfr2:∀ t,t≠d1→t≠d2→t≠d3→t≠d4→((((F.put (some d1) (.tup [c, .u (.int .i64 (bj:Nat))])).put (some d2) c).put (some d3) pq).put (some d4) (.u (.int .i64 (bj:Nat)))) t=F t:=fun t a1 a2 a3 a4=>by simp[PFrame.put,a1,a2,a3,a4,Ne.symm a1,Ne.symm a2,Ne.symm a3,Ne.symm a4]
  have hne:id≠base+j:=by omega
  refine PL.pe g5 (PE.entryStore (j:=j) (b:=bj) (p:=pq) h5 (fun t ht=>by rw[hd5] at ht;cases ht) (by rw[hoth _ hne];exact hH1) (hx _ hfr2) (by simp[evP,PFrame.put]) hbj (by simp[evP,PFrame.put,e34,Ne.symm e34]) ?_)
  rw[hd5]
  refine hk2 _ _ pq hfr2 (by simp[PHeap.set]) (ho2.mono (by simp[PHeap.set,Ne.symm hne])) fun i i1 i2=>?_
  simp only[PHeap.set,if_neg i1]
  exact hoth i i2
 unfold zoq at ha
 cases hj:kIx eqb k (m.map (·.1)) with
 | some j=>
  rw[hj] at ha
  simp only at ha
  split at ha<;>try (cases ha;done)
  rename_i en hen
  obtain⟨zs,hzs,rfl⟩:=Option.map_eq_some_iff.1 ha
  have hjl:=(List.getElem?_eq_some_iff.1 hen).1
  obtain⟨c,hc⟩:∃ c,cs[j]? = some c:=⟨_,List.getElem?_eq_getElem (by omega)⟩
  obtain⟨bj,hbj⟩:∃ bj,bs[j]? = some bj:=⟨_,List.getElem?_eq_getElem (by omega)⟩
  refine PL.pe g1 (PE.quiet (hdo hd1 n1) (PQ.entryHit KL h1 ht hH hx0 hy hk hj hc hbj) ?_)
  rw[hd1]
  refine rest hH hc hbj (hrows j c en hc hen) hzs fun F' H' pq f1 f2 f3 f4=>h F' H' f1 ⟨ver,bs,clock,cs.set j pq,rfl,?_,by simpa using hbl,hbn,by simpa using hcl,fun i c' x' h6 h7=>?_⟩ fun i i1 i2=>f4 i i1 (by omega)
  ·rw[f2]
   have:(m.set j (en.1,zs)).map (·.1)=m.map (·.1):=by
    rw[List.map_set]
    refine List.ext_getElem? fun i=>?_
    rw[List.getElem?_set]
    split
    ·rename_i e;subst e;simp[hjl,hen]
     exact((List.getElem?_eq_some_iff.1 hen).2▸rfl)
    ·rfl
   rw[this]
  ·rw[List.getElem?_set] at h6 h7
   by_cases hij:j=i
   ·subst hij
    rw[if_pos rfl,if_pos (by omega)] at h6 h7
    cases h6;cases h7
    exact f3
   ·rw[if_neg hij] at h6 h7
    exact(hrows i c' x' h6 h7).mono (f4 _ (by omega) (by omega))
 | none=>
  rw[hj] at ha
  simp only at ha
  obtain⟨zs,hzs,rfl⟩:=Option.map_eq_some_iff.1 ha
  refine PL.pe g1 (PE.entryMiss KL h1 (hdo hd1 n1) ht hzr hH hx0 hy hk hj ?_)
  rw[hd1]
  have hcm:cs.length=m.length:=hcl
  refine rest (j:=m.length) (c := .u (.slice none 0 0)) (bj:=clock) (xs:=[]) (by simp[PHeap.set];rfl) (by rw[← hcm];simp) (by rw[← hbl];simp) ⟨by simp, .inl ⟨rfl,rfl⟩⟩ hzs fun F' H' pq f1 f2 f3 f4=>h F' H' f1 ⟨ver,bs++[clock],clock+1,(cs++[PV.u (.slice none 0 0)]).set m.length pq,rfl,?_,by simp[hbl],⟨List.nodup_append.2 ⟨hbn.1,by simp,fun a ha c hc e=>by simp at hc;have:=hbn.2 a ha;omega⟩,fun b hb=>by rcases List.mem_append.1 hb with h | h;have:=hbn.2 b h;omega;simp at h;omega⟩,by simp[hcm],fun i c' x' h6 h7=>?_⟩ fun i i1 i2=>?_
  ·rw[f2];simp
  ·have hset:(cs++[PV.u (.slice none 0 0)]).set m.length pq=cs++[pq]:=by rw[← hcm];simp
   rw[hset] at h6
   by_cases hi:i<m.length
   ·rw[List.getElem?_append_left (by omega)] at h6
    rw[List.getElem?_append_left hi] at h7
    exact(hrows i c' x' h6 h7).mono (by rw[f4 _ (by omega) (by omega)];simp[PHeap.set,show base+i≠id by omega])
   ·rw[List.getElem?_append_right (by omega)] at h6
    rw[List.getElem?_append_right (by omega)] at h7
    match hq:i-m.length,h7 with
    | 0,h7=>
     rw[show i-cs.length=0 by omega] at h6
     cases h6;cases h7
     rw[show i=m.length by
      have:=(show i ≥ m.length by omega);omega]
     exact f3
    | s+1,h7=>simp at h7
  ·rw[f4 i i1 (by omega)];simp[PHeap.set,i1]
end
end Go.Proofs.YtdllbdlnmjngcaaGreat.L

namespace Go.Proofs.YtdllbdlnmjngcaaGreat
open Go Go.RowKit L
set_option linter.unusedVariables false
set_option linter.unusedSimpArgs false
def plc (a:Int×Int):Array Value:=#[.int .i64 a.1, .int .i64 a.2]
def ple (a b:Int×Int):List Bool:=[a.1 == b.1,a.2 == b.2]
theorem plEqs (a b:Int×Int):eqS Tryz.prog 113 (plc a) (plc b)=some (ple a b):=by kernel_rfl
theorem jcj (a b:Int×Int) (h:(ple a b).all id=true):a=b:=by
 cases a;cases b
 simp only[ple,List.all_cons,List.all_nil,Bool.and_true,Bool.and_eq_true,id,beq_iff_eq] at h
 obtain⟨rfl,rfl⟩:=h;rfl
abbrev plv (a:Int×Int):Value := .agg (plc a)
abbrev plq (a b:Int×Int):Bool:=(ple a b).all id
theorem z71:zho Tryz.prog 113 plv plq:=jb9 ((0,0):Int×Int) plEqs jcj (fun a=>by simp[plc,Instr.sameBits])
abbrev PM:=List ((Int×Int)×List Int)
def zfo (i left:Int):List Int→PM→Option PM
 | [],m=>some m
 | t :: ts,m=>(zoq plq 8 m (left,t) i).bind (zfo i left ts)
abbrev PrP:=Int×PV
def prV (p:PrP):PV := .agg [I p.1,p.2]
def zcy (pr:Nat→List Int):Nat→List Int→PM→Option PM
 | _,[],m=>some m
 | i,a :: l,m=>(zfo i a (pr i) m).bind (zcy pr (i+1) l)
theorem PL.mkMR {W:Env} {n:Nat} {H:PHeap} {F:PFrame} {ops:Array Oper} {o:Oper} {l:List Oper} {K:PFrame→PHeap→Prop} {t:TypeId} {d:Nat} {e base:Nat} (id:Nat) (hg:o.guard=none) (ho:o.op = .makeMap t none) (hd:o.dst=some d) (hdn:d<n)
  (h:∀ q' H',ownMR plv e base H' id q' []→(∀ j,j≠id→H' j=H j)→PL Tryz.prog W n ops l (F.put (some d) q') H' K):PL Tryz.prog W n ops (o :: l) F H K:=by
 refine PL.pe hg fun V a w hr=>?_
 have hex:(execOp a.eval o).run Tryz.prog w = .ok (.value (.map (some w.heap.size))) (w.alloc (.map #[] 0)):=by
  simp only[execOp,ho];rfl
 refine vk hex ⟨.ps id ((H id).ver+1),H.set id ⟨(H id).ver+1,some (Qf [] [] 0 [])⟩,vd V id (.map (some w.heap.size)),?_,?_⟩
 ·rw[hd]
  exact h _ _ ⟨_,[],0,[],rfl,by simp[PHeap.set],rfl,⟨List.nodup_nil,fun b hb=>by cases hb⟩,rfl,fun j c x h=>by simp at h⟩ (fun j hj=>by simp[PHeap.set,hj])
 ·have hb:Below w.heap.size w (w.alloc (.map #[] 0)):=(Below.refl _ _).alloc (Nat.le_refl _) _
  refine hr.turn (Turn.new hr.heap hb rfl fun g hg=>by cases hg;exact Nat.le_refl _) (fun bd hbd=>?_) o.dst (fun t ht=>by rw[hd] at ht;cases ht;exact hdn) ?_
  ·cases hbd
   exact⟨w.heap.size,_,[],rfl,hr.heap.below.size,heap_alloc_new w _,⟨#[],rfl,rfl,rfl,rfl,List.nodup_nil,fun b hb=>by cases hb⟩,rfl,fun i p v h=>by simp at h⟩
  ·refine .ps _ _ _ ?_ fun _ _=>?_
   ·simp[PHeap.set]
   ·simp[vd]
theorem PL.ldBox {P:Program} {W:Env} {n:Nat} {H:PHeap} {F:PFrame} {ops:Array Oper} {o:Oper} {l:List Oper} {K:PFrame→PHeap→Prop} {t T:TypeId} {x:Operand} {d id ver off k:Nat} {ag:Bool} {cs:List PV} {p:PV} (hg:o.guard=none) (ho:o.op = .load t x) (hd:o.dst=some d) (hdn:d<n) (hx:evP F x = .pp id off ver) (hH:H id = ⟨ver,some (.box T cs)⟩) (ht:asz P t=some (ag,k)) (hp:qk ag k (cs.drop off)=some p)
  (h:PL P W n ops l (F.put (some d) p) H K):PL P W n ops (o :: l) F H K:=by
 refine PL.pe hg (PE.quiet (fun t ht=>by rw[hd] at ht;cases ht;exact hdn) (jc ?_) (by rw[hd];exact h))
 unfold jp
 rw[ho]
 simp only[hx]
 unfold q6
 simp[ht,ji,hH,hp]
theorem Jc {cs:List PV} {k:Nat} (h:cs.length=k):qk true k cs=some (.agg cs):=by
 subst h;simp[qk]
set_option maxRecDepth 20000 in
set_option maxHeartbeats 4000000 in
theorem jaa (H:PHeap) (ts bs rest:List PV) (wa:Nat) (ps:List PrP) (pr:Nat→List Int) (beh gV:PV) (mf:PM) (hgV:gV = .agg (.sl wa ts :: .sl 1 bs :: .sl 2 (ps.map prV) :: rest)) (hlen:∃ k,asz Tryz.prog 26=some (true,k)∧gV.cells.length=k) (hok:∀ H,okC H gV=true) (hnp:NoP gV)
  (hall:PCall Tryz.prog 109 [gV] (· = beh)) (hbn:NoP beh) (hlp:∀ p∈ps,NoP p.2∧(∀ H,qc H p.2=true)∧p.2.cells=[p.2])
  (hpr:∀(i:Nat) (p:PrP),ps[i]? = some p→PCall Tryz.prog 110 [gV,beh,prV p] (· = slI (pr i))∧(pr i).length≤1000000) (hpl:ps.length≤1000000) (hm:zcy pr 0 (ps.map (·.1)) []=some mf) :
  PIn Tryz.prog 73 [gV] H (fun q H'=>ownMR plv 3 1000 H' 10 q mf∧∀ j,j<10→H' j=H j):=by
 refine PIn.intro Tryz.func73 rfl Tryz.ntmps73 (by simp) (by kernel_rfl) fun W=>?_
 refine PC.seq fun K hK=>?_
 refine PC.region ?_
 refine PL.boxA 13 (d:=1) rfl rfl rfl (by simp) (v:=gV) (by simp[go_sem]) (hok _) rfl fun v1 H1 b1 o1=>?_
 repeat (first | (refine PC.seq fun K hK=>?_) | (refine PC.block ?_) | (refine PC.region ?_) | (refine PL.k rfl fun KK hKK=>?_;simp (disch:=omega) [go_sem,jg,b1];refine hKK _ ?_;clear hKK KK) | (refine PL.k rfl fun KK hKK=>?_;simp[go_sem,jg,b1];refine hKK _ ?_;clear hKK KK) | (refine PL.g rfl rfl fun KK hKK=>?_;simp (disch:=omega) [go_sem,L.stepG,b1];refine hKK _ ?_;clear hKK KK) | (refine PL.g rfl rfl fun KK hKK=>?_;simp[go_sem,L.stepG,b1];refine hKK _ ?_;clear hKK KK) | (refine PL.done hK ?_;clear hK) | (refine PC.skip (hK _ _ ?_);clear hK) | (refine PC.condT ?_ ?_;focus (simp[go_sem,b1];done)) | (refine PC.condF ?_ ?_;focus (simp[go_sem,b1];done)) | (refine PC.exit ?_;first | (refine hK _ _ ?_;clear hK) | (clear hK;refine hK _ _ ?_;clear hK) | (clear hK;clear hK;refine hK _ _ ?_;clear hK)))
 refine PL.mkMR 10 rfl rfl rfl (by simp) (e:=3) (base:=1000) fun q H2 hq o2=>?_
 obtain⟨kg,hkg,hlen⟩:=hlen
 have hcs:gV.cells = .sl wa ts :: .sl 1 bs :: .sl 2 (ps.map prV) :: rest:=by rw[hgV];rfl
 have hgc:PV.agg gV.cells=gV:=by rw[hcs,hgV]
 have b1:H2 13 = ⟨v1,some (.box 26 gV.cells)⟩:=by rw[o2 13 (by decide)];exact b1
 refine PL.ldBox (p:=gV) rfl rfl rfl (by simp) (by simp[go_sem];rfl) b1 hkg (by rw[List.drop_zero,Jc hlen,hgc]) ?_
 refine PL.callB rfl rfl (by kernel_rfl) hall (by simp[go_sem]) (by simp[go_sem,hnp]) (by simp[go_sem,View.noP hnp]) ?_
 rw[hcs] at b1
 repeat (first | (refine PC.seq fun K hK=>?_) | (refine PC.block ?_) | (refine PC.region ?_) | (refine PL.k rfl fun KK hKK=>?_;simp (disch:=omega) [go_sem,jg,b1];refine hKK _ ?_;clear hKK KK) | (refine PL.k rfl fun KK hKK=>?_;simp[go_sem,jg,b1];refine hKK _ ?_;clear hKK KK) | (refine PL.g rfl rfl fun KK hKK=>?_;simp (disch:=omega) [go_sem,L.stepG,b1];refine hKK _ ?_;clear hKK KK) | (refine PL.g rfl rfl fun KK hKK=>?_;simp[go_sem,L.stepG,b1];refine hKK _ ?_;clear hKK KK) | (refine PL.done hK ?_;clear hK) | (refine PC.skip (hK _ _ ?_);clear hK) | (refine PC.condT ?_ ?_;focus (simp[go_sem,b1];done)) | (refine PC.condF ?_ ?_;focus (simp[go_sem,b1];done)) | (refine PC.exit ?_;first | (refine hK _ _ ?_;clear hK) | (clear hK;refine hK _ _ ?_;clear hK) | (clear hK;clear hK;refine hK _ _ ?_;clear hK)))
 refine PC.loop (fun f F H'=>∃(k:Nat) (q:PV) (m:PM),k≤ps.length∧f=ps.length-k∧zcy pr k ((ps.drop k).map (·.1)) m=some mf∧F 1 = .pp 13 0 v1∧H' 13 = ⟨v1,some (.box 26 (.sl wa ts :: .sl 1 bs :: .sl 2 (ps.map prV) :: rest))⟩∧F 3=q∧ownMR plv 3 1000 H' 10 q m∧F 4=beh∧F 14 = .sl 2 (ps.map prV)∧F 15=I ps.length∧F 16=I k∧∀ j,j<10→H' j=H j) (m:=ps.length) ⟨0,q,[],by omega,by omega,hm,by simp[go_sem],b1,by simp[go_sem],hq,by simp[go_sem],by simp[go_sem],by simp[go_sem],by simp[go_sem],fun j hj=>by rw[o2 j (by omega),o1 j (by omega)]⟩ fun f F H3 hI=>?_
 clear hq b1 hm
 obtain⟨k,q,m,hk,rfl,hm,f1,b1,f3,hq,f4,f14,f15,f16,o3⟩:=hI
 by_cases hlt:k<ps.length
 ·have hlt':(k:Int)<ps.length:=by omega
  obtain⟨p,ep⟩:∃ p,ps[k]=p:=⟨_,rfl⟩
  have hp:p∈ps:=ep▸List.getElem_mem hlt
  obtain⟨hp1,hp2,hp3⟩:=hlp p hp
  obtain⟨hpc,hpn⟩:=hpr k p (by rw[List.getElem?_eq_getElem hlt,ep])
  rw[List.drop_eq_getElem_cons hlt,ep,List.map_cons] at hm
  unfold zcy at hm
  obtain⟨m1,ha,hm⟩:=Option.bind_eq_some_iff.1 hm
  have eprV:(List.map prV ps)[k]? = some (prV p):=by simp[hlt,ep]
  repeat (first | (refine PC.seq fun K hK=>?_) | (refine PC.block ?_) | (refine PC.region ?_) | (refine PL.k rfl fun KK hKK=>?_;simp (disch:=omega) [go_sem,jg,f14,f15,f16,hlt',hlt,ep,eprV,prV];refine hKK _ ?_;clear hKK KK) | (refine PL.k rfl fun KK hKK=>?_;simp[go_sem,jg,f14,f15,f16,hlt',hlt,ep,eprV,prV];refine hKK _ ?_;clear hKK KK) | (refine PL.g rfl rfl fun KK hKK=>?_;simp (disch:=omega) [go_sem,L.stepG,f14,f15,f16,hlt',hlt,ep,eprV,prV];refine hKK _ ?_;clear hKK KK) | (refine PL.g rfl rfl fun KK hKK=>?_;simp[go_sem,L.stepG,f14,f15,f16,hlt',hlt,ep,eprV,prV];refine hKK _ ?_;clear hKK KK) | (refine PL.done hK ?_;clear hK) | (refine PC.skip (hK _ _ ?_);clear hK) | (refine PC.condT ?_ ?_;focus (simp[go_sem,f14,f15,f16,hlt',hlt,ep,eprV,prV];done)) | (refine PC.condF ?_ ?_;focus (simp[go_sem,f14,f15,f16,hlt',hlt,ep,eprV,prV];done)) | (refine PC.exit ?_;first | (refine hK _ _ ?_;clear hK) | (clear hK;refine hK _ _ ?_;clear hK) | (clear hK;clear hK;refine hK _ _ ?_;clear hK)))
  refine PL.allocA 11 (d:=6) rfl rfl rfl (by simp) z5o rfl rfl fun v6 H4 b6 o4=>?_
  repeat (first | (refine PC.seq fun K hK=>?_) | (refine PC.block ?_) | (refine PC.region ?_) | (refine PL.k rfl fun KK hKK=>?_;simp (disch:=omega) [go_sem,jg];refine hKK _ ?_;clear hKK KK) | (refine PL.k rfl fun KK hKK=>?_;simp[go_sem,jg];refine hKK _ ?_;clear hKK KK) | (refine PL.g rfl rfl fun KK hKK=>?_;simp (disch:=omega) [go_sem,L.stepG];refine hKK _ ?_;clear hKK KK) | (refine PL.g rfl rfl fun KK hKK=>?_;simp[go_sem,L.stepG];refine hKK _ ?_;clear hKK KK) | (refine PL.done hK ?_;clear hK) | (refine PC.skip (hK _ _ ?_);clear hK) | (refine PC.condT ?_ ?_;focus (simp[go_sem];done)) | (refine PC.condF ?_ ?_;focus (simp[go_sem];done)) | (refine PC.exit ?_;first | (refine hK _ _ ?_;clear hK) | (clear hK;refine hK _ _ ?_;clear hK) | (clear hK;clear hK;refine hK _ _ ?_;clear hK)))
  refine PL.storeA (id:=11) rfl rfl (by simp[jn]) (by simp[go_sem];rfl) b6 asz_66 (v := .agg [I p.1,p.2]) (ps:=[I p.1,p.2]) (by simp[go_sem]) (by simp[okC,hp2];rfl) rfl rfl (by simp) (cs':=[I p.1,p.2]) rfl fun H5 b6 o5=>?_
  repeat (first | (refine PC.seq fun K hK=>?_) | (refine PC.block ?_) | (refine PC.region ?_) | (refine PL.k rfl fun KK hKK=>?_;simp (disch:=omega) [go_sem,jg];refine hKK _ ?_;clear hKK KK) | (refine PL.k rfl fun KK hKK=>?_;simp[go_sem,jg];refine hKK _ ?_;clear hKK KK) | (refine PL.g rfl rfl fun KK hKK=>?_;simp (disch:=omega) [go_sem,L.stepG];refine hKK _ ?_;clear hKK KK) | (refine PL.g rfl rfl fun KK hKK=>?_;simp[go_sem,L.stepG];refine hKK _ ?_;clear hKK KK) | (refine PL.done hK ?_;clear hK) | (refine PC.skip (hK _ _ ?_);clear hK) | (refine PC.condT ?_ ?_;focus (simp[go_sem];done)) | (refine PC.condF ?_ ?_;focus (simp[go_sem];done)) | (refine PC.exit ?_;first | (refine hK _ _ ?_;clear hK) | (clear hK;refine hK _ _ ?_;clear hK) | (clear hK;clear hK;refine hK _ _ ?_;clear hK)))
  have b1':H5 13 = ⟨v1,some (.box 26 (.sl wa ts :: .sl 1 bs :: .sl 2 (ps.map prV) :: rest))⟩:=by rw[o5 13 (by decide),o4 13 (by decide)];exact b1
  have hq5:ownMR plv 3 1000 H5 10 q m:=hq.mono (by rw[o5 10 (by decide),o4 10 (by decide)]) (fun j hj=>by rw[o5 j (by omega),o4 j (by omega)])
  have hprN:NoP (.agg [I p.1,p.2]) := .agg _ (fun c hc=>by simp at hc;rcases hc with rfl | rfl;exact .u _;exact hp1)
  refine PL.ldBox (p:=gV) rfl rfl rfl (by simp) (by simp[go_sem,f1];rfl) b1' hkg (by rw[List.drop_zero,← hcs,Jc hlen,hgc]) ?_
  repeat (first | (refine PC.seq fun K hK=>?_) | (refine PC.block ?_) | (refine PC.region ?_) | (refine PL.k rfl fun KK hKK=>?_;simp (disch:=omega) [go_sem,jg,f4,b6];refine hKK _ ?_;clear hKK KK) | (refine PL.k rfl fun KK hKK=>?_;simp[go_sem,jg,f4,b6];refine hKK _ ?_;clear hKK KK) | (refine PL.g rfl rfl fun KK hKK=>?_;simp (disch:=omega) [go_sem,L.stepG,f4,b6];refine hKK _ ?_;clear hKK KK) | (refine PL.g rfl rfl fun KK hKK=>?_;simp[go_sem,L.stepG,f4,b6];refine hKK _ ?_;clear hKK KK) | (refine PL.done hK ?_;clear hK) | (refine PC.skip (hK _ _ ?_);clear hK) | (refine PC.condT ?_ ?_;focus (simp[go_sem,f4,b6];done)) | (refine PC.condF ?_ ?_;focus (simp[go_sem,f4,b6];done)) | (refine PC.exit ?_;first | (refine hK _ _ ?_;clear hK) | (clear hK;refine hK _ _ ?_;clear hK) | (clear hK;clear hK;refine hK _ _ ?_;clear hK)))
  refine PL.callB rfl rfl (by kernel_rfl) hpc (by simp[go_sem,prV]) (by simp[go_sem,hnp,hbn,hprN,prV]) (by simp[go_sem,View.noP hnp,View.noP hbn,View.noP hprN,prV]) ?_
  obtain⟨l,el⟩:∃ l,pr k=l:=⟨_,rfl⟩
  rw[el] at ha hpn ⊢
  repeat (first | (refine PC.seq fun K hK=>?_) | (refine PC.block ?_) | (refine PC.region ?_) | (refine PL.k rfl fun KK hKK=>?_;simp (disch:=omega) [go_sem,jg];refine hKK _ ?_;clear hKK KK) | (refine PL.k rfl fun KK hKK=>?_;simp[go_sem,jg];refine hKK _ ?_;clear hKK KK) | (refine PL.g rfl rfl fun KK hKK=>?_;simp (disch:=omega) [go_sem,L.stepG];refine hKK _ ?_;clear hKK KK) | (refine PL.g rfl rfl fun KK hKK=>?_;simp[go_sem,L.stepG];refine hKK _ ?_;clear hKK KK) | (refine PL.done hK ?_;clear hK) | (refine PC.skip (hK _ _ ?_);clear hK) | (refine PC.condT ?_ ?_;focus (simp[go_sem];done)) | (refine PC.condF ?_ ?_;focus (simp[go_sem];done)) | (refine PC.exit ?_;first | (refine hK _ _ ?_;clear hK) | (clear hK;refine hK _ _ ?_;clear hK) | (clear hK;clear hK;refine hK _ _ ?_;clear hK)))
  refine PC.loop (fun f F H'=>∃(i:Nat) (q:PV) (m:PM),i≤l.length∧f=l.length-i∧zfo k p.1 (l.drop i) m=some m1∧F 1 = .pp 13 0 v1∧H' 13 = ⟨v1,some (.box 26 (.sl wa ts :: .sl 1 bs :: .sl 2 (ps.map prV) :: rest))⟩∧F 3=q∧ownMR plv 3 1000 H' 10 q m∧F 4=beh∧F 14 = .sl 2 (ps.map prV)∧F 15=I ps.length∧F 16=I k∧F 5=I k∧F 6 = .pp 11 0 v6∧H' 11 = ⟨v6,some (.box 66 [I p.1,p.2])⟩∧F 24=slI l∧F 25=I l.length∧F 26=I i∧∀ j,j<10→H' j=H j) (m:=l.length)
   ⟨0,q,m,by omega,by omega,ha,by simp[go_sem,f1],b1',by simp[go_sem,f3],hq5,by simp[go_sem,f4],by simp[go_sem,f14],by simp[go_sem,f15],by simp[go_sem,f16],by simp[go_sem],by simp[go_sem],b6,by simp[go_sem],by simp[go_sem],by simp[go_sem],fun j hj=>by rw[o5 j (by omega),o4 j (by omega),o3 j hj]⟩ fun f F H6 hI=>?_
  clear ha b1' hq5 b6 hq f1 f3 f4 f14 f15 f16 b1
  obtain⟨i,q,m,hi,rfl,ha,f1,b1,f3,hq,f4,f14,f15,f16,f5,f6,b6,f24,f25,f26,o6⟩:=hI
  by_cases hil:i<l.length
  ·have hil':(i:Int)<l.length:=by omega
   obtain⟨t,et⟩:∃ t,l[i]=t:=⟨_,rfl⟩
   rw[List.drop_eq_getElem_cons hil,et] at ha
   unfold zfo at ha
   obtain⟨m2,hadd,ha⟩:=Option.bind_eq_some_iff.1 ha
   have eI:(List.map I l)[i]? = some (I t):=by simp[hil,et]
   repeat (first | (refine PC.seq fun K hK=>?_) | (refine PC.block ?_) | (refine PC.region ?_) | (refine PL.k rfl fun KK hKK=>?_;simp (disch:=omega) [go_sem,jg,f24,f25,f26,hil',hil,et,eI,f6,b6,slI];refine hKK _ ?_;clear hKK KK) | (refine PL.k rfl fun KK hKK=>?_;simp[go_sem,jg,f24,f25,f26,hil',hil,et,eI,f6,b6,slI];refine hKK _ ?_;clear hKK KK) | (refine PL.g rfl rfl fun KK hKK=>?_;simp (disch:=omega) [go_sem,L.stepG,f24,f25,f26,hil',hil,et,eI,f6,b6,slI];refine hKK _ ?_;clear hKK KK) | (refine PL.g rfl rfl fun KK hKK=>?_;simp[go_sem,L.stepG,f24,f25,f26,hil',hil,et,eI,f6,b6,slI];refine hKK _ ?_;clear hKK KK) | (refine PL.done hK ?_;clear hK) | (refine PC.skip (hK _ _ ?_);clear hK) | (refine PC.condT ?_ ?_;focus (simp[go_sem,f24,f25,f26,hil',hil,et,eI,f6,b6,slI];done)) | (refine PC.condF ?_ ?_;focus (simp[go_sem,f24,f25,f26,hil',hil,et,eI,f6,b6,slI];done)) | (refine PC.exit ?_;first | (refine hK _ _ ?_;clear hK) | (clear hK;refine hK _ _ ?_;clear hK) | (clear hK;clear hK;refine hK _ _ ?_;clear hK)))
   refine PL.allocA 12 (d:=9) rfl rfl rfl (by simp) Qy rfl rfl fun v9 H7 b9 o7=>?_
   refine PL.storeA (id:=12) rfl rfl (by simp[jn]) (by simp[go_sem];rfl) b9 Vo (v := .agg [I p.1,I t]) (ps:=[I p.1,I t]) (by simp[go_sem,I]) rfl rfl rfl (by simp) (cs':=[I p.1,I t]) rfl fun H8 b9 o8=>?_
   repeat (first | (refine PC.seq fun K hK=>?_) | (refine PC.block ?_) | (refine PC.region ?_) | (refine PL.k rfl fun KK hKK=>?_;simp (disch:=omega) [go_sem,jg,f3,f5,b9];refine hKK _ ?_;clear hKK KK) | (refine PL.k rfl fun KK hKK=>?_;simp[go_sem,jg,f3,f5,b9];refine hKK _ ?_;clear hKK KK) | (refine PL.g rfl rfl fun KK hKK=>?_;simp (disch:=omega) [go_sem,L.stepG,f3,f5,b9];refine hKK _ ?_;clear hKK KK) | (refine PL.g rfl rfl fun KK hKK=>?_;simp[go_sem,L.stepG,f3,f5,b9];refine hKK _ ?_;clear hKK KK) | (refine PL.done hK ?_;clear hK) | (refine PC.skip (hK _ _ ?_);clear hK) | (refine PC.condT ?_ ?_;focus (simp[go_sem,f3,f5,b9];done)) | (refine PC.condF ?_ ?_;focus (simp[go_sem,f3,f5,b9];done)) | (refine PC.exit ?_;first | (refine hK _ _ ?_;clear hK) | (clear hK;refine hK _ _ ?_;clear hK) | (clear hK;clear hK;refine hK _ _ ?_;clear hK)))
   refine PL.buildSliceR (d:=38) rfl rfl rfl (by simp) zw rfl (by omega) (ips:=[(0,I k)]) (by simp[go_sem,I]) rfl (ps:=[I k]) rfl ?_
   have hq8:ownMR plv 3 1000 H8 10 q m:=hq.mono (by rw[o8 10 (by decide),o7 10 (by decide)]) (fun j hj=>by rw[o8 j (by omega),o7 j (by omega)])
   refine PL.mapApp (key:=113) (elem:=31) (id:=10) (base:=1000) (d1:=39) (d2:=36) (d3:=40) (d4:=41) (e:=3) (q:=q) (k:=(p.1,t)) (v:=k) (pk := .agg [I p.1,I t]) z71 (by decide) (by kernel_rfl) zw (fun w=>rfl) rfl rfl rfl rfl rfl rfl rfl rfl rfl rfl rfl rfl rfl rfl rfl (by simp) (by decide) (fun F' h=>by simp only[evP];rw[h 34 (by decide) (by decide) (by decide) (by decide)];simp[go_sem,f3]) (by simp[go_sem]) rfl (fun F' h=>by simp only[evP];rw[h 38 (by decide) (by decide) (by decide) (by decide)];simp[go_sem]) hq8 hadd fun F9 H9 hF9 hq9 o9=>?_
   repeat (first | (refine PC.seq fun K hK=>?_) | (refine PC.block ?_) | (refine PC.region ?_) | (refine PL.k rfl fun KK hKK=>?_;simp (disch:=omega) [go_sem,jg];refine hKK _ ?_;clear hKK KK) | (refine PL.k rfl fun KK hKK=>?_;simp[go_sem,jg];refine hKK _ ?_;clear hKK KK) | (refine PL.g rfl rfl fun KK hKK=>?_;simp (disch:=omega) [go_sem,L.stepG];refine hKK _ ?_;clear hKK KK) | (refine PL.g rfl rfl fun KK hKK=>?_;simp[go_sem,L.stepG];refine hKK _ ?_;clear hKK KK) | (refine PL.done hK ?_;clear hK) | (refine PC.skip (hK _ _ ?_);clear hK) | (refine PC.condT ?_ ?_;focus (simp[go_sem];done)) | (refine PC.condF ?_ ?_;focus (simp[go_sem];done)) | (refine PC.exit ?_;first | (refine hK _ _ ?_;clear hK) | (clear hK;refine hK _ _ ?_;clear hK) | (clear hK;clear hK;refine hK _ _ ?_;clear hK)))
   have g1:F9 1 = .pp 13 0 v1:=by rw[hF9 1 (by decide) (by decide) (by decide) (by decide)];simp[go_sem,f1]
   have g3:F9 3=q:=by rw[hF9 3 (by decide) (by decide) (by decide) (by decide)];simp[go_sem,f3]
   have g4:F9 4=beh:=by rw[hF9 4 (by decide) (by decide) (by decide) (by decide)];simp[go_sem,f4]
   have g14:F9 14 = .sl 2 (ps.map prV):=by rw[hF9 14 (by decide) (by decide) (by decide) (by decide)];simp[go_sem,f14]
   have g15:F9 15=I ps.length:=by rw[hF9 15 (by decide) (by decide) (by decide) (by decide)];simp[go_sem,f15]
   have g16:F9 16=I k:=by rw[hF9 16 (by decide) (by decide) (by decide) (by decide)];simp[go_sem,f16]
   have g5:F9 5=I k:=by rw[hF9 5 (by decide) (by decide) (by decide) (by decide)];simp[go_sem,f5]
   have g6:F9 6 = .pp 11 0 v6:=by rw[hF9 6 (by decide) (by decide) (by decide) (by decide)];simp[go_sem,f6]
   have g24:F9 24=slI l:=by rw[hF9 24 (by decide) (by decide) (by decide) (by decide)];simp[go_sem,f24]
   have g25:F9 25=I l.length:=by rw[hF9 25 (by decide) (by decide) (by decide) (by decide)];simp[go_sem,f25]
   have g26:F9 26=I i:=by rw[hF9 26 (by decide) (by decide) (by decide) (by decide)];simp[go_sem,f26]
   repeat (first | (refine PC.seq fun K hK=>?_) | (refine PC.block ?_) | (refine PC.region ?_) | (refine PL.k rfl fun KK hKK=>?_;simp (disch:=omega) [go_sem,jg,g26];refine hKK _ ?_;clear hKK KK) | (refine PL.k rfl fun KK hKK=>?_;simp[go_sem,jg,g26];refine hKK _ ?_;clear hKK KK) | (refine PL.g rfl rfl fun KK hKK=>?_;simp (disch:=omega) [go_sem,L.stepG,g26];refine hKK _ ?_;clear hKK KK) | (refine PL.g rfl rfl fun KK hKK=>?_;simp[go_sem,L.stepG,g26];refine hKK _ ?_;clear hKK KK) | (refine PL.done hK ?_;clear hK) | (refine PC.skip (hK _ _ ?_);clear hK) | (refine PC.condT ?_ ?_;focus (simp[go_sem,g26];done)) | (refine PC.condF ?_ ?_;focus (simp[go_sem,g26];done)) | (refine PC.exit ?_;first | (refine hK _ _ ?_;clear hK) | (clear hK;refine hK _ _ ?_;clear hK) | (clear hK;clear hK;refine hK _ _ ?_;clear hK)))
   refine PL.nil ⟨l.length-(i+1),by omega,i+1,q,m2,by omega,rfl,ha,?_⟩
   exact⟨by simp[go_sem,g1],by rw[o9 13 (by decide) (by decide),o8 13 (by decide),o7 13 (by decide)];exact b1,by simp[go_sem,g3],hq9,by simp[go_sem,g4],by simp[go_sem,g14],by simp[go_sem,g15],by simp[go_sem,g16],by simp[go_sem,g5],by simp[go_sem,g6],by rw[o9 11 (by decide) (by decide),o8 11 (by decide),o7 11 (by decide)];exact b6,by simp[go_sem,g24],by simp[go_sem,g25],by simp[go_sem],fun j hj=>by rw[o9 j (by omega) (by omega),o8 j (by omega),o7 j (by omega),o6 j hj]⟩
  ·have hil':¬(i:Int)<l.length:=by omega
   have hie:i=l.length:=by omega
   rw[hie,List.drop_length] at ha
   unfold zfo at ha
   cases ha
   repeat (first | (refine PC.seq fun K hK=>?_) | (refine PC.block ?_) | (refine PC.region ?_) | (refine PL.k rfl fun KK hKK=>?_;simp (disch:=omega) [go_sem,jg,f25,f26,hil',f16];refine hKK _ ?_;clear hKK KK) | (refine PL.k rfl fun KK hKK=>?_;simp[go_sem,jg,f25,f26,hil',f16];refine hKK _ ?_;clear hKK KK) | (refine PL.g rfl rfl fun KK hKK=>?_;simp (disch:=omega) [go_sem,L.stepG,f25,f26,hil',f16];refine hKK _ ?_;clear hKK KK) | (refine PL.g rfl rfl fun KK hKK=>?_;simp[go_sem,L.stepG,f25,f26,hil',f16];refine hKK _ ?_;clear hKK KK) | (refine PL.done hK ?_;clear hK) | (refine PC.skip (hK _ _ ?_);clear hK) | (refine PC.condT ?_ ?_;focus (simp[go_sem,f25,f26,hil',f16];done)) | (refine PC.condF ?_ ?_;focus (simp[go_sem,f25,f26,hil',f16];done)) | (refine PC.exit ?_;first | (refine hK _ _ ?_;clear hK) | (clear hK;refine hK _ _ ?_;clear hK) | (clear hK;clear hK;refine hK _ _ ?_;clear hK)))
   refine PL.nil ⟨ps.length-(k+1),by omega,k+1,q,_,by omega,rfl,hm,?_⟩
   exact⟨by simp[go_sem,f1],b1,by simp[go_sem,f3],hq,by simp[go_sem,f4],by simp[go_sem,f14],by simp[go_sem,f15],by simp[go_sem],o6⟩
 ·have hlt':¬(k:Int)<ps.length:=by omega
  have hke:k=ps.length:=by omega
  rw[hke,List.drop_length,List.map_nil] at hm
  unfold zcy at hm
  cases hm
  repeat (first | (refine PC.seq fun K hK=>?_) | (refine PC.block ?_) | (refine PC.region ?_) | (refine PL.k rfl fun KK hKK=>?_;simp (disch:=omega) [go_sem,jg,f15,f16,hlt',f3];refine hKK _ ?_;clear hKK KK) | (refine PL.k rfl fun KK hKK=>?_;simp[go_sem,jg,f15,f16,hlt',f3];refine hKK _ ?_;clear hKK KK) | (refine PL.g rfl rfl fun KK hKK=>?_;simp (disch:=omega) [go_sem,L.stepG,f15,f16,hlt',f3];refine hKK _ ?_;clear hKK KK) | (refine PL.g rfl rfl fun KK hKK=>?_;simp[go_sem,L.stepG,f15,f16,hlt',f3];refine hKK _ ?_;clear hKK KK) | (refine PL.done hK ?_;clear hK) | (refine PC.skip (hK _ _ ?_);clear hK) | (refine PC.condT ?_ ?_;focus (simp[go_sem,f15,f16,hlt',f3];done)) | (refine PC.condF ?_ ?_;focus (simp[go_sem,f15,f16,hlt',f3];done)) | (refine PC.exit ?_;first | (refine hK _ _ ?_;clear hK) | (clear hK;refine hK _ _ ?_;clear hK) | (clear hK;clear hK;refine hK _ _ ?_;clear hK)))
  exact PC.ret ⟨.inr rfl,q,by simp[Y8,Qh,Tryz.results73,go_sem],hq,o3⟩
end Go.Proofs.YtdllbdlnmjngcaaGreat

namespace Go.Proofs.YtdllbdlnmjngcaaGreat
open Go Go.RowKit L
set_option linter.unusedVariables false
set_option linter.unusedSimpArgs false
def ltP (a b:Int×Int):Prop:=a.1<b.1∨a.1=b.1∧a.2<b.2
instance (a b:Int×Int):Decidable (ltP a b):=by unfold ltP;infer_instance
def zrl (acc:(Int×Int)×Bool) (e:(Int×Int)×List Int):(Int×Int)×Bool:=if e.2.length<2∨acc.2=true∧ltP acc.1 e.1 then acc else (e.1,true)
def jw (m:PM):(Int×Int)×Bool:=m.foldl zrl ((0,0),false)
def ClP (S:(Int×Int)×List Int→Prop) (r:(Int×Int)×Bool):Prop:=
 (r=((0,0),false)∧∀ e,S e→e.2.length<2)∨(r.2=true∧(∃ e,S e∧e.1=r.1∧2≤e.2.length)∧∀ e,S e→2≤e.2.length→¬ ltP e.1 r.1)
theorem z4x {a b:Int×Int} (h1:¬ ltP a b) (h2:¬ ltP b a):a=b:=by
 unfold ltP at h1 h2
 obtain⟨a1,a2⟩:=a
 obtain⟨b1,b2⟩:=b
 simp only at h1 h2
 have e1:a1=b1:=by omega
 have e2:a2=b2:=by omega
 rw[e1,e2]
theorem ClP.step {S:(Int×Int)×List Int→Prop} {r:(Int×Int)×Bool} (h:ClP S r) (e:(Int×Int)×List Int):ClP (fun x=>S x∨x=e) (zrl r e):=by
 unfold zrl
 split
 ·rename_i hc
  rcases h with ⟨rfl,h⟩ | ⟨h1,⟨x,h2,h3,h4⟩,h5⟩
  ·have hl:e.2.length<2:=by rcases hc with hc | ⟨hc,_⟩;exact hc;cases hc
   exact .inl ⟨rfl,fun y hy=>by rcases hy with hy | rfl;exact h y hy;exact hl⟩
  ·refine .inr ⟨h1,⟨x, .inl h2,h3,h4⟩,fun y hy hl=>?_⟩
   rcases hy with hy | rfl
   ·exact h5 y hy hl
   ·rcases hc with hc | ⟨_,hc⟩
    ·omega
    ·unfold ltP at hc ⊢;omega
 ·rename_i hc
  have hl:2≤e.2.length:=by
   rcases Nat.lt_or_ge e.2.length 2 with h | h
   ·exact absurd (.inl h) hc
   ·exact h
  refine .inr ⟨rfl,⟨e, .inr rfl,rfl,hl⟩,fun y hy hyl=>?_⟩
  rcases hy with hy | rfl
  ·rcases h with ⟨rfl,h⟩ | ⟨h1,_,h5⟩
   ·have:=h y hy;omega
   ·have h6:=h5 y hy hyl
    have h7:¬ ltP r.1 e.1:=fun h=>hc (.inr ⟨h1,h⟩)
    unfold ltP at h6 h7 ⊢
    simp only at h6 h7 ⊢
    omega
  ·unfold ltP;simp only;omega
theorem ClP.uniq {S:(Int×Int)×List Int→Prop} {r s:(Int×Int)×Bool} (h:ClP S r) (g:ClP S s):r=s:=by
 rcases h with ⟨rfl,h⟩ | ⟨h1,⟨x,h2,h3,h4⟩,h5⟩
 ·rcases g with ⟨rfl,_⟩ | ⟨_,⟨x,g2,_,g4⟩,_⟩
  ·rfl
  ·have:=h x g2;omega
 ·rcases g with ⟨rfl,g⟩ | ⟨g1,⟨y,g2,g3,g4⟩,g5⟩
  ·have:=g x h2;omega
  ·have e1:r.1=s.1:=by
    have k1:=h5 y g2 g4
    have k2:=g5 x h2 h4
    rw[h3] at k2
    rw[g3] at k1
    exact z4x k2 k1
   obtain⟨r1,r2⟩:=r
   obtain⟨s1,s2⟩:=s
   simp only at e1 h1 g1
   rw[e1,h1,g1]
theorem zdu (m:PM):ClP (fun e=>e∈m) (jw m):=by
 suffices ∀(l:PM) (S:(Int×Int)×List Int→Prop) (r:(Int×Int)×Bool),ClP S r→ClP (fun e=>S e∨e∈l) (l.foldl zrl r) by
  have h:=this m (fun _=>False) ((0,0),false) (.inl ⟨rfl,fun e h=>h.elim⟩)
  have e:(fun e=>False∨e∈m)=fun e=>e∈m:=by funext e;simp
  rw[e] at h;exact h
 intro l
 induction l with
 | nil=>
  intro S r h
  have e:(fun e=>S e∨e∈([]:PM))=S:=by funext e;simp
  rw[e];exact h
 | cons x l ih=>
  intro S r h
  have:=ih _ _ (h.step x)
  have e:(fun e=>S e∨e∈x :: l)=fun e=>(S e∨e=x)∨e∈l:=by funext e;simp[or_assoc]
  rw[e];exact this
theorem PL.lenRow {P:Program} {W:Env} {n:Nat} {H:PHeap} {F:PFrame} {ops:Array Oper} {o:Oper} {l:List Oper} {K:PFrame→PHeap→Prop} {x:Operand} {t e k d id m:Nat} {q:PV} {cs:List PV} (hg:o.guard=none) (ho:o.op = .call { callee := .builtin .len,args:=#[x],argTypes:=#[t] }) (hd:o.dst=some d) (hdn:d<n) (ht:v8 P t=true) (hx:evP F x=q) (hq:OwnS H e k id q m cs)
  (h:PL P W n ops l (F.put (some d) (I m)) H K):PL P W n ops (o :: l) F H K:=by
 refine PL.pe hg (PE.quiet (fun t ht=>by rw[hd] at ht;cases ht;exact hdn) (jc ?_) (by rw[hd];exact h))
 unfold jp
 rw[ho]
 subst hx
 exact OwnS.len ht hq
set_option maxRecDepth 20000 in
set_option maxHeartbeats 4000000 in
theorem zo8 (H:PHeap) (q:PV) (m:PM) (hq:ownMR plv 3 1000 H 10 q m) :
  PIn Tryz.prog 74 [q] H (fun r H'=>r = .tup [.agg [I (jw m).1.1,I (jw m).1.2], .u (.bool (jw m).2)]∧∀ j,j<20∨1000≤j→H' j=H j):=by
 refine PIn.intro Tryz.func74 rfl Tryz.ntmps74 (by simp) (by kernel_rfl) fun W=>?_
 obtain⟨ver,bs,clock,cs,rfl,hH,hbl,⟨hnd,_⟩,hcl,hrows⟩:=hq
 refine PC.seq fun K hK=>?_
 refine PC.region ?_
 refine PL.allocA 21 (d:=2) rfl rfl rfl (by simp) Qy rfl rfl fun v2 H1 b2 o1=>?_
 repeat (first | (refine PC.seq fun K hK=>?_) | (refine PC.block ?_) | (refine PC.region ?_) | (refine PL.k rfl fun KK hKK=>?_;simp (disch:=omega) [go_sem,jg];refine hKK _ ?_;clear hKK KK) | (refine PL.k rfl fun KK hKK=>?_;simp[go_sem,jg];refine hKK _ ?_;clear hKK KK) | (refine PL.g rfl rfl fun KK hKK=>?_;simp (disch:=omega) [go_sem,L.stepG];refine hKK _ ?_;clear hKK KK) | (refine PL.g rfl rfl fun KK hKK=>?_;simp[go_sem,L.stepG];refine hKK _ ?_;clear hKK KK) | (refine PL.done hK ?_;clear hK) | (refine PC.skip (hK _ _ ?_);clear hK) | (refine PC.condT ?_ ?_;focus (simp[go_sem];done)) | (refine PC.condF ?_ ?_;focus (simp[go_sem];done)) | (refine PC.exit ?_;first | (refine hK _ _ ?_;clear hK) | (clear hK;refine hK _ _ ?_;clear hK) | (clear hK;clear hK;refine hK _ _ ?_;clear hK)))
 refine PL.allocA 22 (d:=4) rfl rfl rfl (by simp) Qy rfl rfl fun v4 H2 b4 o2=>?_
 refine PL.storeA (id:=22) rfl rfl (by simp[jn]) (by simp[go_sem];rfl) b4 Vo (v := .agg [I 0,I 0]) (ps:=[I 0,I 0]) (by simp[go_sem,I]) rfl rfl rfl (by simp) (cs':=[I 0,I 0]) rfl fun H3 b4 o3=>?_
 repeat (first | (refine PC.seq fun K hK=>?_) | (refine PC.block ?_) | (refine PC.region ?_) | (refine PL.k rfl fun KK hKK=>?_;simp (disch:=omega) [go_sem,jg];refine hKK _ ?_;clear hKK KK) | (refine PL.k rfl fun KK hKK=>?_;simp[go_sem,jg];refine hKK _ ?_;clear hKK KK) | (refine PL.g rfl rfl fun KK hKK=>?_;simp (disch:=omega) [go_sem,L.stepG];refine hKK _ ?_;clear hKK KK) | (refine PL.g rfl rfl fun KK hKK=>?_;simp[go_sem,L.stepG];refine hKK _ ?_;clear hKK KK) | (refine PL.done hK ?_;clear hK) | (refine PC.skip (hK _ _ ?_);clear hK) | (refine PC.condT ?_ ?_;focus (simp[go_sem];done)) | (refine PC.condF ?_ ?_;focus (simp[go_sem];done)) | (refine PC.exit ?_;first | (refine hK _ _ ?_;clear hK) | (clear hK;refine hK _ _ ?_;clear hK) | (clear hK;clear hK;refine hK _ _ ?_;clear hK)))
 have hH3:H3 10 = ⟨ver,some (Qf ((m.map (·.1)).map plv) bs clock cs)⟩:=by rw[o3 10 (by decide),o2 10 (by decide),o1 10 (by decide)];exact hH
 refine PL.pe rfl (PE.rangeM (id:=10) (r:=23) (d:=10) (key:=113) (elem:=31) rfl rfl (by simp) (by kernel_rfl) (by decide) hH3 (by simp[go_sem]) ?_)
 repeat (first | (refine PC.seq fun K hK=>?_) | (refine PC.block ?_) | (refine PC.region ?_) | (refine PL.k rfl fun KK hKK=>?_;simp (disch:=omega) [go_sem,jg];refine hKK _ ?_;clear hKK KK) | (refine PL.k rfl fun KK hKK=>?_;simp[go_sem,jg];refine hKK _ ?_;clear hKK KK) | (refine PL.g rfl rfl fun KK hKK=>?_;simp (disch:=omega) [go_sem,L.stepG];refine hKK _ ?_;clear hKK KK) | (refine PL.g rfl rfl fun KK hKK=>?_;simp[go_sem,L.stepG];refine hKK _ ?_;clear hKK KK) | (refine PL.done hK ?_;clear hK) | (refine PC.skip (hK _ _ ?_);clear hK) | (refine PC.condT ?_ ?_;focus (simp[go_sem];done)) | (refine PC.condF ?_ ?_;focus (simp[go_sem];done)) | (refine PC.exit ?_;first | (refine hK _ _ ?_;clear hK) | (clear hK;refine hK _ _ ?_;clear hK) | (clear hK;clear hK;refine hK _ _ ?_;clear hK)))
 generalize hv10:(H3 23).ver+1=v10
 have hkv:∀(j:Nat) (k:Value),((m.map (·.1)).map plv)[j]? = some k→∃ e,m[j]? = some e∧k=plv e.1:=fun j k h=>by
  rw[List.getElem?_map,List.getElem?_map] at h
  cases he:m[j]? with
  | none=>rw[he] at h;cases h
  | some e=>rw[he] at h;cases h;exact⟨e,rfl,rfl⟩
 refine PC.loop (fun f F H'=>∃(seen:Array Nat) (r:(Int×Int)×Bool),f=(bs.filter fun b=>!seen.contains b).length∧ClP (fun e=>∃(j b:Nat),m[j]? = some e∧bs[j]? = some b∧seen.contains b=true) r∧F 2 = .pp 21 0 v2∧H' 21 = ⟨v2,some (.box 113 [I 0,I 0])⟩∧F 4 = .pp 22 0 v4∧H' 22 = ⟨v4,some (.box 113 [I r.1.1,I r.1.2])⟩∧F 5=B r.2∧F 10 = .ps 23 v10∧H' 23 = ⟨v10,some (itB 10 ver clock seen clock)⟩∧∀ j,j<20∨1000≤j→H' j=H j) (m:=(bs.filter fun b=>!(#[]:Array Nat).contains b).length)
  ⟨#[],((0,0),false),rfl, .inl ⟨rfl,fun e ⟨j,b,_,_,h⟩=>by simp at h⟩,by simp[go_sem],by simp[PHeap.set];rw[o3 21 (by decide),o2 21 (by decide)];exact b2,by simp[go_sem],by simp[PHeap.set];exact b4,by simp[go_sem],by simp[go_sem],by simp[PHeap.set],fun j hj=>by simp only[PHeap.set];rw[if_neg (by omega),o3 j (by omega),o2 j (by omega),o1 j (by omega)]⟩ fun f F H4 hI=>?_
 obtain⟨seen,r,rfl,hr,f2,b21,f4,b22,f5,f10,b23,hoth⟩:=hI
 have b10:H4 10 = ⟨ver,some (Qf ((m.map (·.1)).map plv) bs clock cs)⟩:=by rw[hoth 10 (.inl (by decide))];exact hH
 refine PC.seq fun K hK=>?_
 refine PC.region ?_
 refine PL.pe rfl (PE.nextM (id:=10) (r:=23) rfl (by simp[jn]) b10 b23 (by simp[go_sem,f10]) (fun hall=>?_) fun j b c kk hbj hcj hkj hsn=>?_)
 ·repeat (first | (refine PC.seq fun K hK=>?_) | (refine PC.block ?_) | (refine PC.region ?_) | (refine PL.k rfl fun KK hKK=>?_;simp (disch:=omega) [go_sem,jg,f4,f5,b22];refine hKK _ ?_;clear hKK KK) | (refine PL.k rfl fun KK hKK=>?_;simp[go_sem,jg,f4,f5,b22];refine hKK _ ?_;clear hKK KK) | (refine PL.g rfl rfl fun KK hKK=>?_;simp (disch:=omega) [go_sem,L.stepG,f4,f5,b22];refine hKK _ ?_;clear hKK KK) | (refine PL.g rfl rfl fun KK hKK=>?_;simp[go_sem,L.stepG,f4,f5,b22];refine hKK _ ?_;clear hKK KK) | (refine PL.done hK ?_;clear hK) | (refine PC.skip (hK _ _ ?_);clear hK) | (refine PC.condT ?_ ?_;focus (simp[go_sem,f4,f5,b22];done)) | (refine PC.condF ?_ ?_;focus (simp[go_sem,f4,f5,b22];done)) | (refine PC.exit ?_;first | (refine hK _ _ ?_;clear hK) | (clear hK;refine hK _ _ ?_;clear hK) | (clear hK;clear hK;refine hK _ _ ?_;clear hK)))
  refine PL.storeA (id:=21) rfl rfl (by simp[jn]) (by simp[go_sem,f2];rfl) b21 Vo (v := .agg [I r.1.1,I r.1.2]) (ps:=[I r.1.1,I r.1.2]) (by simp[go_sem]) rfl rfl rfl (by simp) (cs':=[I r.1.1,I r.1.2]) rfl fun H5 b21 o5=>?_
  repeat (first | (refine PC.seq fun K hK=>?_) | (refine PC.block ?_) | (refine PC.region ?_) | (refine PL.k rfl fun KK hKK=>?_;simp (disch:=omega) [go_sem,jg];refine hKK _ ?_;clear hKK KK) | (refine PL.k rfl fun KK hKK=>?_;simp[go_sem,jg];refine hKK _ ?_;clear hKK KK) | (refine PL.g rfl rfl fun KK hKK=>?_;simp (disch:=omega) [go_sem,L.stepG];refine hKK _ ?_;clear hKK KK) | (refine PL.g rfl rfl fun KK hKK=>?_;simp[go_sem,L.stepG];refine hKK _ ?_;clear hKK KK) | (refine PL.done hK ?_;clear hK) | (refine PC.skip (hK _ _ ?_);clear hK) | (refine PC.condT ?_ ?_;focus (simp[go_sem];done)) | (refine PC.condF ?_ ?_;focus (simp[go_sem];done)) | (refine PC.exit ?_;first | (refine hK _ _ ?_;clear hK) | (clear hK;refine hK _ _ ?_;clear hK) | (clear hK;clear hK;refine hK _ _ ?_;clear hK)))
  have hS:(fun e=>∃(j b:Nat),m[j]? = some e∧bs[j]? = some b∧seen.contains b=true)=fun e=>e∈m:=by
   funext e
   apply propext
   constructor
   ·rintro⟨j,b,h,_,_⟩;exact List.mem_of_getElem? h
   ·intro h
    obtain⟨j,hj⟩:=List.getElem?_of_mem h
    have hlt:=(List.getElem?_eq_some_iff.1 hj).1
    obtain⟨b,hb⟩:∃ b,bs[j]? = some b:=⟨_,List.getElem?_eq_getElem (by omega)⟩
    exact⟨j,b,hj,hb,hall b (List.mem_of_getElem? hb)⟩
  rw[hS] at hr
  have er:=hr.uniq (zdu m)
  rw[← er]
  exact PC.ret ⟨.inr rfl, .tup [.agg [I r.1.1,I r.1.2], .u (.bool r.2)],by simp[Y8,Qh,Tryz.results74,go_sem,f2,q6,ji,b21,qk],rfl,fun j hj=>by rw[o5 j (by omega)];exact hoth j hj⟩
 ·obtain⟨e,he,rfl⟩:=hkv j kk hkj
  generalize eH5:H4.set 23 ⟨v10,some (itB 10 ver clock (seen.push b) clock)⟩=H5
  have b23':H5 23 = ⟨v10,some (itB 10 ver clock (seen.push b) clock)⟩:=by rw[← eH5];simp[PHeap.set]
  have o5:∀ j,j≠23→H5 j=H4 j:=fun j hj=>by rw[← eH5];simp[PHeap.set,hj]
  have hofV:ofV (plv e.1) = .agg [I e.1.1,I e.1.2]:=rfl
  rw[hofV]
  repeat (first | (refine PC.seq fun K hK=>?_) | (refine PC.block ?_) | (refine PC.region ?_) | (refine PL.k rfl fun KK hKK=>?_;simp (disch:=omega) [go_sem,jg];refine hKK _ ?_;clear hKK KK) | (refine PL.k rfl fun KK hKK=>?_;simp[go_sem,jg];refine hKK _ ?_;clear hKK KK) | (refine PL.g rfl rfl fun KK hKK=>?_;simp (disch:=omega) [go_sem,L.stepG];refine hKK _ ?_;clear hKK KK) | (refine PL.g rfl rfl fun KK hKK=>?_;simp[go_sem,L.stepG];refine hKK _ ?_;clear hKK KK) | (refine PL.done hK ?_;clear hK) | (refine PC.skip (hK _ _ ?_);clear hK) | (refine PC.condT ?_ ?_;focus (simp[go_sem];done)) | (refine PC.condF ?_ ?_;focus (simp[go_sem];done)) | (refine PC.exit ?_;first | (refine hK _ _ ?_;clear hK) | (clear hK;refine hK _ _ ?_;clear hK) | (clear hK;clear hK;refine hK _ _ ?_;clear hK)))
  refine PL.pe rfl (PE.quiet (by simp[jn]) (PQ.entryM (id:=10) (r:=23) (j:=j) (b:=b) (c:=c) (k:=plv e.1) rfl (by rw[o5 10 (by decide)];exact b10) b23' (by simp[go_sem,f10]) hbj hcj hkj) ?_)
  rw[hofV]
  repeat (first | (refine PC.seq fun K hK=>?_) | (refine PC.block ?_) | (refine PC.region ?_) | (refine PL.k rfl fun KK hKK=>?_;simp (disch:=omega) [go_sem,jg];refine hKK _ ?_;clear hKK KK) | (refine PL.k rfl fun KK hKK=>?_;simp[go_sem,jg];refine hKK _ ?_;clear hKK KK) | (refine PL.g rfl rfl fun KK hKK=>?_;simp (disch:=omega) [go_sem,L.stepG];refine hKK _ ?_;clear hKK KK) | (refine PL.g rfl rfl fun KK hKK=>?_;simp[go_sem,L.stepG];refine hKK _ ?_;clear hKK KK) | (refine PL.done hK ?_;clear hK) | (refine PC.skip (hK _ _ ?_);clear hK) | (refine PC.condT ?_ ?_;focus (simp[go_sem];done)) | (refine PC.condF ?_ ?_;focus (simp[go_sem];done)) | (refine PC.exit ?_;first | (refine hK _ _ ?_;clear hK) | (clear hK;refine hK _ _ ?_;clear hK) | (clear hK;clear hK;refine hK _ _ ?_;clear hK)))
  refine PL.allocA 24 (d:=6) rfl rfl rfl (by simp) Qy rfl rfl fun v6 H6 b6 o6=>?_
  refine PL.storeA (id:=24) rfl rfl (by simp[jn]) (by simp[go_sem];rfl) b6 Vo (v := .agg [I e.1.1,I e.1.2]) (ps:=[I e.1.1,I e.1.2]) (by simp[go_sem]) rfl rfl rfl (by simp) (cs':=[I e.1.1,I e.1.2]) rfl fun H7 b6 o7=>?_
  have hrow:OwnS H7 3 1 (1000+j) c e.2.length _:=(hrows j c e hcj he).mono (by rw[o7 _ (by omega),o6 _ (by omega),o5 _ (by omega),hoth _ (.inr (by omega))])
  have b22':H7 22 = ⟨v4,some (.box 113 [I r.1.1,I r.1.2])⟩:=by rw[o7 22 (by decide),o6 22 (by decide),o5 22 (by decide)];exact b22
  have b21':H7 21 = ⟨v2,some (.box 113 [I 0,I 0])⟩:=by rw[o7 21 (by decide),o6 21 (by decide),o5 21 (by decide)];exact b21
  have b23':H7 23 = ⟨v10,some (itB 10 ver clock (seen.push b) clock)⟩:=by rw[o7 23 (by decide),o6 23 (by decide)];exact b23'
  have hoth':∀ j,j<20∨1000≤j→H7 j=H j:=fun j hj=>by rw[o7 j (by omega),o6 j (by omega),o5 j (by omega)];exact hoth j hj
  repeat (first | (refine PC.seq fun K hK=>?_) | (refine PC.block ?_) | (refine PC.region ?_) | (refine PL.k rfl fun KK hKK=>?_;simp (disch:=omega) [go_sem,jg];refine hKK _ ?_;clear hKK KK) | (refine PL.k rfl fun KK hKK=>?_;simp[go_sem,jg];refine hKK _ ?_;clear hKK KK) | (refine PL.g rfl rfl fun KK hKK=>?_;simp (disch:=omega) [go_sem,L.stepG];refine hKK _ ?_;clear hKK KK) | (refine PL.g rfl rfl fun KK hKK=>?_;simp[go_sem,L.stepG];refine hKK _ ?_;clear hKK KK) | (refine PL.done hK ?_;clear hK) | (refine PC.skip (hK _ _ ?_);clear hK) | (refine PC.condT ?_ ?_;focus (simp[go_sem];done)) | (refine PC.condF ?_ ?_;focus (simp[go_sem];done)) | (refine PC.exit ?_;first | (refine hK _ _ ?_;clear hK) | (clear hK;refine hK _ _ ?_;clear hK) | (clear hK;clear hK;refine hK _ _ ?_;clear hK)))
  refine PL.lenRow rfl rfl rfl (by simp) (by kernel_rfl) (q:=c) (by simp[go_sem]) hrow ?_
  have hstep:=hr.step e
  have hS:(fun x=>(∃(j b:Nat),m[j]? = some x∧bs[j]? = some b∧seen.contains b=true)∨x=e)=fun x=>∃(j' b':Nat),m[j']? = some x∧bs[j']? = some b'∧(seen.push b).contains b'=true:=by
   funext x
   apply propext
   simp only[contains_push,Bool.or_eq_true,beq_iff_eq]
   constructor
   ·rintro(⟨j',b',h1,h2,h3⟩ | rfl)
    ·exact⟨j',b',h1,h2, .inl h3⟩
    ·exact⟨j,b,he,hbj, .inr rfl⟩
   ·rintro⟨j',b',h1,h2,h3 | rfl⟩
    ·exact .inl ⟨j',b',h1,h2,h3⟩
    ·right
     have hjj:j'=j:=by
      have h4:=List.getElem?_eq_some_iff.1 h2
      have h5:=List.getElem?_eq_some_iff.1 hbj
      exact(List.getElem_inj hnd).1 (h4.2.trans h5.2.symm)
     rw[hjj,he] at h1
     cases h1;rfl
  rw[hS] at hstep
  have hms:(bs.filter fun b'=>!(seen.push b).contains b').length<(bs.filter fun b'=>!seen.contains b').length:=
   filter_lt _ _ (fun x hx=>by simp only[contains_push,Bool.not_or,Bool.and_eq_true] at hx;exact hx.1) b (by show(!seen.contains b)=true;rw[hsn];rfl) (by simp[contains_push]) bs (List.mem_of_getElem? hbj)
  generalize hr2:zrl r e=r2 at hstep
  unfold zrl at hr2
  by_cases h2:e.2.length<2
  ·rw[if_pos (.inl h2)] at hr2
   subst hr2
   have h2':(e.2.length:Int)<2:=by omega
   repeat (first | (refine PC.seq fun K hK=>?_) | (refine PC.block ?_) | (refine PC.region ?_) | (refine PL.k rfl fun KK hKK=>?_;simp (disch:=omega) [go_sem,jg,h2',f5];refine hKK _ ?_;clear hKK KK) | (refine PL.k rfl fun KK hKK=>?_;simp[go_sem,jg,h2',f5];refine hKK _ ?_;clear hKK KK) | (refine PL.g rfl rfl fun KK hKK=>?_;simp (disch:=omega) [go_sem,L.stepG,h2',f5];refine hKK _ ?_;clear hKK KK) | (refine PL.g rfl rfl fun KK hKK=>?_;simp[go_sem,L.stepG,h2',f5];refine hKK _ ?_;clear hKK KK) | (refine PL.done hK ?_;clear hK) | (refine PC.skip (hK _ _ ?_);clear hK) | (refine PC.condT ?_ ?_;focus (simp[go_sem,h2',f5];done)) | (refine PC.condF ?_ ?_;focus (simp[go_sem,h2',f5];done)) | (refine PC.exit ?_;first | (refine hK _ _ ?_;clear hK) | (clear hK;refine hK _ _ ?_;clear hK) | (clear hK;clear hK;refine hK _ _ ?_;clear hK)))
   refine PC.exit ?_
   refine⟨_,hms,seen.push b,r,rfl,hstep,by simp[go_sem,f2],b21',by simp[go_sem,f4],b22',by simp[go_sem,f5],by simp[go_sem,f10],b23',hoth'⟩
  ·have h2':¬(e.2.length:Int)<2:=by omega
   cases hr1:r.2
   ·rw[if_neg (by rw[hr1];simp;omega)] at hr2
    subst hr2
    have f5':F 5 = .u (.bool false):=by rw[f5,hr1]
    repeat (first | (refine PC.seq fun K hK=>?_) | (refine PC.block ?_) | (refine PC.region ?_) | (refine PL.k rfl fun KK hKK=>?_;simp (disch:=omega) [go_sem,jg,h2',f5',hr1];refine hKK _ ?_;clear hKK KK) | (refine PL.k rfl fun KK hKK=>?_;simp[go_sem,jg,h2',f5',hr1];refine hKK _ ?_;clear hKK KK) | (refine PL.g rfl rfl fun KK hKK=>?_;simp (disch:=omega) [go_sem,L.stepG,h2',f5',hr1];refine hKK _ ?_;clear hKK KK) | (refine PL.g rfl rfl fun KK hKK=>?_;simp[go_sem,L.stepG,h2',f5',hr1];refine hKK _ ?_;clear hKK KK) | (refine PL.done hK ?_;clear hK) | (refine PC.skip (hK _ _ ?_);clear hK) | (refine PC.condT ?_ ?_;focus (simp[go_sem,h2',f5',hr1];done)) | (refine PC.condF ?_ ?_;focus (simp[go_sem,h2',f5',hr1];done)) | (refine PC.exit ?_;first | (refine hK _ _ ?_;clear hK) | (clear hK;refine hK _ _ ?_;clear hK) | (clear hK;clear hK;refine hK _ _ ?_;clear hK)))
    repeat (first | (refine PC.seq fun K hK=>?_) | (refine PC.block ?_) | (refine PC.region ?_) | (refine PL.k rfl fun KK hKK=>?_;simp (disch:=omega) [go_sem,jg,b6];refine hKK _ ?_;clear hKK KK) | (refine PL.k rfl fun KK hKK=>?_;simp[go_sem,jg,b6];refine hKK _ ?_;clear hKK KK) | (refine PL.g rfl rfl fun KK hKK=>?_;simp (disch:=omega) [go_sem,L.stepG,b6];refine hKK _ ?_;clear hKK KK) | (refine PL.g rfl rfl fun KK hKK=>?_;simp[go_sem,L.stepG,b6];refine hKK _ ?_;clear hKK KK) | (refine PL.done hK ?_;clear hK) | (refine PC.skip (hK _ _ ?_);clear hK) | (refine PC.condT ?_ ?_;focus (simp[go_sem,b6];done)) | (refine PC.condF ?_ ?_;focus (simp[go_sem,b6];done)) | (refine PC.exit ?_;first | (refine hK _ _ ?_;clear hK) | (clear hK;refine hK _ _ ?_;clear hK) | (clear hK;clear hK;refine hK _ _ ?_;clear hK)))
    refine PL.storeA (id:=22) rfl rfl (by simp[jn]) (by simp[go_sem,f4];rfl) b22' Vo (v := .agg [I e.1.1,I e.1.2]) (ps:=[I e.1.1,I e.1.2]) (by simp[go_sem]) rfl rfl rfl (by simp) (cs':=[I e.1.1,I e.1.2]) rfl fun H8 b8 o8=>?_
    repeat (first | (refine PC.seq fun K hK=>?_) | (refine PC.block ?_) | (refine PC.region ?_) | (refine PL.k rfl fun KK hKK=>?_;simp (disch:=omega) [go_sem,jg];refine hKK _ ?_;clear hKK KK) | (refine PL.k rfl fun KK hKK=>?_;simp[go_sem,jg];refine hKK _ ?_;clear hKK KK) | (refine PL.g rfl rfl fun KK hKK=>?_;simp (disch:=omega) [go_sem,L.stepG];refine hKK _ ?_;clear hKK KK) | (refine PL.g rfl rfl fun KK hKK=>?_;simp[go_sem,L.stepG];refine hKK _ ?_;clear hKK KK) | (refine PL.done hK ?_;clear hK) | (refine PC.skip (hK _ _ ?_);clear hK) | (refine PC.condT ?_ ?_;focus (simp[go_sem];done)) | (refine PC.condF ?_ ?_;focus (simp[go_sem];done)) | (refine PC.exit ?_;first | (refine hK _ _ ?_;clear hK) | (clear hK;refine hK _ _ ?_;clear hK) | (clear hK;clear hK;refine hK _ _ ?_;clear hK)))
    refine PL.nil ?_
    refine⟨_,hms,seen.push b,(e.1,true),rfl,hstep,by simp[go_sem,f2],by rw[o8 21 (by decide)];exact b21',by simp[go_sem,f4],b8,by simp[go_sem],by simp[go_sem,f10],by rw[o8 23 (by decide)];exact b23',fun j hj=>by rw[o8 j (by omega)];exact hoth' j hj⟩
   ·have f5':F 5 = .u (.bool true):=by rw[f5,hr1]
    by_cases h3:r.1.1<e.1.1
    ·rw[if_pos (.inr ⟨hr1, .inl h3⟩)] at hr2
     subst hr2
     repeat (first | (refine PC.seq fun K hK=>?_) | (refine PC.block ?_) | (refine PC.region ?_) | (refine PL.k rfl fun KK hKK=>?_;simp (disch:=omega) [go_sem,jg,h2',f5',hr1,f4,b22',b6,h3];refine hKK _ ?_;clear hKK KK) | (refine PL.k rfl fun KK hKK=>?_;simp[go_sem,jg,h2',f5',hr1,f4,b22',b6,h3];refine hKK _ ?_;clear hKK KK) | (refine PL.g rfl rfl fun KK hKK=>?_;simp (disch:=omega) [go_sem,L.stepG,h2',f5',hr1,f4,b22',b6,h3];refine hKK _ ?_;clear hKK KK) | (refine PL.g rfl rfl fun KK hKK=>?_;simp[go_sem,L.stepG,h2',f5',hr1,f4,b22',b6,h3];refine hKK _ ?_;clear hKK KK) | (refine PL.done hK ?_;clear hK) | (refine PC.skip (hK _ _ ?_);clear hK) | (refine PC.condT ?_ ?_;focus (simp[go_sem,h2',f5',hr1,f4,b22',b6,h3];done)) | (refine PC.condF ?_ ?_;focus (simp[go_sem,h2',f5',hr1,f4,b22',b6,h3];done)) | (refine PC.exit ?_;first | (refine hK _ _ ?_;clear hK) | (clear hK;refine hK _ _ ?_;clear hK) | (clear hK;clear hK;refine hK _ _ ?_;clear hK)))
     refine PC.exit ?_
     refine⟨_,hms,seen.push b,r,rfl,hstep,by simp[go_sem,f2],b21',by simp[go_sem,f4],b22',by simp[go_sem,f5],by simp[go_sem,f10],b23',hoth'⟩
    ·by_cases h4:r.1.1=e.1.1
     ·by_cases h5:r.1.2<e.1.2
      ·rw[if_pos (.inr ⟨hr1, .inr ⟨h4,h5⟩⟩)] at hr2
       subst hr2
       repeat (first | (refine PC.seq fun K hK=>?_) | (refine PC.block ?_) | (refine PC.region ?_) | (refine PL.k rfl fun KK hKK=>?_;simp (disch:=omega) [go_sem,jg,h2',f5',hr1,f4,b22',b6,h3,h4,h5];refine hKK _ ?_;clear hKK KK) | (refine PL.k rfl fun KK hKK=>?_;simp[go_sem,jg,h2',f5',hr1,f4,b22',b6,h3,h4,h5];refine hKK _ ?_;clear hKK KK) | (refine PL.g rfl rfl fun KK hKK=>?_;simp (disch:=omega) [go_sem,L.stepG,h2',f5',hr1,f4,b22',b6,h3,h4,h5];refine hKK _ ?_;clear hKK KK) | (refine PL.g rfl rfl fun KK hKK=>?_;simp[go_sem,L.stepG,h2',f5',hr1,f4,b22',b6,h3,h4,h5];refine hKK _ ?_;clear hKK KK) | (refine PL.done hK ?_;clear hK) | (refine PC.skip (hK _ _ ?_);clear hK) | (refine PC.condT ?_ ?_;focus (simp[go_sem,h2',f5',hr1,f4,b22',b6,h3,h4,h5];done)) | (refine PC.condF ?_ ?_;focus (simp[go_sem,h2',f5',hr1,f4,b22',b6,h3,h4,h5];done)) | (refine PC.exit ?_;first | (refine hK _ _ ?_;clear hK) | (clear hK;refine hK _ _ ?_;clear hK) | (clear hK;clear hK;refine hK _ _ ?_;clear hK)))
       refine PC.exit ?_
       refine⟨_,hms,seen.push b,r,rfl,hstep,by simp[go_sem,f2],b21',by simp[go_sem,f4],b22',by simp[go_sem,f5],by simp[go_sem,f10],b23',hoth'⟩
      ·rw[if_neg (by rw[hr1];unfold ltP;omega)] at hr2
       subst hr2
       repeat (first | (refine PC.seq fun K hK=>?_) | (refine PC.block ?_) | (refine PC.region ?_) | (refine PL.k rfl fun KK hKK=>?_;simp (disch:=omega) [go_sem,jg,h2',f5',hr1,f4,b22',b6,h3,h4,h5];refine hKK _ ?_;clear hKK KK) | (refine PL.k rfl fun KK hKK=>?_;simp[go_sem,jg,h2',f5',hr1,f4,b22',b6,h3,h4,h5];refine hKK _ ?_;clear hKK KK) | (refine PL.g rfl rfl fun KK hKK=>?_;simp (disch:=omega) [go_sem,L.stepG,h2',f5',hr1,f4,b22',b6,h3,h4,h5];refine hKK _ ?_;clear hKK KK) | (refine PL.g rfl rfl fun KK hKK=>?_;simp[go_sem,L.stepG,h2',f5',hr1,f4,b22',b6,h3,h4,h5];refine hKK _ ?_;clear hKK KK) | (refine PL.done hK ?_;clear hK) | (refine PC.skip (hK _ _ ?_);clear hK) | (refine PC.condT ?_ ?_;focus (simp[go_sem,h2',f5',hr1,f4,b22',b6,h3,h4,h5];done)) | (refine PC.condF ?_ ?_;focus (simp[go_sem,h2',f5',hr1,f4,b22',b6,h3,h4,h5];done)) | (refine PC.exit ?_;first | (refine hK _ _ ?_;clear hK) | (clear hK;refine hK _ _ ?_;clear hK) | (clear hK;clear hK;refine hK _ _ ?_;clear hK)))
       repeat (first | (refine PC.seq fun K hK=>?_) | (refine PC.block ?_) | (refine PC.region ?_) | (refine PL.k rfl fun KK hKK=>?_;simp (disch:=omega) [go_sem,jg,b6];refine hKK _ ?_;clear hKK KK) | (refine PL.k rfl fun KK hKK=>?_;simp[go_sem,jg,b6];refine hKK _ ?_;clear hKK KK) | (refine PL.g rfl rfl fun KK hKK=>?_;simp (disch:=omega) [go_sem,L.stepG,b6];refine hKK _ ?_;clear hKK KK) | (refine PL.g rfl rfl fun KK hKK=>?_;simp[go_sem,L.stepG,b6];refine hKK _ ?_;clear hKK KK) | (refine PL.done hK ?_;clear hK) | (refine PC.skip (hK _ _ ?_);clear hK) | (refine PC.condT ?_ ?_;focus (simp[go_sem,b6];done)) | (refine PC.condF ?_ ?_;focus (simp[go_sem,b6];done)) | (refine PC.exit ?_;first | (refine hK _ _ ?_;clear hK) | (clear hK;refine hK _ _ ?_;clear hK) | (clear hK;clear hK;refine hK _ _ ?_;clear hK)))
       refine PL.storeA (id:=22) rfl rfl (by simp[jn]) (by simp[go_sem,f4];rfl) b22' Vo (v := .agg [I e.1.1,I e.1.2]) (ps:=[I e.1.1,I e.1.2]) (by simp[go_sem]) rfl rfl rfl (by simp) (cs':=[I e.1.1,I e.1.2]) rfl fun H8 b8 o8=>?_
       repeat (first | (refine PC.seq fun K hK=>?_) | (refine PC.block ?_) | (refine PC.region ?_) | (refine PL.k rfl fun KK hKK=>?_;simp (disch:=omega) [go_sem,jg];refine hKK _ ?_;clear hKK KK) | (refine PL.k rfl fun KK hKK=>?_;simp[go_sem,jg];refine hKK _ ?_;clear hKK KK) | (refine PL.g rfl rfl fun KK hKK=>?_;simp (disch:=omega) [go_sem,L.stepG];refine hKK _ ?_;clear hKK KK) | (refine PL.g rfl rfl fun KK hKK=>?_;simp[go_sem,L.stepG];refine hKK _ ?_;clear hKK KK) | (refine PL.done hK ?_;clear hK) | (refine PC.skip (hK _ _ ?_);clear hK) | (refine PC.condT ?_ ?_;focus (simp[go_sem];done)) | (refine PC.condF ?_ ?_;focus (simp[go_sem];done)) | (refine PC.exit ?_;first | (refine hK _ _ ?_;clear hK) | (clear hK;refine hK _ _ ?_;clear hK) | (clear hK;clear hK;refine hK _ _ ?_;clear hK)))
       refine PL.nil ?_
       refine⟨_,hms,seen.push b,(e.1,true),rfl,hstep,by simp[go_sem,f2],by rw[o8 21 (by decide)];exact b21',by simp[go_sem,f4],b8,by simp[go_sem],by simp[go_sem,f10],by rw[o8 23 (by decide)];exact b23',fun j hj=>by rw[o8 j (by omega)];exact hoth' j hj⟩
     ·rw[if_neg (by rw[hr1];unfold ltP;omega)] at hr2
      subst hr2
      repeat (first | (refine PC.seq fun K hK=>?_) | (refine PC.block ?_) | (refine PC.region ?_) | (refine PL.k rfl fun KK hKK=>?_;simp (disch:=omega) [go_sem,jg,h2',f5',hr1,f4,b22',b6,h3,h4];refine hKK _ ?_;clear hKK KK) | (refine PL.k rfl fun KK hKK=>?_;simp[go_sem,jg,h2',f5',hr1,f4,b22',b6,h3,h4];refine hKK _ ?_;clear hKK KK) | (refine PL.g rfl rfl fun KK hKK=>?_;simp (disch:=omega) [go_sem,L.stepG,h2',f5',hr1,f4,b22',b6,h3,h4];refine hKK _ ?_;clear hKK KK) | (refine PL.g rfl rfl fun KK hKK=>?_;simp[go_sem,L.stepG,h2',f5',hr1,f4,b22',b6,h3,h4];refine hKK _ ?_;clear hKK KK) | (refine PL.done hK ?_;clear hK) | (refine PC.skip (hK _ _ ?_);clear hK) | (refine PC.condT ?_ ?_;focus (simp[go_sem,h2',f5',hr1,f4,b22',b6,h3,h4];done)) | (refine PC.condF ?_ ?_;focus (simp[go_sem,h2',f5',hr1,f4,b22',b6,h3,h4];done)) | (refine PC.exit ?_;first | (refine hK _ _ ?_;clear hK) | (clear hK;refine hK _ _ ?_;clear hK) | (clear hK;clear hK;refine hK _ _ ?_;clear hK)))
      repeat (first | (refine PC.seq fun K hK=>?_) | (refine PC.block ?_) | (refine PC.region ?_) | (refine PL.k rfl fun KK hKK=>?_;simp (disch:=omega) [go_sem,jg,b6];refine hKK _ ?_;clear hKK KK) | (refine PL.k rfl fun KK hKK=>?_;simp[go_sem,jg,b6];refine hKK _ ?_;clear hKK KK) | (refine PL.g rfl rfl fun KK hKK=>?_;simp (disch:=omega) [go_sem,L.stepG,b6];refine hKK _ ?_;clear hKK KK) | (refine PL.g rfl rfl fun KK hKK=>?_;simp[go_sem,L.stepG,b6];refine hKK _ ?_;clear hKK KK) | (refine PL.done hK ?_;clear hK) | (refine PC.skip (hK _ _ ?_);clear hK) | (refine PC.condT ?_ ?_;focus (simp[go_sem,b6];done)) | (refine PC.condF ?_ ?_;focus (simp[go_sem,b6];done)) | (refine PC.exit ?_;first | (refine hK _ _ ?_;clear hK) | (clear hK;refine hK _ _ ?_;clear hK) | (clear hK;clear hK;refine hK _ _ ?_;clear hK)))
      refine PL.storeA (id:=22) rfl rfl (by simp[jn]) (by simp[go_sem,f4];rfl) b22' Vo (v := .agg [I e.1.1,I e.1.2]) (ps:=[I e.1.1,I e.1.2]) (by simp[go_sem]) rfl rfl rfl (by simp) (cs':=[I e.1.1,I e.1.2]) rfl fun H8 b8 o8=>?_
      repeat (first | (refine PC.seq fun K hK=>?_) | (refine PC.block ?_) | (refine PC.region ?_) | (refine PL.k rfl fun KK hKK=>?_;simp (disch:=omega) [go_sem,jg];refine hKK _ ?_;clear hKK KK) | (refine PL.k rfl fun KK hKK=>?_;simp[go_sem,jg];refine hKK _ ?_;clear hKK KK) | (refine PL.g rfl rfl fun KK hKK=>?_;simp (disch:=omega) [go_sem,L.stepG];refine hKK _ ?_;clear hKK KK) | (refine PL.g rfl rfl fun KK hKK=>?_;simp[go_sem,L.stepG];refine hKK _ ?_;clear hKK KK) | (refine PL.done hK ?_;clear hK) | (refine PC.skip (hK _ _ ?_);clear hK) | (refine PC.condT ?_ ?_;focus (simp[go_sem];done)) | (refine PC.condF ?_ ?_;focus (simp[go_sem];done)) | (refine PC.exit ?_;first | (refine hK _ _ ?_;clear hK) | (clear hK;refine hK _ _ ?_;clear hK) | (clear hK;clear hK;refine hK _ _ ?_;clear hK)))
      refine PL.nil ?_
      refine⟨_,hms,seen.push b,(e.1,true),rfl,hstep,by simp[go_sem,f2],by rw[o8 21 (by decide)];exact b21',by simp[go_sem,f4],b8,by simp[go_sem],by simp[go_sem,f10],by rw[o8 23 (by decide)];exact b23',fun j hj=>by rw[o8 j (by omega)];exact hoth' j hj⟩
end Go.Proofs.YtdllbdlnmjngcaaGreat

namespace Go.Proofs.YtdllbdlnmjngcaaGreat.T
open Go Go.RowKit L
set_option linter.unusedVariables false
set_option linter.unusedSimpArgs false
section
variable {P : Program} {W : Env} {n : Nat}
inductive PSteps (P:Program) (W:Env) (n:Nat) (ops:Array Oper):List Oper→PFrame→PHeap→List OC→List RT→PFrame→PHeap→Prop
 | nil {F:PFrame} {H:PHeap}:PSteps P W n ops [] F H [] [] F H
 | cons {o:Oper} {l:List Oper} {F F2:PFrame} {H H2:PHeap} {c:OC} {rt:RT} {cs:List OC} {rts:List RT}
   (h:∀ F' H',(∀ t∈o.looksAt ops,F' t=F t)→(∀ k,(k∈rt.rd∨ids c.ws k=true)→H' k=H k)→zjm P W n ops o F' H' c) (ht:∀ k,ids c.ws k=true→k∈rt.tc)
   (hs:PSteps P W n ops l (F.put o.dst c.p) (yr H c.ws) cs rts F2 H2):PSteps P W n ops (o :: l) F H (c :: cs) (rt :: rts) F2 H2
theorem PSteps.len {ops:Array Oper}:∀ {l:List Oper} {F F2:PFrame} {H H2:PHeap} {cs:List OC} {rts:List RT},PSteps P W n ops l F H cs rts F2 H2→cs.length=l.length∧rts.length=l.length
 | [],_,_,_,_,_,_, .nil=>⟨rfl,rfl⟩
 | _ :: _,_,_,_,_,_,_, .cons h ht hs=>by simp[(PSteps.len hs).1,(PSteps.len hs).2]
theorem PSteps.at {ops:Array Oper} {F0:PFrame} {H0:PHeap} {oc:Nat→OC} {rtf:Nat→RT}:∀ {l:List Oper} {F F2:PFrame} {H H2:PHeap} {cs:List OC} {rts:List RT} (i:Nat),PSteps P W n ops l F H cs rts F2 H2→(∀ m o,l[m]? = some o→ops[i+m]? = some o)→(∀ m c,cs[m]? = some c→oc (i+m)=c)→(∀ m rt,rts[m]? = some rt→rtf (i+m)=rt) →
  F=fAt ops oc F0 (fun _=>true) i→H=hAt oc H0 (fun _=>true) i →
  (∀ m o,l[m]? = some o→∀ F H,(∀ t∈o.looksAt ops,F t=fAt ops oc F0 (fun _=>true) (i+m) t)→(∀ k,(k∈(rtf (i+m)).rd∨ids (oc (i+m)).ws k=true)→H k=hAt oc H0 (fun _=>true) (i+m) k)→zjm P W n ops o F H (oc (i+m))) ∧
  (∀ m o,l[m]? = some o→∀ k,ids (oc (i+m)).ws k=true→k∈(rtf (i+m)).tc) ∧
  F2=fAt ops oc F0 (fun _=>true) (i+l.length)∧H2=hAt oc H0 (fun _=>true) (i+l.length)
 | [],_,_,_,_,_,_,i, .nil,_,_,_,hF,hH=>⟨fun m o h=>by simp at h,fun m o h=>by simp at h,hF,hH⟩
 | o :: l,F,F2,H,H2,_,_,i, .cons (c:=c) (rt:=rt) h ht hs,hl,hc,hr,hF,hH=>by
  have hoc:oc i=c:=hc 0 c rfl
  have hrt:rtf i=rt:=hr 0 rt rfl
  have ho:ops[i]? = some o:=hl 0 o rfl
  have e:∀ m,i+(m+1)=i+1+m:=fun m=>by omega
  obtain⟨k1,k2,k3,k4⟩:=PSteps.at (i+1) hs (fun m o' hm=>by rw[← e];exact hl (m+1) o' (by simpa using hm)) (fun m c' hm=>by rw[← e];exact hc (m+1) c' (by simpa using hm)) (fun m r' hm=>by rw[← e];exact hr (m+1) r' (by simpa using hm))
   (by rw[zwi ho,← hF,hoc]) (by rw[zzd,← hH,hoc])
  refine⟨fun m o' hm=>?_,fun m o' hm=>?_,by rw[List.length_cons,e];exact k3,by rw[List.length_cons,e];exact k4⟩
  ·cases m with
   | zero=>
    simp only[List.getElem?_cons_zero,Option.some.injEq] at hm
    subst hm
    intro F' H' h1 h2
    simp only[Nat.add_zero] at h1 h2 ⊢
    rw[hoc] at h2 ⊢
    rw[hrt] at h2
    exact h F' H' (fun t ht=>by rw[h1 t ht,hF]) fun k hk=>by rw[h2 k hk,hH]
   | succ m=>rw[e];exact k1 m o' (by simpa using hm)
  ·cases m with
   | zero=>
    simp only[Nat.add_zero]
    rw[hoc,hrt]
    exact ht
   | succ m=>rw[e];exact k2 m o' (by simpa using hm)
theorem PSteps.drawn (hm:P.follows .mixedOrders=true) {ops:Array Oper} {id:Nat} {F F2:PFrame} {H H2:PHeap} {cs:List OC} {rts:List RT} (hs:PSteps P W n ops ops.toList F H cs rts F2 H2) (hdo:zng ops rts=true):PC P W n (.region id ops true) F H fun e F' H'=>e = .normal∧F'=F2∧H'=H2:=by
 unfold zng at hdo
 simp only[Bool.and_eq_true] at hdo
 obtain⟨hfw,hdr⟩:=hdo
 obtain⟨l1,l2⟩:=hs.len
 have hget:∀(m:Nat) o,ops.toList[m]? = some o→ops[0+m]? = some o:=fun m o h=>by rw[Nat.zero_add];simpa using h
 obtain⟨k1,k2,k3,k4⟩:=PSteps.at (F0:=F) (H0:=H) (oc:=ocF cs) (rtf:=rtF rts) 0 hs hget (fun m c hc=>by unfold ocF;rw[Nat.zero_add,List.getD_eq_getElem?_getD,hc];rfl) (fun m rt hc=>by unfold rtF;rw[Nat.zero_add,List.getD_eq_getElem?_getD,hc];rfl) rfl rfl
 simp only[Nat.zero_add] at k1 k2 k3 k4
 have hanc:=zu7 (ops:=ops) ops.toList [] (fun k o hk=>by simpa using hk) (fun k i hk=>by simp at hk)
 refine PC.regionD (oc:=ocF cs) (rt:=fun m k=>(rtF rts m).rd.any fun id=>Nat.beq id k) (Inv:=fun _ _=>True) (fun S=>trivial) hm (fun i o ho F' H' _ h1 h2=>k1 i o (by simpa using ho) F' H' h1 fun k hk=>h2 k ?_) (fun i j hij hj hmt=>?_) (fun j o ho e he hb=>?_) ⟨rfl,?_,?_⟩
 ·rcases hk with hk | hk
  ·exact .inl (List.any_eq_true.2 ⟨k,hk,by simp⟩)
  ·exact .inr hk
 ·obtain⟨oj,hoj⟩:∃ o,ops[j]? = some o:=⟨_,Array.getElem?_eq_getElem hj⟩
  obtain⟨oi,hoi⟩:∃ o,ops[i]? = some o:=⟨_,Array.getElem?_eq_getElem (show i<ops.size by omega)⟩
  have hlen:ops.toList.length=ops.size:=by simp
  have hrj:rts[j]? = some (rtF rts j):=by unfold rtF;rw[List.getD_eq_getElem?_getD,List.getElem?_eq_getElem (by omega)];rfl
  have hri:rts[i]? = some (rtF rts i):=by unfold rtF;rw[List.getD_eq_getElem?_getD,List.getElem?_eq_getElem (by omega)];rfl
  refine hanc j i ?_
  have key:=zd2 (pre:=[]) (prt:=[]) rfl hdr j _ _ (by simpa using hoj) hrj i _ _ (by simpa using hij) (by simpa using hoi) (by simpa using hri)
  simp only[List.length_nil,Nat.zero_add] at key
  refine key ?_
  have rdm:∀ m k,((rtF rts m).rd.any fun id=>Nat.beq id k)=true→k∈(rtF rts m).rd:=fun m k h=>by
   obtain⟨id,h1,h2⟩:=List.any_eq_true.1 h
   exact(Nat.eq_of_beq_eq_true h2)▸h1
  unfold zx7
  simp only[Bool.or_eq_true]
  rcases hmt with ⟨t,h1,h2⟩ | ⟨t,h1,o,h2,h3⟩ | ⟨k,h1,h2⟩ | ⟨k,h1,h2⟩
  ·have m1:=zby hoi h1
   rcases h2 with h2 | ⟨o,h2,h3⟩
   ·exact .inl (.inl (.inl (.inl (.inl (yy m1 (zby hoj h2))))))
   ·rw[hoj] at h2;cases h2
    exact .inl (.inl (.inl (.inl (.inr (yy m1 h3)))))
  ·rw[hoi] at h2;cases h2
   exact .inl (.inl (.inl (.inr (yy (zby hoj h1) h3))))
  ·have a1:=k2 i _ (by simpa using hoi) k h1
   rcases h2 with h2 | h2
   ·exact .inl (.inl (.inr (yy a1 (k2 j _ (by simpa using hoj) k h2))))
   ·exact .inl (.inr (yy a1 (rdm j k h2)))
  ·exact .inr (yy (k2 j _ (by simpa using hoj) k h1) (rdm i k h2))
 ·have:=zjx hfw j o (by simpa using ho) e he hb
  omega
 ·rw[k3];simp
 ·rw[k4];simp
theorem PSteps.q {ops:Array Oper} {o:Oper} {l:List Oper} {F F2:PFrame} {H H2:PHeap} {cs:List OC} {rts:List RT} (p:PV) (rd:List Nat) (hg:o.guard=none) (hd:jn n o)
  (h:∀ F' H',(∀ t∈o.looksAt ops,F' t=F t)→(∀ k∈rd,H' k=H k)→PQ P W o F' H' p) (hs:PSteps P W n ops l (F.put o.dst p) H cs rts F2 H2):PSteps P W n ops (o :: l) F H (⟨p,[]⟩ :: cs) (⟨rd,[]⟩ :: rts) F2 H2:=
 .cons (fun F' H' hF hH => .inl ⟨by unfold qb;rw[hg],PE.quiet hd (h F' H' hF fun k hk=>hH k (.inl hk)) ⟨rfl,rfl⟩⟩) (fun k hk=>by simp[ids] at hk) hs
theorem PSteps.w {ops:Array Oper} {o:Oper} {l:List Oper} {F F2:PFrame} {H H2:PHeap} {cs:List OC} {rts:List RT} (p:PV) (rd:List Nat) (id:Nat) (b:Qc) (hg:o.guard=none)
  (h:∀ F' H',(∀ t∈o.looksAt ops,F' t=F t)→(∀ k,(k∈rd∨k=id)→H' k=H k)→PE P W n o F' H' (fun q H2=>q=p∧H2=H'.set id b)) (hs:PSteps P W n ops l (F.put o.dst p) (H.set id b) cs rts F2 H2):PSteps P W n ops (o :: l) F H (⟨p,[(id,b)]⟩ :: cs) (⟨rd,[id]⟩ :: rts) F2 H2:=
 .cons (fun F' H' hF hH => .inl ⟨by unfold qb;rw[hg],h F' H' hF fun k hk=>hH k (hk.imp (fun h=>h) fun h=>by subst h;simp[ids])⟩) (fun k hk=>by simp[ids] at hk;simp[hk]) hs
end
end Go.Proofs.YtdllbdlnmjngcaaGreat.T

namespace Go.Proofs.YtdllbdlnmjngcaaGreat
open Go Go.RowKit L
set_option linter.unusedVariables false
set_option linter.unusedSimpArgs false
structure GrV (gV:PV) (ps:List PrP):Prop where
 shape:∃ ts bs rest wa,gV = .agg (.sl wa ts :: .sl 1 bs :: .sl 2 (ps.map prV) :: rest)
 len:∃ k,asz Tryz.prog 26=some (true,k)∧gV.cells.length=k
 ok:∀ H,okC H gV=true
 np:NoP gV
 pn:∀ p∈ps,NoP p.2∧(∀ H,qc H p.2=true)∧p.2.cells=[p.2]
 pl:ps.length≤1000000
def zou (gV:PV) (mf:PM):Prop:=∀ H,PIn Tryz.prog 73 [gV] H (fun q H'=>ownMR plv 3 1000 H' 10 q mf∧∀ j,j<10→H' j=H j)
theorem GrV.fill {gV:PV} {ps:List PrP} (h:GrV gV ps) {pr:Nat→List Int} {beh:PV} {mf:PM} (hall:PCall Tryz.prog 109 [gV] (· = beh)) (hbn:NoP beh)
  (hpr:∀(i:Nat) (p:PrP),ps[i]? = some p→PCall Tryz.prog 110 [gV,beh,prV p] (· = slI (pr i))∧(pr i).length≤1000000) (hm:zcy pr 0 (ps.map (·.1)) []=some mf):zou gV mf:=fun H=>by
 obtain⟨ts,bs,rest,wa,e⟩:=h.shape
 exact jaa H ts bs rest wa ps pr beh gV mf e h.len h.ok h.np hall hbn h.pn hpr h.pl hm
set_option maxRecDepth 20000 in
set_option maxHeartbeats 4000000 in
theorem z0s {gV:PV} {ps:List PrP} (h:GrV gV ps) (hr:PCall Tryz.prog 72 [gV] (· = B false)):PCall Tryz.prog 69 [gV] (· = .tup [.agg [I 0,I 0,I 0],I (-1)]):=by
 obtain⟨kg,hkg,hlen⟩:=h.len
 obtain⟨ts,bs,rest,wa,hgV⟩:=h.shape
 have hgc:PV.agg gV.cells=gV:=by rw[hgV];rfl
 refine PCall.intro' Tryz.func69 rfl Tryz.ntmps69 (by simp) fun W=>?_
 refine PC.seq fun K hK=>?_
 refine PC.region ?_
 refine PL.boxA 1 (d:=1) rfl rfl rfl (by simp) (v:=gV) (by simp[go_sem]) (h.ok _) rfl fun v1 H1 b1 o1=>?_
 refine PL.allocA 2 (d:=2) rfl rfl rfl (by simp) zv9 rfl rfl fun v2 H2 b2 o2=>?_
 repeat (first | (refine PC.seq fun K hK=>?_) | (refine PC.block ?_) | (refine PC.region ?_) | (refine PL.k rfl fun KK hKK=>?_;simp (disch:=omega) [go_sem,jg];refine hKK _ ?_;clear hKK KK) | (refine PL.k rfl fun KK hKK=>?_;simp[go_sem,jg];refine hKK _ ?_;clear hKK KK) | (refine PL.g rfl rfl fun KK hKK=>?_;simp (disch:=omega) [go_sem,L.stepG];refine hKK _ ?_;clear hKK KK) | (refine PL.g rfl rfl fun KK hKK=>?_;simp[go_sem,L.stepG];refine hKK _ ?_;clear hKK KK) | (refine PL.done hK ?_;clear hK) | (refine PC.skip (hK _ _ ?_);clear hK) | (refine PC.condT ?_ ?_;focus (simp[go_sem];done)) | (refine PC.condF ?_ ?_;focus (simp[go_sem];done)) | (refine PC.exit ?_;first | (refine hK _ _ ?_;clear hK) | (clear hK;refine hK _ _ ?_;clear hK) | (clear hK;clear hK;refine hK _ _ ?_;clear hK)))
 refine PL.ldBox (id:=1) (off:=0) (ver:=v1) (p:=gV) rfl rfl rfl (by simp) (by simp[go_sem]) (by rw[o2 1 (by decide)];exact b1) hkg (by rw[List.drop_zero,Jc hlen,hgc]) ?_
 refine PL.callB rfl rfl (by kernel_rfl) hr (by simp[go_sem]) (by simp[go_sem,h.np]) (by simp[go_sem,View.noP h.np]) ?_
 repeat (first | (refine PC.seq fun K hK=>?_) | (refine PC.block ?_) | (refine PC.region ?_) | (refine PL.k rfl fun KK hKK=>?_;simp (disch:=omega) [go_sem,jg];refine hKK _ ?_;clear hKK KK) | (refine PL.k rfl fun KK hKK=>?_;simp[go_sem,jg];refine hKK _ ?_;clear hKK KK) | (refine PL.g rfl rfl fun KK hKK=>?_;simp (disch:=omega) [go_sem,L.stepG];refine hKK _ ?_;clear hKK KK) | (refine PL.g rfl rfl fun KK hKK=>?_;simp[go_sem,L.stepG];refine hKK _ ?_;clear hKK KK) | (refine PL.done hK ?_;clear hK) | (refine PC.skip (hK _ _ ?_);clear hK) | (refine PC.condT ?_ ?_;focus (simp[go_sem];done)) | (refine PC.condF ?_ ?_;focus (simp[go_sem];done)) | (refine PC.exit ?_;first | (refine hK _ _ ?_;clear hK) | (clear hK;refine hK _ _ ?_;clear hK) | (clear hK;clear hK;refine hK _ _ ?_;clear hK)))
 refine PL.storeA (id:=2) rfl rfl (by simp[jn]) (by simp[go_sem];rfl) b2 zzz (v := .agg [I 0,I 0,I 0]) (ps:=[I 0,I 0,I 0]) (by simp[go_sem,I]) rfl rfl rfl (by simp) (cs':=[I 0,I 0,I 0]) rfl fun H3 b3 o3=>?_
 repeat (first | (refine PC.seq fun K hK=>?_) | (refine PC.block ?_) | (refine PC.region ?_) | (refine PL.k rfl fun KK hKK=>?_;simp (disch:=omega) [go_sem,jg];refine hKK _ ?_;clear hKK KK) | (refine PL.k rfl fun KK hKK=>?_;simp[go_sem,jg];refine hKK _ ?_;clear hKK KK) | (refine PL.g rfl rfl fun KK hKK=>?_;simp (disch:=omega) [go_sem,L.stepG];refine hKK _ ?_;clear hKK KK) | (refine PL.g rfl rfl fun KK hKK=>?_;simp[go_sem,L.stepG];refine hKK _ ?_;clear hKK KK) | (refine PL.done hK ?_;clear hK) | (refine PC.skip (hK _ _ ?_);clear hK) | (refine PC.condT ?_ ?_;focus (simp[go_sem];done)) | (refine PC.condF ?_ ?_;focus (simp[go_sem];done)) | (refine PC.exit ?_;first | (refine hK _ _ ?_;clear hK) | (clear hK;refine hK _ _ ?_;clear hK) | (clear hK;clear hK;refine hK _ _ ?_;clear hK)))
 exact PC.ret (fin (.inr rfl) (p0 := .tup [.agg [I 0,I 0,I 0],I (-1)]) (by simp[Y8,Qh,Tryz.results69,go_sem,q6,ji,b3,qk]) (.tup _ fun c hc=>by simp at hc;rcases hc with rfl | rfl;exact .agg _ (fun c hc=>by simp at hc;subst hc;exact .u _);exact .u _))
def zgt (mf:PM) (a:Int×Int):Option Int:=(kIx plq a (mf.map (·.1))).bind fun j=>(mf[j]?).bind fun e=>e.2[1]?
def zi6 (mf:PM):Option ((Int×Int×Int)×Int):=match (jw mf).2 with
 | false=>some ((0,0,0), -1)
 | true=>(zgt mf (jw mf).1).map fun z=>((15,(jw mf).1.1,(jw mf).1.2),z)
theorem zes {P:Program} {H:PHeap} {F:PFrame} {o:Oper} {t e id m i ver:Nat} {x y:Operand} {cs:List PV} (ho:o.op = .indexAddr t x y) (he:esz P t=some 1) (hx:evP F x = .ps id ver) (hy:evP F y = .u (.int .i64 (i:Nat))) (hH:H id = ⟨ver,some (.row e 1 m cs)⟩) (hlt:i<m):jp P H F o=some (.pp id i ver):=by
 unfold jp
 rw[ho]
 simp only[hx,hy]
 unfold indexAddrP
 simp[qj,hH,he,hlt]
set_option maxRecDepth 20000 in
set_option maxHeartbeats 4000000 in
theorem z59 {gV:PV} {ps:List PrP} {mf:PM} {r:(Int×Int×Int)×Int} (h:GrV gV ps) (hr:PCall Tryz.prog 72 [gV] (· = B true)) (hf:zou gV mf) (hcl:zi6 mf=some r):PCall Tryz.prog 69 [gV] (· = .tup [.agg [I r.1.1,I r.1.2.1,I r.1.2.2],I r.2]):=by
 obtain⟨kg,hkg,hlen⟩:=h.len
 obtain⟨ts,bs,rest,wa,hgV⟩:=h.shape
 have hgc:PV.agg gV.cells=gV:=by rw[hgV];rfl
 have hnp:NoP (.tup [.agg [I r.1.1,I r.1.2.1,I r.1.2.2],I r.2]) := .tup _ fun c hc=>by
  simp at hc
  rcases hc with rfl | rfl
  ·exact .agg _ fun c hc=>by simp at hc;rcases hc with rfl | rfl | rfl<;>exact .u _
  ·exact .u _
 refine PCall.intro' Tryz.func69 rfl Tryz.ntmps69 (by simp) fun W=>?_
 refine PC.seq fun K hK=>?_
 refine PC.region ?_
 refine PL.boxA 1 (d:=1) rfl rfl rfl (by simp) (v:=gV) (by simp[go_sem]) (h.ok _) rfl fun v1 H1 b1 o1=>?_
 refine PL.allocA 2 (d:=2) rfl rfl rfl (by simp) zv9 rfl rfl fun v2 H2 b2 o2=>?_
 repeat (first | (refine PC.seq fun K hK=>?_) | (refine PC.block ?_) | (refine PC.region ?_) | (refine PL.k rfl fun KK hKK=>?_;simp (disch:=omega) [go_sem,jg];refine hKK _ ?_;clear hKK KK) | (refine PL.k rfl fun KK hKK=>?_;simp[go_sem,jg];refine hKK _ ?_;clear hKK KK) | (refine PL.g rfl rfl fun KK hKK=>?_;simp (disch:=omega) [go_sem,L.stepG];refine hKK _ ?_;clear hKK KK) | (refine PL.g rfl rfl fun KK hKK=>?_;simp[go_sem,L.stepG];refine hKK _ ?_;clear hKK KK) | (refine PL.done hK ?_;clear hK) | (refine PC.skip (hK _ _ ?_);clear hK) | (refine PC.condT ?_ ?_;focus (simp[go_sem];done)) | (refine PC.condF ?_ ?_;focus (simp[go_sem];done)) | (refine PC.exit ?_;first | (refine hK _ _ ?_;clear hK) | (clear hK;refine hK _ _ ?_;clear hK) | (clear hK;clear hK;refine hK _ _ ?_;clear hK)))
 have b1:H2 1 = ⟨v1,some (.box 26 gV.cells)⟩:=by rw[o2 1 (by decide)];exact b1
 refine PL.ldBox (id:=1) (off:=0) (ver:=v1) (p:=gV) rfl rfl rfl (by simp) (by simp[go_sem]) b1 hkg (by rw[List.drop_zero,Jc hlen,hgc]) ?_
 refine PL.callB rfl rfl (by kernel_rfl) hr (by simp[go_sem]) (by simp[go_sem,h.np]) (by simp[go_sem,View.noP h.np]) ?_
 repeat (first | (refine PC.seq fun K hK=>?_) | (refine PC.block ?_) | (refine PC.region ?_) | (refine PL.k rfl fun KK hKK=>?_;simp (disch:=omega) [go_sem,jg];refine hKK _ ?_;clear hKK KK) | (refine PL.k rfl fun KK hKK=>?_;simp[go_sem,jg];refine hKK _ ?_;clear hKK KK) | (refine PL.g rfl rfl fun KK hKK=>?_;simp (disch:=omega) [go_sem,L.stepG];refine hKK _ ?_;clear hKK KK) | (refine PL.g rfl rfl fun KK hKK=>?_;simp[go_sem,L.stepG];refine hKK _ ?_;clear hKK KK) | (refine PL.done hK ?_;clear hK) | (refine PC.skip (hK _ _ ?_);clear hK) | (refine PC.condT ?_ ?_;focus (simp[go_sem];done)) | (refine PC.condF ?_ ?_;focus (simp[go_sem];done)) | (refine PC.exit ?_;first | (refine hK _ _ ?_;clear hK) | (clear hK;refine hK _ _ ?_;clear hK) | (clear hK;clear hK;refine hK _ _ ?_;clear hK)))
 refine PL.ldBox (id:=1) (off:=0) (ver:=v1) (p:=gV) rfl rfl rfl (by simp) (by simp[go_sem]) b1 hkg (by rw[List.drop_zero,Jc hlen,hgc]) ?_
 refine PL.inl rfl rfl (hf H2) (by simp[jn]) (by simp[yk,go_sem]) fun q H3 ⟨hq,o3⟩=>?_
 repeat (first | (refine PC.seq fun K hK=>?_) | (refine PC.block ?_) | (refine PC.region ?_) | (refine PL.k rfl fun KK hKK=>?_;simp (disch:=omega) [go_sem,jg];refine hKK _ ?_;clear hKK KK) | (refine PL.k rfl fun KK hKK=>?_;simp[go_sem,jg];refine hKK _ ?_;clear hKK KK) | (refine PL.g rfl rfl fun KK hKK=>?_;simp (disch:=omega) [go_sem,L.stepG];refine hKK _ ?_;clear hKK KK) | (refine PL.g rfl rfl fun KK hKK=>?_;simp[go_sem,L.stepG];refine hKK _ ?_;clear hKK KK) | (refine PL.done hK ?_;clear hK) | (refine PC.skip (hK _ _ ?_);clear hK) | (refine PC.condT ?_ ?_;focus (simp[go_sem];done)) | (refine PC.condF ?_ ?_;focus (simp[go_sem];done)) | (refine PC.exit ?_;first | (refine hK _ _ ?_;clear hK) | (clear hK;refine hK _ _ ?_;clear hK) | (clear hK;clear hK;refine hK _ _ ?_;clear hK)))
 refine PL.inl rfl rfl (zo8 H3 q mf hq) (by simp[jn]) (by simp[yk,go_sem]) fun c H4 ⟨hc,o4⟩=>?_
 subst hc
 have b2:H4 2 = ⟨v2,some (.box 36 [I 0,I 0,I 0])⟩:=by rw[o4 2 (.inl (by decide)),o3 2 (by decide)];exact b2
 have hq4:ownMR plv 3 1000 H4 10 q mf:=hq.mono (o4 10 (.inl (by decide))) fun j hj=>o4 j (.inr hj)
 clear hq b1
 repeat (first | (refine PC.seq fun K hK=>?_) | (refine PC.block ?_) | (refine PC.region ?_) | (refine PL.k rfl fun KK hKK=>?_;simp (disch:=omega) [go_sem,jg];refine hKK _ ?_;clear hKK KK) | (refine PL.k rfl fun KK hKK=>?_;simp[go_sem,jg];refine hKK _ ?_;clear hKK KK) | (refine PL.g rfl rfl fun KK hKK=>?_;simp (disch:=omega) [go_sem,L.stepG];refine hKK _ ?_;clear hKK KK) | (refine PL.g rfl rfl fun KK hKK=>?_;simp[go_sem,L.stepG];refine hKK _ ?_;clear hKK KK) | (refine PL.done hK ?_;clear hK) | (refine PC.skip (hK _ _ ?_);clear hK) | (refine PC.condT ?_ ?_;focus (simp[go_sem];done)) | (refine PC.condF ?_ ?_;focus (simp[go_sem];done)) | (refine PC.exit ?_;first | (refine hK _ _ ?_;clear hK) | (clear hK;refine hK _ _ ?_;clear hK) | (clear hK;clear hK;refine hK _ _ ?_;clear hK)))
 refine PL.allocA 5 (d:=5) rfl rfl rfl (by simp) Qy rfl rfl fun v5 H5 b5 o5=>?_
 refine PL.storeA (id:=5) rfl rfl (by simp[jn]) (by simp[go_sem];rfl) b5 Vo (v := .agg [I (jw mf).1.1,I (jw mf).1.2]) (ps:=[I (jw mf).1.1,I (jw mf).1.2]) (by simp[go_sem]) rfl rfl rfl (by simp) (cs':=[I (jw mf).1.1,I (jw mf).1.2]) rfl fun H6 b5 o6=>?_
 have b2:H6 2 = ⟨v2,some (.box 36 [I 0,I 0,I 0])⟩:=by rw[o6 2 (by decide),o5 2 (by decide)];exact b2
 have hq6:ownMR plv 3 1000 H6 10 q mf:=hq4.mono (by rw[o6 10 (by decide),o5 10 (by decide)]) fun j hj=>by rw[o6 j (by omega),o5 j (by omega)]
 clear hq4
 unfold zi6 at hcl
 cases hc2:(jw mf).2 with
 | false=>
  rw[hc2] at hcl
  cases hcl
  repeat (first | (refine PC.seq fun K hK=>?_) | (refine PC.block ?_) | (refine PC.region ?_) | (refine PL.k rfl fun KK hKK=>?_;simp (disch:=omega) [go_sem,jg,hc2];refine hKK _ ?_;clear hKK KK) | (refine PL.k rfl fun KK hKK=>?_;simp[go_sem,jg,hc2];refine hKK _ ?_;clear hKK KK) | (refine PL.g rfl rfl fun KK hKK=>?_;simp (disch:=omega) [go_sem,L.stepG,hc2];refine hKK _ ?_;clear hKK KK) | (refine PL.g rfl rfl fun KK hKK=>?_;simp[go_sem,L.stepG,hc2];refine hKK _ ?_;clear hKK KK) | (refine PL.done hK ?_;clear hK) | (refine PC.skip (hK _ _ ?_);clear hK) | (refine PC.condT ?_ ?_;focus (simp[go_sem,hc2];done)) | (refine PC.condF ?_ ?_;focus (simp[go_sem,hc2];done)) | (refine PC.exit ?_;first | (refine hK _ _ ?_;clear hK) | (clear hK;refine hK _ _ ?_;clear hK) | (clear hK;clear hK;refine hK _ _ ?_;clear hK)))
  refine PL.storeA (id:=2) rfl rfl (by simp[jn]) (by simp[go_sem];rfl) b2 zzz (v := .agg [I 0,I 0,I 0]) (ps:=[I 0,I 0,I 0]) (by simp[go_sem,I]) rfl rfl rfl (by simp) (cs':=[I 0,I 0,I 0]) rfl fun H7 b7 o7=>?_
  repeat (first | (refine PC.seq fun K hK=>?_) | (refine PC.block ?_) | (refine PC.region ?_) | (refine PL.k rfl fun KK hKK=>?_;simp (disch:=omega) [go_sem,jg];refine hKK _ ?_;clear hKK KK) | (refine PL.k rfl fun KK hKK=>?_;simp[go_sem,jg];refine hKK _ ?_;clear hKK KK) | (refine PL.g rfl rfl fun KK hKK=>?_;simp (disch:=omega) [go_sem,L.stepG];refine hKK _ ?_;clear hKK KK) | (refine PL.g rfl rfl fun KK hKK=>?_;simp[go_sem,L.stepG];refine hKK _ ?_;clear hKK KK) | (refine PL.done hK ?_;clear hK) | (refine PC.skip (hK _ _ ?_);clear hK) | (refine PC.condT ?_ ?_;focus (simp[go_sem];done)) | (refine PC.condF ?_ ?_;focus (simp[go_sem];done)) | (refine PC.exit ?_;first | (refine hK _ _ ?_;clear hK) | (clear hK;refine hK _ _ ?_;clear hK) | (clear hK;clear hK;refine hK _ _ ?_;clear hK)))
  exact PC.ret (fin (.inr rfl) (by simp[Y8,Qh,Tryz.results69,go_sem,q6,ji,b7,qk]) hnp)
 | true=>
  rw[hc2] at hcl
  obtain⟨z,hz,rfl⟩:=Option.map_eq_some_iff.1 hcl
  unfold zgt at hz
  obtain⟨j,hj,hz⟩:=Option.bind_eq_some_iff.1 hz
  obtain⟨e,he,hz⟩:=Option.bind_eq_some_iff.1 hz
  obtain⟨ver,bs,clock,cs,rfl,hH,hbl,_,hcl,hrows⟩:=hq6
  obtain⟨c,hc⟩:∃ c,cs[j]? = some c:=⟨_,List.getElem?_eq_getElem (by rw[hcl];exact(List.getElem?_eq_some_iff.1 he).1)⟩
  have hrow:=hrows j c e hc he
  repeat (first | (refine PC.seq fun K hK=>?_) | (refine PC.block ?_) | (refine PC.region ?_) | (refine PL.k rfl fun KK hKK=>?_;simp (disch:=omega) [go_sem,jg,hc2];refine hKK _ ?_;clear hKK KK) | (refine PL.k rfl fun KK hKK=>?_;simp[go_sem,jg,hc2];refine hKK _ ?_;clear hKK KK) | (refine PL.g rfl rfl fun KK hKK=>?_;simp (disch:=omega) [go_sem,L.stepG,hc2];refine hKK _ ?_;clear hKK KK) | (refine PL.g rfl rfl fun KK hKK=>?_;simp[go_sem,L.stepG,hc2];refine hKK _ ?_;clear hKK KK) | (refine PL.done hK ?_;clear hK) | (refine PC.skip (hK _ _ ?_);clear hK) | (refine PC.condT ?_ ?_;focus (simp[go_sem,hc2];done)) | (refine PC.condF ?_ ?_;focus (simp[go_sem,hc2];done)) | (refine PC.exit ?_;first | (refine hK _ _ ?_;clear hK) | (clear hK;refine hK _ _ ?_;clear hK) | (clear hK;clear hK;refine hK _ _ ?_;clear hK)))
  have hrow:ownL 3 1 I H6 (j+1000) c e.2:=by rw[Nat.add_comm];exact hrow
  obtain⟨vr,hcv,hrowH⟩:=OwnS.pos hrow (by have:=(List.getElem?_eq_some_iff.1 hz).1;omega)
  have hfl:(e.2.map I).flatMap PV.cells=e.2.map I:=Y2 (fun _=>rfl) e.2
  rw[hfl] at hrowH
  have hH10:=hH
  subst hcv
  refine A3 2 (show _=PV.pp 2 0 v2 by simp[go_sem]) 4 (show _=PV.ps 10 ver by simp[go_sem]) 5 (show _=PV.pp 5 0 v5 by simp[go_sem]) fun F f2 f4 f5=>?_
  refine PC.mono (T.PSteps.drawn mixed (
   T.PSteps.q (.pp 5 0 v5) [5] rfl (by simp[jn]) (fun F' H' hF hH=>by have g5:F' 5 = .pp 5 0 v5:=(hF 5 (by simp[Oper.looksAt,Op.operands])).trans (by simp[go_sem,f2,f4,f5]);have k5:H' 5 = ⟨v5,some (.box 113 [I (jw mf).1.1,I (jw mf).1.2])⟩:=(hH 5 (by simp)).trans b5;exact jc (by simp[go_sem,jp,g5,k5])) <|
   T.PSteps.q (I (jw mf).1.1) [5] rfl (by simp[jn]) (fun F' H' hF hH=>by have g21:F' 21 = .pp 5 0 v5:=(hF 21 (by simp[Oper.looksAt,Op.operands])).trans (by simp[go_sem,f2,f4,f5]);have k5:H' 5 = ⟨v5,some (.box 113 [I (jw mf).1.1,I (jw mf).1.2])⟩:=(hH 5 (by simp)).trans b5;exact jc (by simp[go_sem,jp,g21,k5])) <|
   T.PSteps.q (.pp 5 1 v5) [5] rfl (by simp[jn]) (fun F' H' hF hH=>by have g5:F' 5 = .pp 5 0 v5:=(hF 5 (by simp[Oper.looksAt,Op.operands])).trans (by simp[go_sem,f2,f4,f5]);have k5:H' 5 = ⟨v5,some (.box 113 [I (jw mf).1.1,I (jw mf).1.2])⟩:=(hH 5 (by simp)).trans b5;exact jc (by simp[go_sem,jp,g5,k5])) <|
   T.PSteps.q (I (jw mf).1.2) [5] rfl (by simp[jn]) (fun F' H' hF hH=>by have g23:F' 23 = .pp 5 1 v5:=(hF 23 (by simp[Oper.looksAt,Op.operands])).trans (by simp[go_sem,f2,f4,f5]);have k5:H' 5 = ⟨v5,some (.box 113 [I (jw mf).1.1,I (jw mf).1.2])⟩:=(hH 5 (by simp)).trans b5;exact jc (by simp[go_sem,jp,g23,k5])) <|
   T.PSteps.q (.agg [I 15,I (jw mf).1.1,I (jw mf).1.2]) [] rfl (by simp[jn]) (fun F' H' hF hH=>by have g22:F' 22=I (jw mf).1.1:=(hF 22 (by simp[Oper.looksAt,Op.operands])).trans (by simp[go_sem,f2,f4,f5]);have g24:F' 24=I (jw mf).1.2:=(hF 24 (by simp[Oper.looksAt,Op.operands])).trans (by simp[go_sem,f2,f4,f5]);exact jc (by simp[go_sem,jp,g22,g24,I])) <|
   T.PSteps.q (.ps 10 ver) [] rfl (by simp[jn]) (fun F' H' hF hH=>by have g4:F' 4 = .ps 10 ver:=(hF 4 (by simp[Oper.looksAt,Op.operands])).trans (by simp[go_sem,f2,f4,f5]);exact jc (by simp[go_sem,jp,g4])) <|
   T.PSteps.q (.agg [I (jw mf).1.1,I (jw mf).1.2]) [5] rfl (by simp[jn]) (fun F' H' hF hH=>by have g5:F' 5 = .pp 5 0 v5:=(hF 5 (by simp[Oper.looksAt,Op.operands])).trans (by simp[go_sem,f2,f4,f5]);have k5:H' 5 = ⟨v5,some (.box 113 [I (jw mf).1.1,I (jw mf).1.2])⟩:=(hH 5 (by simp)).trans b5;exact jc (by simp[go_sem,jp,g5,k5])) <|
   T.PSteps.q (.ps (j+1000) vr) [10] rfl (by simp[jn]) (fun F' H' hF hH=>by have g26:F' 26 = .ps 10 ver:=(hF 26 (by simp[Oper.looksAt,Op.operands])).trans (by simp[go_sem,f2,f4,f5]);have g27:F' 27 = .agg [I (jw mf).1.1,I (jw mf).1.2]:=(hF 27 (by simp[Oper.looksAt,Op.operands])).trans (by simp[go_sem,f2,f4,f5]);exact PQ.getHit (id:=10) (key:=113) (elem:=31) z71 rfl (by kernel_rfl) ((hH 10 (by simp)).trans hH10) (by simp only[evP];exact g26) (by simp only[evP];exact g27) rfl hj hc) <|
   T.PSteps.q (.pp (j+1000) 1 vr) [j+1000] rfl (by simp[jn]) (fun F' H' hF hH=>by have g28:F' 28 = .ps (j+1000) vr:=(hF 28 (by simp[Oper.looksAt,Op.operands])).trans (by simp[go_sem,f2,f4,f5]);exact jc (zes (i:=1) rfl zal (by simp only[evP];exact g28) rfl ((hH (j+1000) (by simp)).trans hrowH) (List.getElem?_eq_some_iff.1 hz).1)) <|
   T.PSteps.q (I z) [j+1000] rfl (by simp[jn]) (fun F' H' hF hH=>by have g29:F' 29 = .pp (j+1000) 1 vr:=(hF 29 (by simp[Oper.looksAt,Op.operands])).trans (by simp[go_sem,f2,f4,f5]);have kr:H' (j+1000) = ⟨vr,some (.row 3 1 e.2.length (e.2.map I))⟩:=(hH (j+1000) (by simp)).trans hrowH;have hz':(e.2.map I)[1]? = some (I z):=((by rw[List.getElem?_map,hz];rfl));exact jc (by simp[go_sem,jp,g29,q6,ji,kr,qk,hz'])) <|
   T.PSteps.w (.u undef) [2] 2 ⟨v2,some (.box 36 [I 15,I (jw mf).1.1,I (jw mf).1.2])⟩ rfl (fun F' H' hF hH=>by have g2:F' 2 = .pp 2 0 v2:=(hF 2 (by simp[Oper.looksAt,Op.operands])).trans (by simp[go_sem,f2]);have g25:F' 25 = .agg [I 15,I (jw mf).1.1,I (jw mf).1.2]:=(hF 25 (by simp[Oper.looksAt,Op.operands])).trans (by simp[go_sem]);have k2:H' 2 = ⟨v2,some (.box 36 [I 0,I 0,I 0])⟩:=(hH 2 (.inr rfl)).trans b2;exact PE.store (id:=2) (off:=0) (ver:=v2) rfl (by simp[jn]) (by simp only[evP];exact g2) (cs:=[I 0,I 0,I 0]) (by simp[ji,k2]) zzz (by simp only[evP];rw[g25];rfl) (by simp only[evP];rw[g25];rfl) (by simp) (bd := .box 36 [I 0,I 0,I 0]) (by rw[k2]) ⟨rfl,by simp only[evP];rw[g25];rfl⟩) <|
   T.PSteps.q (I z) [] rfl (by simp[jn]) (fun F' H' hF hH=>by have g30:F' 30=I z:=(hF 30 (by simp[Oper.looksAt,Op.operands])).trans (by simp[go_sem,f2,f4,f5]);exact jc (by simp[go_sem,jp,g30])) <|
   T.PSteps.nil) (by kernel_rfl)) fun ex F' H' ⟨h1,h2,h3⟩=>?_
  subst h1;subst h2;subst h3
  refine hK _ _ ?_
  exact PC.ret (fin (.inr rfl) (by simp[Y8,Qh,Tryz.results69,go_sem,f2,q6,ji,PHeap.set,qk]) hnp)
end Go.Proofs.YtdllbdlnmjngcaaGreat

namespace Go.Proofs.YtdllbdlnmjngcaaGreat
open Go Go.RowKit L
set_option linter.unusedVariables false
set_option linter.unusedSimpArgs false
abbrev PE2:=(Int×Int)×List Int
def zk8 (ll:List (List Int)) (e:PE2):List (List Int):=ll.set e.1.1.toNat ((ll.getD e.1.1.toNat []).set e.1.2.toNat (e.2.headD 0))
def zu5 (n w:Nat):List (List Int):=List.replicate n (List.replicate w (-1))
def z9w (n w:Nat) (m:PM):List (List Int):=m.foldl zk8 (zu5 n w)
def z2l (n w:Nat) (e:PE2):Prop:=0≤e.1.1∧e.1.1<n∧0≤e.1.2∧e.1.2<w∧e.2≠[]
structure Tab (n w:Nat) (S:PE2→Prop) (ll:List (List Int)):Prop where
 n:ll.length=n
 w:∀(r:Nat) (row:List Int),ll[r]? = some row→row.length=w
 c:∀(r t:Nat) (row:List Int) (z:Int),ll[r]? = some row→row[t]? = some z→(∃ e,S e∧e.1=((r:Int),(t:Int))∧z=e.2.headD 0)∨((∀ e,S e→e.1≠((r:Int),(t:Int)))∧z = -1)
theorem z1t {n w r:Nat} {row:List Int} (h:(zu5 n w)[r]? = some row):row=List.replicate w (-1):=by
 unfold zu5 at h
 rw[List.getElem?_replicate] at h
 split at h<;>cases h
 rfl
theorem Tab.start (n w:Nat):Tab n w (fun _=>False) (zu5 n w):=by
 refine⟨by simp[zu5],fun r row h=>by rw[z1t h];simp,fun r t row z h1 h2=>?_⟩
 rw[z1t h1,List.getElem?_replicate] at h2
 split at h2<;>cases h2
 exact .inr ⟨fun e h=>h.elim,rfl⟩
theorem Tab.step {n w:Nat} {S:PE2→Prop} {ll:List (List Int)} (h:Tab n w S ll) {e:PE2} (he:z2l n w e):Tab n w (fun x=>S x∨x=e) (zk8 ll e):=by
 obtain⟨h1,h2,h3,h4,_⟩:=he
 have hr:e.1.1.toNat<ll.length:=by rw[h.n];omega
 have hg:ll.getD e.1.1.toNat []=ll[e.1.1.toNat]:=by simp[List.getD,hr]
 have hrl:(ll[e.1.1.toNat]).length=w:=h.w _ _ (List.getElem?_eq_getElem hr)
 unfold zk8
 rw[hg]
 refine⟨by simpa using h.n,fun r row hrow=>?_,fun r t row z hrow hz=>?_⟩
 ·rw[List.getElem?_set] at hrow
  split at hrow
  ·(first | (split at hrow<;>cases hrow) | cases hrow)
   rw[List.length_set,hrl]
  ·exact h.w r row hrow
 ·rw[List.getElem?_set] at hrow
  split at hrow
  ·rename_i er
   (first | (split at hrow<;>cases hrow) | cases hrow)
   rw[List.getElem?_set] at hz
   split at hz
   ·rename_i et
    (first | (split at hz<;>cases hz) | cases hz)
    refine .inl ⟨e, .inr rfl,?_,rfl⟩
    have e1:e.1.1=(r:Int):=by omega
    have e2:e.1.2=(t:Int):=by omega
    rw[← e1,← e2]
   ·rename_i et
    have hne:e.1≠((r:Int),(t:Int)):=fun h=>et (by rw[h];simp)
    rcases h.c r t _ z (by rw[← er];exact List.getElem?_eq_getElem hr) hz with ⟨e',h5,h6,h7⟩ | ⟨h5,h6⟩
    ·exact .inl ⟨e', .inl h5,h6,h7⟩
    ·exact .inr ⟨fun x hx=>by rcases hx with hx | rfl;exact h5 x hx;exact hne,h6⟩
  ·rename_i er
   have hne:e.1≠((r:Int),(t:Int)):=fun h=>er (by rw[h];simp)
   rcases h.c r t row z hrow hz with ⟨e',h5,h6,h7⟩ | ⟨h5,h6⟩
   ·exact .inl ⟨e', .inl h5,h6,h7⟩
   ·exact .inr ⟨fun x hx=>by rcases hx with hx | rfl;exact h5 x hx;exact hne,h6⟩
theorem Tab.uniq {n w:Nat} {S:PE2→Prop} {a b:List (List Int)} (hS:∀ e e',S e→S e'→e.1=e'.1→e=e') (ha:Tab n w S a) (hb:Tab n w S b):a=b:=by
 apply List.ext_getElem (by rw[ha.n,hb.n])
 intro r h1 h2
 have ea:=List.getElem?_eq_getElem h1
 have eb:=List.getElem?_eq_getElem h2
 apply List.ext_getElem (by rw[ha.w _ _ ea,hb.w _ _ eb])
 intro t h3 h4
 have ta:=List.getElem?_eq_getElem h3
 have tb:=List.getElem?_eq_getElem h4
 rcases ha.c r t _ _ ea ta with ⟨e,h5,h6,h7⟩ | ⟨h5,h6⟩
 ·rcases hb.c r t _ _ eb tb with ⟨e',g5,g6,g7⟩ | ⟨g5,g6⟩
  ·rw[h7,g7,hS e e' h5 g5 (h6.trans g6.symm)]
  ·exact absurd h6 (g5 e h5)
 ·rcases hb.c r t _ _ eb tb with ⟨e',g5,g6,g7⟩ | ⟨g5,g6⟩
  ·exact absurd g6 (h5 e' g5)
  ·rw[h6,g6]
theorem z3t {n w:Nat} {m:PM} (hk:∀ e∈m,z2l n w e):Tab n w (fun e=>e∈m) (z9w n w m):=by
 suffices ∀(l:PM) (S:PE2→Prop) (ll:List (List Int)),(∀ e∈l,z2l n w e)→Tab n w S ll→Tab n w (fun e=>S e∨e∈l) (l.foldl zk8 ll) by
  have h:=this m (fun _=>False) (zu5 n w) hk (Tab.start n w)
  have e:(fun e=>False∨e∈m)=fun e=>e∈m:=by funext e;simp
  rw[e] at h;exact h
 intro l
 induction l with
 | nil=>
  intro S ll _ h
  have e:(fun e=>S e∨e∈([]:PM))=S:=by funext e;simp
  rw[e];exact h
 | cons x l ih=>
  intro S ll hk h
  have:=ih _ _ (fun e he=>hk e (by simp[he])) (h.step (hk x (by simp)))
  have e:(fun e=>S e∨e∈x :: l)=fun e=>(S e∨e=x)∨e∈l:=by funext e;simp[or_assoc]
  rw[e];exact this
section
variable {H : PHeap} {et e base id : Nat} {q : PV} {ll : List (List Int)}
theorem ownLL.row {z:Nat} {v:List Int} (h:ownLL et e base I H id q ll) (hv:ll[z]? = some v) (hne:v≠[]):∃ cs ver vr,q = .ps id ver∧H id = ⟨ver,some (.row et 1 ll.length cs)⟩∧innerL e base I H cs ll∧cs[z]? = some (.ps (base+z) vr)∧H (base+z) = ⟨vr,some (.row e 1 v.length (v.map I))⟩:=by
 obtain⟨cs,ver,hi,hq,hH⟩:=h
 have hz:=(List.getElem?_eq_some_iff.1 hv).1
 obtain⟨c,hc⟩:∃ c,cs[z]? = some c:=⟨_,List.getElem?_eq_getElem (by rw[hi.1];exact hz)⟩
 obtain⟨vr,rfl,hr⟩:=OwnS.pos (hi.2 z c v hc hv) (fun h=>hne (List.eq_nil_of_length_eq_zero h))
 rw[Y2 (fun _=>rfl)] at hr
 exact⟨cs,ver,vr,hq,hH,hi,hc,hr⟩
theorem ownLL.put {H':PHeap} {z ver vr:Nat} {v zs:List Int} {cs:List PV} (hlt:id<base) (hH:H id = ⟨ver,some (.row et 1 ll.length cs)⟩) (hi:innerL e base I H cs ll) (hv:ll[z]? = some v) (hc:cs[z]? = some (.ps (base+z) vr))
  (hl:zs.length=v.length) (h1:H' (base+z) = ⟨vr,some (.row e 1 zs.length (zs.map I))⟩) (h2:∀ j,j≠base+z→H' j=H j):ownLL et e base I H' id (.ps id ver) (ll.set z zs):=by
 have hz:=(List.getElem?_eq_some_iff.1 hv).1
 refine⟨cs,ver,⟨by simpa using hi.1,fun j c l h3 h4=>?_⟩,rfl,by rw[h2 _ (by omega),List.length_set];exact hH⟩
 rw[List.getElem?_set] at h4
 by_cases hj:z=j
 ·subst hj
  rw[if_pos rfl,if_pos hz] at h4
  cases h4
  rw[hc] at h3
  cases h3
  refine OwnS.row (by rw[Y2 (fun _=>rfl)];exact h1) (by rw[Y2 (fun _=>rfl)];simp)
 ·rw[if_neg hj] at h4
  exact(hi.2 j c l h3 h4).mono (h2 _ (by omega))
end
end Go.Proofs.YtdllbdlnmjngcaaGreat

namespace Go.Proofs.YtdllbdlnmjngcaaGreat
open Go Go.RowKit L
set_option linter.unusedVariables false
set_option linter.unusedSimpArgs false
theorem z5l {α:Type} (a b:α) {i w:Nat} (h:i<w):(List.replicate i a++List.replicate (w-i) b).set i a=List.replicate (i+1) a++List.replicate (w-(i+1)) b:=by
 have e:List.replicate (w-i) b=b :: List.replicate (w-(i+1)) b:=by rw[show w-i=(w-(i+1))+1 by omega];rfl
 rw[e,List.set_append_right _ _ (by simp),List.length_replicate,Nat.sub_self,List.replicate_succ']
 simp
def zc7 (n w k:Nat):List (List Int):=List.replicate k (List.replicate w (-1))++List.replicate (n-k) []
section
variable {P : Program} {W : Env} {n : Nat} {H : PHeap} {F : PFrame} {ops : Array Oper} {o : Oper} {l : List Oper} {K : PFrame → PHeap → Prop}
theorem PL.ldC {t:TypeId} {x:Operand} {d id ver off k:Nat} {ag:Bool} {cs:List PV} {p:PV} (hg:o.guard=none) (ho:o.op = .load t x) (hd:o.dst=some d) (hdn:d<n) (hx:evP F x = .pp id off ver) (hl:ji H id ver=some cs) (ht:asz P t=some (ag,k)) (hp:qk ag k (cs.drop off)=some p)
  (h:PL P W n ops l (F.put (some d) p) H K):PL P W n ops (o :: l) F H K:=by
 refine PL.pe hg (PE.quiet (fun t ht=>by rw[hd] at ht;cases ht;exact hdn) (jc ?_) (by rw[hd];exact h))
 unfold jp
 rw[ho]
 simp only[hx]
 unfold q6
 simp[ht,hl,hp]
theorem PL.idxC {t e id m i ver d:Nat} {x y:Operand} {cs:List PV} (hg:o.guard=none) (ho:o.op = .indexAddr t x y) (hd:o.dst=some d) (hdn:d<n) (he:esz P t=some 1) (hx:evP F x = .ps id ver) (hy:evP F y = .u (.int .i64 (i:Nat))) (hH:H id = ⟨ver,some (.row e 1 m cs)⟩) (hlt:i<m)
  (h:PL P W n ops l (F.put (some d) (.pp id i ver)) H K):PL P W n ops (o :: l) F H K:=
 PL.pe hg (PE.quiet (fun t ht=>by rw[hd] at ht;cases ht;exact hdn) (jc (zes ho he hx hy hH hlt)) (by rw[hd];exact h))
theorem PL.storeI {t e id i ver:Nat} {x y:Operand} {xs:List Int} {z:Int} (hg:o.guard=none) (ho:o.op = .store t x y) (hd:o.dst=none) (ht:asz P t=some (false,1)) (hx:evP F x = .pp id i ver) (hy:evP F y=I z) (hH:H id = ⟨ver,some (.row e 1 xs.length (xs.map I))⟩) (hlt:i<xs.length)
  (h:∀ H',H' id = ⟨ver,some (.row e 1 (xs.set i z).length ((xs.set i z).map I))⟩→(∀ j,j≠id→H' j=H j)→PL P W n ops l (F.put none (.u undef)) H' K):PL P W n ops (o :: l) F H K:=by
 refine PL.storeR (v:=I z) (ps:=[I z]) (cs':=(xs.set i z).map I) hg ho (fun t ht=>by rw[hd] at ht;cases ht) hx hH ht hy rfl rfl rfl (by simp;omega) ?_ fun H' b1 o1=>?_
 ·apply List.ext_getElem?
  intro j
  have:=yu (xs.map I) [I z] i (by simp;omega) j
  rw[this,List.map_set,List.getElem?_set]
  by_cases e:i=j
  ·subst e;simp[hlt]
  ·have h3:¬(i≤j∧j<i+[I z].length):=by simp;omega
   rw[if_neg h3,if_neg e]
 ·rw[hd]
  exact h H' (by rw[List.length_set];exact b1) o1
end
set_option maxRecDepth 20000 in
set_option maxHeartbeats 4000000 in
theorem z8s {gV:PV} {ps:List PrP} {mf:PM} {ts bs rest:List PV} {wa:Nat} (h:GrV gV ps) (hgV:gV = .agg (.sl wa ts :: .sl 1 bs :: .sl 2 (ps.map prV) :: rest)) (hr:PCall Tryz.prog 72 [gV] (· = B true)) (hf:zou gV mf) (hnc:(jw mf).2=false)
  (hbs:bs.length≤1000000) (hts:ts.length≤1000000) (hk:∀ e∈mf,z2l bs.length (ts.length+1) e) (hu:∀ e e',e∈mf→e'∈mf→e.1=e'.1→e=e') :
  PCall Tryz.prog 26 [gV] (· = .tup [ziv (z9w bs.length (ts.length+1) mf),I 0]):=by
 obtain⟨kg,hkg,hlen⟩:=h.len
 have hgc:PV.agg gV.cells=gV:=by rw[hgV];rfl
 have hcs:gV.cells = .sl wa ts :: .sl 1 bs :: .sl 2 (ps.map prV) :: rest:=by rw[hgV];rfl
 refine PCall.intro' Tryz.func26 rfl Tryz.ntmps26 (by simp) fun W=>?_
 refine PC.seq fun K hK=>?_
 refine PC.region ?_
 refine PL.boxA 1 (d:=1) rfl rfl rfl (by simp) (v:=gV) (by simp[go_sem]) (h.ok _) rfl fun v1 H1 b1 o1=>?_
 repeat (first | (refine PC.seq fun K hK=>?_) | (refine PC.block ?_) | (refine PC.region ?_) | (refine PL.k rfl fun KK hKK=>?_;simp (disch:=omega) [go_sem,jg];refine hKK _ ?_;clear hKK KK) | (refine PL.k rfl fun KK hKK=>?_;simp[go_sem,jg];refine hKK _ ?_;clear hKK KK) | (refine PL.g rfl rfl fun KK hKK=>?_;simp (disch:=omega) [go_sem,L.stepG];refine hKK _ ?_;clear hKK KK) | (refine PL.g rfl rfl fun KK hKK=>?_;simp[go_sem,L.stepG];refine hKK _ ?_;clear hKK KK) | (refine PL.done hK ?_;clear hK) | (refine PC.skip (hK _ _ ?_);clear hK) | (refine PC.condT ?_ ?_;focus (simp[go_sem];done)) | (refine PC.condF ?_ ?_;focus (simp[go_sem];done)) | (refine PC.exit ?_;first | (refine hK _ _ ?_;clear hK) | (clear hK;refine hK _ _ ?_;clear hK) | (clear hK;clear hK;refine hK _ _ ?_;clear hK)))
 refine PL.ldBox (id:=1) (off:=0) (ver:=v1) (p:=gV) rfl rfl rfl (by simp) (by simp[go_sem]) b1 hkg (by rw[List.drop_zero,Jc hlen,hgc]) ?_
 refine PL.callB rfl rfl (by kernel_rfl) hr (by simp[go_sem]) (by simp[go_sem,h.np]) (by simp[go_sem,View.noP h.np]) ?_
 repeat (first | (refine PC.seq fun K hK=>?_) | (refine PC.block ?_) | (refine PC.region ?_) | (refine PL.k rfl fun KK hKK=>?_;simp (disch:=omega) [go_sem,jg];refine hKK _ ?_;clear hKK KK) | (refine PL.k rfl fun KK hKK=>?_;simp[go_sem,jg];refine hKK _ ?_;clear hKK KK) | (refine PL.g rfl rfl fun KK hKK=>?_;simp (disch:=omega) [go_sem,L.stepG];refine hKK _ ?_;clear hKK KK) | (refine PL.g rfl rfl fun KK hKK=>?_;simp[go_sem,L.stepG];refine hKK _ ?_;clear hKK KK) | (refine PL.done hK ?_;clear hK) | (refine PC.skip (hK _ _ ?_);clear hK) | (refine PC.condT ?_ ?_;focus (simp[go_sem];done)) | (refine PC.condF ?_ ?_;focus (simp[go_sem];done)) | (refine PC.exit ?_;first | (refine hK _ _ ?_;clear hK) | (clear hK;refine hK _ _ ?_;clear hK) | (clear hK;clear hK;refine hK _ _ ?_;clear hK)))
 refine PL.ldBox (id:=1) (off:=0) (ver:=v1) (p:=gV) rfl rfl rfl (by simp) (by simp[go_sem]) b1 hkg (by rw[List.drop_zero,Jc hlen,hgc]) ?_
 refine PL.inl rfl rfl (hf H1) (by simp[jn]) (by simp[yk,go_sem]) fun q H3 ⟨hq,o3⟩=>?_
 repeat (first | (refine PC.seq fun K hK=>?_) | (refine PC.block ?_) | (refine PC.region ?_) | (refine PL.k rfl fun KK hKK=>?_;simp (disch:=omega) [go_sem,jg];refine hKK _ ?_;clear hKK KK) | (refine PL.k rfl fun KK hKK=>?_;simp[go_sem,jg];refine hKK _ ?_;clear hKK KK) | (refine PL.g rfl rfl fun KK hKK=>?_;simp (disch:=omega) [go_sem,L.stepG];refine hKK _ ?_;clear hKK KK) | (refine PL.g rfl rfl fun KK hKK=>?_;simp[go_sem,L.stepG];refine hKK _ ?_;clear hKK KK) | (refine PL.done hK ?_;clear hK) | (refine PC.skip (hK _ _ ?_);clear hK) | (refine PC.condT ?_ ?_;focus (simp[go_sem];done)) | (refine PC.condF ?_ ?_;focus (simp[go_sem];done)) | (refine PC.exit ?_;first | (refine hK _ _ ?_;clear hK) | (clear hK;refine hK _ _ ?_;clear hK) | (clear hK;clear hK;refine hK _ _ ?_;clear hK)))
 refine PL.inl rfl rfl (zo8 H3 q mf hq) (by simp[jn]) (by simp[yk,go_sem]) fun c H4 ⟨hc,o4⟩=>?_
 subst hc
 have b1:H4 1 = ⟨v1,some (.box 26 gV.cells)⟩:=by rw[o4 1 (.inl (by decide)),o3 1 (by decide)];exact b1
 have hq4:ownMR plv 3 1000 H4 10 q mf:=hq.mono (o4 10 (.inl (by decide))) fun j hj=>o4 j (.inr hj)
 clear hq
 repeat (first | (refine PC.seq fun K hK=>?_) | (refine PC.block ?_) | (refine PC.region ?_) | (refine PL.k rfl fun KK hKK=>?_;simp (disch:=omega) [go_sem,jg];refine hKK _ ?_;clear hKK KK) | (refine PL.k rfl fun KK hKK=>?_;simp[go_sem,jg];refine hKK _ ?_;clear hKK KK) | (refine PL.g rfl rfl fun KK hKK=>?_;simp (disch:=omega) [go_sem,L.stepG];refine hKK _ ?_;clear hKK KK) | (refine PL.g rfl rfl fun KK hKK=>?_;simp[go_sem,L.stepG];refine hKK _ ?_;clear hKK KK) | (refine PL.done hK ?_;clear hK) | (refine PC.skip (hK _ _ ?_);clear hK) | (refine PC.condT ?_ ?_;focus (simp[go_sem];done)) | (refine PC.condF ?_ ?_;focus (simp[go_sem];done)) | (refine PC.exit ?_;first | (refine hK _ _ ?_;clear hK) | (clear hK;refine hK _ _ ?_;clear hK) | (clear hK;clear hK;refine hK _ _ ?_;clear hK)))
 refine PL.allocA 5 (d:=5) rfl rfl rfl (by simp) Qy rfl rfl fun v5 H5 b5 o5=>?_
 refine PL.storeA (id:=5) rfl rfl (by simp[jn]) (by simp[go_sem];rfl) b5 Vo (v := .agg [I (jw mf).1.1,I (jw mf).1.2]) (ps:=[I (jw mf).1.1,I (jw mf).1.2]) (by simp[go_sem]) rfl rfl rfl (by simp) (cs':=[I (jw mf).1.1,I (jw mf).1.2]) rfl fun H6 b5 o6=>?_
 have b1:H6 1 = ⟨v1,some (.box 26 (.sl wa ts :: .sl 1 bs :: .sl 2 (ps.map prV) :: rest))⟩:=by rw[o6 1 (by decide),o5 1 (by decide),← hcs];exact b1
 have hq6:ownMR plv 3 1000 H6 10 q mf:=hq4.mono (by rw[o6 10 (by decide),o5 10 (by decide)]) fun j hj=>by rw[o6 j (by omega),o5 j (by omega)]
 clear hq4
 repeat (first | (refine PC.seq fun K hK=>?_) | (refine PC.block ?_) | (refine PC.region ?_) | (refine PL.k rfl fun KK hKK=>?_;simp (disch:=omega) [go_sem,jg,hnc,b1];refine hKK _ ?_;clear hKK KK) | (refine PL.k rfl fun KK hKK=>?_;simp[go_sem,jg,hnc,b1];refine hKK _ ?_;clear hKK KK) | (refine PL.g rfl rfl fun KK hKK=>?_;simp (disch:=omega) [go_sem,L.stepG,hnc,b1];refine hKK _ ?_;clear hKK KK) | (refine PL.g rfl rfl fun KK hKK=>?_;simp[go_sem,L.stepG,hnc,b1];refine hKK _ ?_;clear hKK KK) | (refine PL.done hK ?_;clear hK) | (refine PC.skip (hK _ _ ?_);clear hK) | (refine PC.condT ?_ ?_;focus (simp[go_sem,hnc,b1];done)) | (refine PC.condF ?_ ?_;focus (simp[go_sem,hnc,b1];done)) | (refine PC.exit ?_;first | (refine hK _ _ ?_;clear hK) | (clear hK;refine hK _ _ ?_;clear hK) | (clear hK;clear hK;refine hK _ _ ?_;clear hK)))
 obtain⟨ll0,hll0⟩:∃ ll0,ll0=List.replicate bs.length ([]:List Int):=⟨_,rfl⟩
 have hmk:mkS 24 ([]:List Int) (bs.length:Int)=some ll0:=by
  unfold mkS
  rw[if_pos ⟨by omega,by simp only[Int.toNat_natCast];omega,by simp only[Int.toNat_natCast,maxLen];omega⟩,hll0]
  simp
 refine PL.mkLL (k := .i64) (rep:=I) 14 (mf.length+1000) (by omega) rfl rfl rfl (by simp) (et:=31) (e:=3) zx8 (by simp[go_sem]) hmk fun qo H7 ho o7=>?_
 have b1:H7 1 = ⟨v1,some (.box 26 (.sl wa ts :: .sl 1 bs :: .sl 2 (ps.map prV) :: rest))⟩:=by rw[o7 1 (by decide)];exact b1
 have hq7:ownMR plv 3 1000 H7 10 q mf:=by
  obtain⟨ver,bs',clock,cs,e1,e2,e3,e0,e4,e5⟩:=hq6
  exact⟨ver,bs',clock,cs,e1,(o7 10 (by decide)).trans e2,e3,e0,e4,fun j c x h3 h4=>(e5 j c x h3 h4).mono (o7 _ (by omega))⟩
 clear hq6
 obtain⟨cs0,vo,hi0,rfl,hHo⟩:=ho
 have hl0:ll0.length=bs.length:=by rw[hll0];simp
 have ho:ownLL 31 3 (mf.length+1000) I H7 14 (.ps 14 vo) (zc7 bs.length (ts.length+1) 0):=⟨cs0,vo,by
  have:zc7 bs.length (ts.length+1) 0=ll0:=by rw[hll0];simp[zc7]
  rw[this];exact hi0,rfl,by rw[hHo,hl0];simp[zc7]⟩
 rw[hl0] at hHo
 repeat (first | (refine PC.seq fun K hK=>?_) | (refine PC.block ?_) | (refine PC.region ?_) | (refine PL.k rfl fun KK hKK=>?_;simp (disch:=omega) [go_sem,jg,hHo];refine hKK _ ?_;clear hKK KK) | (refine PL.k rfl fun KK hKK=>?_;simp[go_sem,jg,hHo];refine hKK _ ?_;clear hKK KK) | (refine PL.g rfl rfl fun KK hKK=>?_;simp (disch:=omega) [go_sem,L.stepG,hHo];refine hKK _ ?_;clear hKK KK) | (refine PL.g rfl rfl fun KK hKK=>?_;simp[go_sem,L.stepG,hHo];refine hKK _ ?_;clear hKK KK) | (refine PL.done hK ?_;clear hK) | (refine PC.skip (hK _ _ ?_);clear hK) | (refine PC.condT ?_ ?_;focus (simp[go_sem,hHo];done)) | (refine PC.condF ?_ ?_;focus (simp[go_sem,hHo];done)) | (refine PC.exit ?_;first | (refine hK _ _ ?_;clear hK) | (clear hK;refine hK _ _ ?_;clear hK) | (clear hK;clear hK;refine hK _ _ ?_;clear hK)))
 obtain⟨N,hN⟩:∃ N,N=bs.length:=⟨_,rfl⟩
 obtain⟨w,hw⟩:∃ w,w=ts.length+1:=⟨_,rfl⟩
 rw[← hN] at hk hbs ho ⊢
 rw[← hw] at hk ho ⊢
 have hkl:∀ k,(zc7 N w k).length=k+(N-k):=fun k=>by simp[zc7]
 refine PC.loop (fun f F H'=>∃ k,k≤N∧f=N-k∧F 1 = .pp 1 0 v1∧H' 1 = ⟨v1,some (.box 26 (.sl wa ts :: .sl 1 bs :: .sl 2 (ps.map prV) :: rest))⟩∧F 4=q∧ownMR plv 3 1000 H' 10 q mf∧F 7 = .ps 14 vo∧ownLL 31 3 (mf.length+1000) I H' 14 (.ps 14 vo) (zc7 N w k)∧F 28=I N∧F 29=I k) (m:=N)
  ⟨0,by omega,by omega,by simp[go_sem],b1,by simp[go_sem],hq7,by simp[go_sem],ho,by simp[go_sem,hN],by simp[go_sem]⟩ fun f F H8 hI=>?_
 clear b1 hq7 ho hHo hi0
 obtain⟨k,hkN,rfl,f1,b1,f4,hq7,f7,ho,f28,f29⟩:=hI
 by_cases hlt:k<N
 ·have hlt':(k:Int)<N:=by omega
  have htk:(zc7 N w k)[k]? = some []:=by
   unfold zc7
   rw[List.getElem?_append_right (by simp),List.length_replicate,Nat.sub_self,List.getElem?_replicate,if_pos (by omega)]
  obtain⟨cs1,vo1,hi1,hvo1,hHo1⟩:=ho
  cases hvo1
  have hcl1:cs1.length=N:=by rw[hi1.1,hkl];omega
  obtain⟨c1,hc1⟩:∃ c,cs1[k]? = some c:=⟨_,List.getElem?_eq_getElem (by omega)⟩
  have htsN:(ts.length:Int)≤1000000:=by omega
  repeat (first | (refine PC.seq fun K hK=>?_) | (refine PC.block ?_) | (refine PC.region ?_) | (refine PL.k rfl fun KK hKK=>?_;simp (disch:=omega) [go_sem,jg,f28,f29,hlt',f7,f1,b1,htsN];refine hKK _ ?_;clear hKK KK) | (refine PL.k rfl fun KK hKK=>?_;simp[go_sem,jg,f28,f29,hlt',f7,f1,b1,htsN];refine hKK _ ?_;clear hKK KK) | (refine PL.g rfl rfl fun KK hKK=>?_;simp (disch:=omega) [go_sem,L.stepG,f28,f29,hlt',f7,f1,b1,htsN];refine hKK _ ?_;clear hKK KK) | (refine PL.g rfl rfl fun KK hKK=>?_;simp[go_sem,L.stepG,f28,f29,hlt',f7,f1,b1,htsN];refine hKK _ ?_;clear hKK KK) | (refine PL.done hK ?_;clear hK) | (refine PC.skip (hK _ _ ?_);clear hK) | (refine PC.condT ?_ ?_;focus (simp[go_sem,f28,f29,hlt',f7,f1,b1,htsN];done)) | (refine PC.condF ?_ ?_;focus (simp[go_sem,f28,f29,hlt',f7,f1,b1,htsN];done)) | (refine PC.exit ?_;first | (refine hK _ _ ?_;clear hK) | (clear hK;refine hK _ _ ?_;clear hK) | (clear hK;clear hK;refine hK _ _ ?_;clear hK)))
  refine PL.makeSliceA (kx := .i64) (ky := .i64) (m:=w) (mf.length+1000+k) rfl rfl rfl (by simp) zw rfl (by simp[go_sem,hw]) (by simp[go_sem,hw]) (by simp only[maxLen];omega) (by omega) fun vr H9 b9 o9=>?_
  have hHo9:H9 14 = ⟨vo,some (.row 31 1 (zc7 N w k).length cs1)⟩:=by rw[o9 14 (by omega)];exact hHo1
  refine PL.pe rfl (PE.quiet (by simp[jn]) (jc (zes (id:=14) (i:=k) (ver:=vo) rfl zdn (by simp[go_sem]) (by simp[go_sem]) hHo9 (by rw[hkl];omega))) ?_)
  refine PL.stLL (rep:=I) (et:=31) (e:=3) (base:=mf.length+1000) (id:=14) (q := .ps 14 vo) (ll:=zc7 N w k) (H0:=H8) (z:=(k:Int)) (v:=[]) (zs:=List.replicate w 0) (p:=c1) (pq := .ps (mf.length+1000+k) vr) (by omega) rfl rfl rfl zcd ⟨cs1,vo,hi1,rfl,hHo1,hc1⟩ (fun j hj=>o9 j hj) (OwnS.row (by rw[Int.toNat_natCast,b9,Y2 (fun _=>rfl)];simp[I]) (by rw[Y2 (fun _=>rfl)];simp)) (by simp[idx,htk]) (by simp[go_sem]) (by simp[go_sem];rfl) fun H10 ho10 o10=>?_
  rw[Int.toNat_natCast] at ho10
  have b1:H10 1 = ⟨v1,some (.box 26 (.sl wa ts :: .sl 1 bs :: .sl 2 (ps.map prV) :: rest))⟩:=by rw[o10 1 (by omega) (by omega)];exact b1
  have hq10:ownMR plv 3 1000 H10 10 q mf:=by
   obtain⟨ver,bs',clock,cs,e1,e2,e3,e0,e4,e5⟩:=hq7
   exact⟨ver,bs',clock,cs,e1,(o10 10 (by omega) (by omega)).trans e2,e3,e0,e4,fun j c x h3 h4=>(e5 j c x h3 h4).mono (o10 _ (by omega) (by have:=(List.getElem?_eq_some_iff.1 h4).1;omega))⟩
  clear hq7
  have hwp:0<w:=by omega
  have hget:∀(row:List Int),((zc7 N w k).set k row)[k]? = some row:=fun row=>by rw[List.getElem?_set];simp[hkl];omega
  have hll:∀(row:List Int),((zc7 N w k).set k row).length=N:=fun row=>by rw[List.length_set,hkl];omega
  obtain⟨cs2,vo2,vr2,hv2,hH2,hi2,hc2,hr2⟩:=ownLL.row ho10 (hget _) (fun e=>by have:=congrArg List.length e;simp at this;omega)
  cases hv2
  rw[hll] at hH2
  rw[List.length_replicate] at hr2
  repeat (first | (refine PC.seq fun K hK=>?_) | (refine PC.block ?_) | (refine PC.region ?_) | (refine PL.k rfl fun KK hKK=>?_;simp (disch:=omega) [go_sem,jg,f7];refine hKK _ ?_;clear hKK KK) | (refine PL.k rfl fun KK hKK=>?_;simp[go_sem,jg,f7];refine hKK _ ?_;clear hKK KK) | (refine PL.g rfl rfl fun KK hKK=>?_;simp (disch:=omega) [go_sem,L.stepG,f7];refine hKK _ ?_;clear hKK KK) | (refine PL.g rfl rfl fun KK hKK=>?_;simp[go_sem,L.stepG,f7];refine hKK _ ?_;clear hKK KK) | (refine PL.done hK ?_;clear hK) | (refine PC.skip (hK _ _ ?_);clear hK) | (refine PC.condT ?_ ?_;focus (simp[go_sem,f7];done)) | (refine PC.condF ?_ ?_;focus (simp[go_sem,f7];done)) | (refine PC.exit ?_;first | (refine hK _ _ ?_;clear hK) | (clear hK;refine hK _ _ ?_;clear hK) | (clear hK;clear hK;refine hK _ _ ?_;clear hK)))
  refine PL.idxC (id:=14) (i:=k) (ver:=vo) rfl rfl rfl (by simp) zdn (by simp[go_sem,f7]) (by simp[go_sem]) hH2 hlt ?_
  refine PL.ldC (id:=14) (off:=k) (ver:=vo) (p := .ps (mf.length+1000+k) vr2) rfl rfl rfl (by simp) (by simp[go_sem]) (cs:=cs2) (by simp[ji,hH2]) zcd (by simp[qk,hc2]) ?_
  refine PL.lenRow rfl rfl rfl (by simp) (by kernel_rfl) (q := .ps (mf.length+1000+k) vr2) (by simp[go_sem]) (OwnS.row hr2 (by simp)) ?_
  repeat (first | (refine PC.seq fun K hK=>?_) | (refine PC.block ?_) | (refine PC.region ?_) | (refine PL.k rfl fun KK hKK=>?_;simp (disch:=omega) [go_sem,jg];refine hKK _ ?_;clear hKK KK) | (refine PL.k rfl fun KK hKK=>?_;simp[go_sem,jg];refine hKK _ ?_;clear hKK KK) | (refine PL.g rfl rfl fun KK hKK=>?_;simp (disch:=omega) [go_sem,L.stepG];refine hKK _ ?_;clear hKK KK) | (refine PL.g rfl rfl fun KK hKK=>?_;simp[go_sem,L.stepG];refine hKK _ ?_;clear hKK KK) | (refine PL.done hK ?_;clear hK) | (refine PC.skip (hK _ _ ?_);clear hK) | (refine PC.condT ?_ ?_;focus (simp[go_sem];done)) | (refine PC.condF ?_ ?_;focus (simp[go_sem];done)) | (refine PC.exit ?_;first | (refine hK _ _ ?_;clear hK) | (clear hK;refine hK _ _ ?_;clear hK) | (clear hK;clear hK;refine hK _ _ ?_;clear hK)))
  refine PC.loop (fun f F H'=>∃ i,i≤w∧f=w-i∧F 1 = .pp 1 0 v1∧H' 1 = ⟨v1,some (.box 26 (.sl wa ts :: .sl 1 bs :: .sl 2 (ps.map prV) :: rest))⟩∧F 4=q∧ownMR plv 3 1000 H' 10 q mf∧F 7 = .ps 14 vo∧ownLL 31 3 (mf.length+1000) I H' 14 (.ps 14 vo) ((zc7 N w k).set k (List.replicate i (-1)++List.replicate (w-i) 0))∧F 28=I N∧F 29=I k∧F 8=I k∧F 44=I w∧F 45=I i) (m:=w)
   ⟨0,by omega,by omega,by simp[go_sem,f1],b1,by simp[go_sem,f4],hq10,by simp[go_sem,f7],by simpa using ho10,by simp[go_sem,f28],by simp[go_sem,f29],by simp[go_sem],by simp[go_sem],by simp[go_sem]⟩ fun f F H11 hI=>?_
  clear b1 hq10 ho10 hH2 hi2 hc2 hr2 f1 f4 f7 f28 f29
  obtain⟨i,hiw,rfl,f1,b1,f4,hq11,f7,ho11,f28,f29,f8,f44,f45⟩:=hI
  by_cases hil:i<w
  ·have hil':(i:Int)<w:=by omega
   obtain⟨cs2,vo2,vr2,hv2,hH2,hi2,hc2,hr2⟩:=ownLL.row ho11 (hget _) (fun e=>by have:=congrArg List.length e;simp at this;omega)
   cases hv2
   have hrl:(List.replicate i (-1:Int)++List.replicate (w-i) 0).length=w:=by simp;omega
   have hH2':H11 14 = ⟨vo,some (.row 31 1 N cs2)⟩:=by rw[hH2,hll]
   repeat (first | (refine PC.seq fun K hK=>?_) | (refine PC.block ?_) | (refine PC.region ?_) | (refine PL.k rfl fun KK hKK=>?_;simp (disch:=omega) [go_sem,jg,f44,f45,hil',f7,f8];refine hKK _ ?_;clear hKK KK) | (refine PL.k rfl fun KK hKK=>?_;simp[go_sem,jg,f44,f45,hil',f7,f8];refine hKK _ ?_;clear hKK KK) | (refine PL.g rfl rfl fun KK hKK=>?_;simp (disch:=omega) [go_sem,L.stepG,f44,f45,hil',f7,f8];refine hKK _ ?_;clear hKK KK) | (refine PL.g rfl rfl fun KK hKK=>?_;simp[go_sem,L.stepG,f44,f45,hil',f7,f8];refine hKK _ ?_;clear hKK KK) | (refine PL.done hK ?_;clear hK) | (refine PC.skip (hK _ _ ?_);clear hK) | (refine PC.condT ?_ ?_;focus (simp[go_sem,f44,f45,hil',f7,f8];done)) | (refine PC.condF ?_ ?_;focus (simp[go_sem,f44,f45,hil',f7,f8];done)) | (refine PC.exit ?_;first | (refine hK _ _ ?_;clear hK) | (clear hK;refine hK _ _ ?_;clear hK) | (clear hK;clear hK;refine hK _ _ ?_;clear hK)))
   refine PL.idxC (id:=14) (i:=k) (ver:=vo) rfl rfl rfl (by simp) zdn (by simp[go_sem,f7]) (by simp[go_sem]) hH2' hlt ?_
   refine PL.ldC (id:=14) (off:=k) (ver:=vo) (p := .ps (mf.length+1000+k) vr2) rfl rfl rfl (by simp) (by simp[go_sem]) (cs:=cs2) (by simp[ji,hH2']) zcd (by simp[qk,hc2]) ?_
   repeat (first | (refine PC.seq fun K hK=>?_) | (refine PC.block ?_) | (refine PC.region ?_) | (refine PL.k rfl fun KK hKK=>?_;simp (disch:=omega) [go_sem,jg];refine hKK _ ?_;clear hKK KK) | (refine PL.k rfl fun KK hKK=>?_;simp[go_sem,jg];refine hKK _ ?_;clear hKK KK) | (refine PL.g rfl rfl fun KK hKK=>?_;simp (disch:=omega) [go_sem,L.stepG];refine hKK _ ?_;clear hKK KK) | (refine PL.g rfl rfl fun KK hKK=>?_;simp[go_sem,L.stepG];refine hKK _ ?_;clear hKK KK) | (refine PL.done hK ?_;clear hK) | (refine PC.skip (hK _ _ ?_);clear hK) | (refine PC.condT ?_ ?_;focus (simp[go_sem];done)) | (refine PC.condF ?_ ?_;focus (simp[go_sem];done)) | (refine PC.exit ?_;first | (refine hK _ _ ?_;clear hK) | (clear hK;refine hK _ _ ?_;clear hK) | (clear hK;clear hK;refine hK _ _ ?_;clear hK)))
   refine PL.idxC (id:=mf.length+1000+k) (i:=i) (ver:=vr2) rfl rfl rfl (by simp) zal (by simp[go_sem]) (by simp[go_sem]) hr2 (by rw[hrl];exact hil) ?_
   refine PL.storeI (id:=mf.length+1000+k) (i:=i) (ver:=vr2) (z := -1) rfl rfl rfl zkm (by simp[go_sem]) (by simp[go_sem]) hr2 (by rw[hrl];exact hil) fun H12 b12 o12=>?_
   repeat (first | (refine PC.seq fun K hK=>?_) | (refine PC.block ?_) | (refine PC.region ?_) | (refine PL.k rfl fun KK hKK=>?_;simp (disch:=omega) [go_sem,jg];refine hKK _ ?_;clear hKK KK) | (refine PL.k rfl fun KK hKK=>?_;simp[go_sem,jg];refine hKK _ ?_;clear hKK KK) | (refine PL.g rfl rfl fun KK hKK=>?_;simp (disch:=omega) [go_sem,L.stepG];refine hKK _ ?_;clear hKK KK) | (refine PL.g rfl rfl fun KK hKK=>?_;simp[go_sem,L.stepG];refine hKK _ ?_;clear hKK KK) | (refine PL.done hK ?_;clear hK) | (refine PC.skip (hK _ _ ?_);clear hK) | (refine PC.condT ?_ ?_;focus (simp[go_sem];done)) | (refine PC.condF ?_ ?_;focus (simp[go_sem];done)) | (refine PC.exit ?_;first | (refine hK _ _ ?_;clear hK) | (clear hK;refine hK _ _ ?_;clear hK) | (clear hK;clear hK;refine hK _ _ ?_;clear hK)))
   have ho12:=ownLL.put (H:=H11) (H':=H12) (z:=k) (vr:=vr2) (by omega) hH2 hi2 (hget _) hc2 (by simp) b12 o12
   rw[List.set_set,z5l (-1:Int) 0 hil] at ho12
   have hwb:(w:Int)≤1000001:=by omega
   repeat (first | (refine PC.seq fun K hK=>?_) | (refine PC.block ?_) | (refine PC.region ?_) | (refine PL.k rfl fun KK hKK=>?_;simp (disch:=omega) [go_sem,jg,f45,hwb];refine hKK _ ?_;clear hKK KK) | (refine PL.k rfl fun KK hKK=>?_;simp[go_sem,jg,f45,hwb];refine hKK _ ?_;clear hKK KK) | (refine PL.g rfl rfl fun KK hKK=>?_;simp (disch:=omega) [go_sem,L.stepG,f45,hwb];refine hKK _ ?_;clear hKK KK) | (refine PL.g rfl rfl fun KK hKK=>?_;simp[go_sem,L.stepG,f45,hwb];refine hKK _ ?_;clear hKK KK) | (refine PL.done hK ?_;clear hK) | (refine PC.skip (hK _ _ ?_);clear hK) | (refine PC.condT ?_ ?_;focus (simp[go_sem,f45,hwb];done)) | (refine PC.condF ?_ ?_;focus (simp[go_sem,f45,hwb];done)) | (refine PC.exit ?_;first | (refine hK _ _ ?_;clear hK) | (clear hK;refine hK _ _ ?_;clear hK) | (clear hK;clear hK;refine hK _ _ ?_;clear hK)))
   refine PL.nil ⟨w-(i+1),by omega,i+1,by omega,rfl,?_⟩
   exact⟨by simp[go_sem,f1],by rw[o12 1 (by omega)];exact b1,by simp[go_sem,f4],by
    obtain⟨ver,bs',clock,cs,e1,e2,e3,e0,e4,e5⟩:=hq11
    exact⟨ver,bs',clock,cs,e1,(o12 10 (by omega)).trans e2,e3,e0,e4,fun j c x h3 h4=>(e5 j c x h3 h4).mono (o12 _ (by have:=(List.getElem?_eq_some_iff.1 h4).1;omega))⟩,by simp[go_sem,f7],ho12,by simp[go_sem,f28],by simp[go_sem,f29],by simp[go_sem,f8],by simp[go_sem,f44],by simp[go_sem]⟩
  ·have hil':¬(i:Int)<w:=by omega
   have hie:i=w:=by omega
   subst hie
   have ek:(zc7 N i k).set k (List.replicate i (-1)++List.replicate (i-i) 0)=zc7 N i (k+1):=by
    rw[Nat.sub_self,List.replicate_zero,List.append_nil]
    unfold zc7
    exact z5l _ _ hlt
   rw[ek] at ho11
   have hNb:(N:Int)≤1000000:=by omega
   repeat (first | (refine PC.seq fun K hK=>?_) | (refine PC.block ?_) | (refine PC.region ?_) | (refine PL.k rfl fun KK hKK=>?_;simp (disch:=omega) [go_sem,jg,f44,f45,hil',f29,hNb];refine hKK _ ?_;clear hKK KK) | (refine PL.k rfl fun KK hKK=>?_;simp[go_sem,jg,f44,f45,hil',f29,hNb];refine hKK _ ?_;clear hKK KK) | (refine PL.g rfl rfl fun KK hKK=>?_;simp (disch:=omega) [go_sem,L.stepG,f44,f45,hil',f29,hNb];refine hKK _ ?_;clear hKK KK) | (refine PL.g rfl rfl fun KK hKK=>?_;simp[go_sem,L.stepG,f44,f45,hil',f29,hNb];refine hKK _ ?_;clear hKK KK) | (refine PL.done hK ?_;clear hK) | (refine PC.skip (hK _ _ ?_);clear hK) | (refine PC.condT ?_ ?_;focus (simp[go_sem,f44,f45,hil',f29,hNb];done)) | (refine PC.condF ?_ ?_;focus (simp[go_sem,f44,f45,hil',f29,hNb];done)) | (refine PC.exit ?_;first | (refine hK _ _ ?_;clear hK) | (clear hK;refine hK _ _ ?_;clear hK) | (clear hK;clear hK;refine hK _ _ ?_;clear hK)))
   refine PL.nil ⟨N-(k+1),by omega,k+1,by omega,rfl,by simp[go_sem,f1],b1,by simp[go_sem,f4],hq11,by simp[go_sem,f7],ho11,by simp[go_sem,f28],by simp[go_sem]⟩
 ·have hlt':¬(k:Int)<N:=by omega
  have hke:k=N:=by omega
  subst hke
  have ek:zc7 k w k=zu5 k w:=by unfold zc7 zu5;simp
  rw[ek] at ho
  obtain⟨ver,bs',clock,cs,rfl,hH10,hbl,⟨hnd,_⟩,hcl,hrows⟩:=hq7
  repeat (first | (refine PC.seq fun K hK=>?_) | (refine PC.block ?_) | (refine PC.region ?_) | (refine PL.k rfl fun KK hKK=>?_;simp (disch:=omega) [go_sem,jg,f28,f29,hlt',f4];refine hKK _ ?_;clear hKK KK) | (refine PL.k rfl fun KK hKK=>?_;simp[go_sem,jg,f28,f29,hlt',f4];refine hKK _ ?_;clear hKK KK) | (refine PL.g rfl rfl fun KK hKK=>?_;simp (disch:=omega) [go_sem,L.stepG,f28,f29,hlt',f4];refine hKK _ ?_;clear hKK KK) | (refine PL.g rfl rfl fun KK hKK=>?_;simp[go_sem,L.stepG,f28,f29,hlt',f4];refine hKK _ ?_;clear hKK KK) | (refine PL.done hK ?_;clear hK) | (refine PC.skip (hK _ _ ?_);clear hK) | (refine PC.condT ?_ ?_;focus (simp[go_sem,f28,f29,hlt',f4];done)) | (refine PC.condF ?_ ?_;focus (simp[go_sem,f28,f29,hlt',f4];done)) | (refine PC.exit ?_;first | (refine hK _ _ ?_;clear hK) | (clear hK;refine hK _ _ ?_;clear hK) | (clear hK;clear hK;refine hK _ _ ?_;clear hK)))
  refine PL.pe rfl (PE.rangeM (id:=10) (r:=16) (d:=57) (key:=113) (elem:=31) rfl rfl (by simp) (by kernel_rfl) (by decide) hH10 (by simp[go_sem]) ?_)
  repeat (first | (refine PC.seq fun K hK=>?_) | (refine PC.block ?_) | (refine PC.region ?_) | (refine PL.k rfl fun KK hKK=>?_;simp (disch:=omega) [go_sem,jg];refine hKK _ ?_;clear hKK KK) | (refine PL.k rfl fun KK hKK=>?_;simp[go_sem,jg];refine hKK _ ?_;clear hKK KK) | (refine PL.g rfl rfl fun KK hKK=>?_;simp (disch:=omega) [go_sem,L.stepG];refine hKK _ ?_;clear hKK KK) | (refine PL.g rfl rfl fun KK hKK=>?_;simp[go_sem,L.stepG];refine hKK _ ?_;clear hKK KK) | (refine PL.done hK ?_;clear hK) | (refine PC.skip (hK _ _ ?_);clear hK) | (refine PC.condT ?_ ?_;focus (simp[go_sem];done)) | (refine PC.condF ?_ ?_;focus (simp[go_sem];done)) | (refine PC.exit ?_;first | (refine hK _ _ ?_;clear hK) | (clear hK;refine hK _ _ ?_;clear hK) | (clear hK;clear hK;refine hK _ _ ?_;clear hK)))
  generalize hv57:(H8 16).ver+1=v57
  have hkv:∀(j:Nat) (x:Value),((mf.map (·.1)).map plv)[j]? = some x→∃ e,mf[j]? = some e∧x=plv e.1:=fun j x h=>by
   rw[List.getElem?_map,List.getElem?_map] at h
   cases he:mf[j]? with
   | none=>rw[he] at h;cases h
   | some e=>rw[he] at h;cases h;exact⟨e,rfl,rfl⟩
  refine PC.loop (fun f F H'=>∃(seen:Array Nat) (ll:List (List Int)),f=(bs'.filter fun b=>!seen.contains b).length∧Tab k w (fun e=>∃(j b:Nat),mf[j]? = some e∧bs'[j]? = some b∧seen.contains b=true) ll∧F 7 = .ps 14 vo∧ownLL 31 3 (mf.length+1000) I H' 14 (.ps 14 vo) ll∧F 57 = .ps 16 v57∧H' 16 = ⟨v57,some (itB 10 ver clock seen clock)⟩∧H' 10=H8 10∧∀ j,j<mf.length→H' (1000+j)=H8 (1000+j)) (m:=(bs'.filter fun b=>!(#[]:Array Nat).contains b).length)
   ⟨#[],zu5 k w,rfl,by
    have e:(fun e=>∃(j b:Nat),mf[j]? = some e∧bs'[j]? = some b∧(#[]:Array Nat).contains b=true)=fun _=>False:=by funext e;simp
    rw[e];exact Tab.start k w,by simp[go_sem,f7],ho.mono (by simp[PHeap.set]) (fun j hj=>by simp only[PHeap.set];rw[if_neg (by omega)]),by simp[go_sem],by simp[PHeap.set],by simp[PHeap.set],fun j hj=>by simp only[PHeap.set];rw[if_neg (by omega)]⟩ fun f F H9 hI=>?_
  clear ho f7 f1 f28 f29 f4
  obtain⟨seen,ll,rfl,hT,f7,ho,f57,b16,h10,hrw⟩:=hI
  have b10:H9 10 = ⟨ver,some (Qf ((mf.map (·.1)).map plv) bs' clock cs)⟩:=h10.trans hH10
  refine PC.seq fun K hK=>?_
  refine PC.region ?_
  refine PL.pe rfl (PE.nextM (id:=10) (r:=16) rfl (by simp[jn]) b10 b16 (by simp[go_sem,f57]) (fun hall=>?_) fun j b c kk hbj hcj hkj hsn=>?_)
  ·repeat (first | (refine PC.seq fun K hK=>?_) | (refine PC.block ?_) | (refine PC.region ?_) | (refine PL.k rfl fun KK hKK=>?_;simp (disch:=omega) [go_sem,jg,f7];refine hKK _ ?_;clear hKK KK) | (refine PL.k rfl fun KK hKK=>?_;simp[go_sem,jg,f7];refine hKK _ ?_;clear hKK KK) | (refine PL.g rfl rfl fun KK hKK=>?_;simp (disch:=omega) [go_sem,L.stepG,f7];refine hKK _ ?_;clear hKK KK) | (refine PL.g rfl rfl fun KK hKK=>?_;simp[go_sem,L.stepG,f7];refine hKK _ ?_;clear hKK KK) | (refine PL.done hK ?_;clear hK) | (refine PC.skip (hK _ _ ?_);clear hK) | (refine PC.condT ?_ ?_;focus (simp[go_sem,f7];done)) | (refine PC.condF ?_ ?_;focus (simp[go_sem,f7];done)) | (refine PC.exit ?_;first | (refine hK _ _ ?_;clear hK) | (clear hK;refine hK _ _ ?_;clear hK) | (clear hK;clear hK;refine hK _ _ ?_;clear hK)))
   have hS:(fun e=>∃(j b:Nat),mf[j]? = some e∧bs'[j]? = some b∧seen.contains b=true)=fun e=>e∈mf:=by
    funext e
    apply propext
    constructor
    ·rintro⟨j,b,h,_,_⟩;exact List.mem_of_getElem? h
    ·intro h
     obtain⟨j,hj⟩:=List.getElem?_of_mem h
     have hlt:=(List.getElem?_eq_some_iff.1 hj).1
     obtain⟨b,hb⟩:∃ b,bs'[j]? = some b:=⟨_,List.getElem?_eq_getElem (by omega)⟩
     exact⟨j,b,hj,hb,hall b (List.mem_of_getElem? hb)⟩
   rw[hS] at hT
   have ell:ll=z9w bs.length (ts.length+1) mf:=by
    rw[← hN,← hw]
    exact hT.uniq hu (z3t hk)
   rw[← ell]
   refine PC.ret ⟨.inr rfl, .tup [.ps 14 vo,I 0], .tup [ziv ll,I 0],by simp[Y8,Qh,Tryz.results26,go_sem],?_,?_,rfl⟩
   ·exact View.tup rfl fun i p q h1 h2=>by
     match i,h1,h2 with
     | 0,h1,h2=>cases h1;cases h2;exact ho.view (fun _=>rfl) (fun _ => .u _)
     | 1,h1,h2=>cases h1;cases h2;exact View.noP (.u _)
   ·exact .tup _ fun c hc=>by simp at hc;rcases hc with rfl | rfl;exact zab _;exact .u _
  ·obtain⟨e,he,rfl⟩:=hkv j kk hkj
   generalize eH10:H9.set 16 ⟨v57,some (itB 10 ver clock (seen.push b) clock)⟩=H10
   have b16':H10 16 = ⟨v57,some (itB 10 ver clock (seen.push b) clock)⟩:=by rw[← eH10];simp[PHeap.set]
   have o10:∀ j,j≠16→H10 j=H9 j:=fun j hj=>by rw[← eH10];simp[PHeap.set,hj]
   have hofV:ofV (plv e.1) = .agg [I e.1.1,I e.1.2]:=rfl
   rw[hofV]
   repeat (first | (refine PC.seq fun K hK=>?_) | (refine PC.block ?_) | (refine PC.region ?_) | (refine PL.k rfl fun KK hKK=>?_;simp (disch:=omega) [go_sem,jg];refine hKK _ ?_;clear hKK KK) | (refine PL.k rfl fun KK hKK=>?_;simp[go_sem,jg];refine hKK _ ?_;clear hKK KK) | (refine PL.g rfl rfl fun KK hKK=>?_;simp (disch:=omega) [go_sem,L.stepG];refine hKK _ ?_;clear hKK KK) | (refine PL.g rfl rfl fun KK hKK=>?_;simp[go_sem,L.stepG];refine hKK _ ?_;clear hKK KK) | (refine PL.done hK ?_;clear hK) | (refine PC.skip (hK _ _ ?_);clear hK) | (refine PC.condT ?_ ?_;focus (simp[go_sem];done)) | (refine PC.condF ?_ ?_;focus (simp[go_sem];done)) | (refine PC.exit ?_;first | (refine hK _ _ ?_;clear hK) | (clear hK;refine hK _ _ ?_;clear hK) | (clear hK;clear hK;refine hK _ _ ?_;clear hK)))
   refine PL.pe rfl (PE.quiet (by simp[jn]) (PQ.entryM (id:=10) (r:=16) (j:=j) (b:=b) (c:=c) (k:=plv e.1) rfl (by rw[o10 10 (by decide)];exact b10) b16' (by simp[go_sem,f57]) hbj hcj hkj) ?_)
   rw[hofV]
   repeat (first | (refine PC.seq fun K hK=>?_) | (refine PC.block ?_) | (refine PC.region ?_) | (refine PL.k rfl fun KK hKK=>?_;simp (disch:=omega) [go_sem,jg];refine hKK _ ?_;clear hKK KK) | (refine PL.k rfl fun KK hKK=>?_;simp[go_sem,jg];refine hKK _ ?_;clear hKK KK) | (refine PL.g rfl rfl fun KK hKK=>?_;simp (disch:=omega) [go_sem,L.stepG];refine hKK _ ?_;clear hKK KK) | (refine PL.g rfl rfl fun KK hKK=>?_;simp[go_sem,L.stepG];refine hKK _ ?_;clear hKK KK) | (refine PL.done hK ?_;clear hK) | (refine PC.skip (hK _ _ ?_);clear hK) | (refine PC.condT ?_ ?_;focus (simp[go_sem];done)) | (refine PC.condF ?_ ?_;focus (simp[go_sem];done)) | (refine PC.exit ?_;first | (refine hK _ _ ?_;clear hK) | (clear hK;refine hK _ _ ?_;clear hK) | (clear hK;clear hK;refine hK _ _ ?_;clear hK)))
   refine PL.allocA 15 (d:=10) rfl rfl rfl (by simp) Qy rfl rfl fun v15 H11 b15 o11=>?_
   refine PL.storeA (id:=15) rfl rfl (by simp[jn]) (by simp[go_sem];rfl) b15 Vo (v := .agg [I e.1.1,I e.1.2]) (ps:=[I e.1.1,I e.1.2]) (by simp[go_sem]) rfl rfl rfl (by simp) (cs':=[I e.1.1,I e.1.2]) rfl fun H12 b15 o12=>?_
   repeat (first | (refine PC.seq fun K hK=>?_) | (refine PC.block ?_) | (refine PC.region ?_) | (refine PL.k rfl fun KK hKK=>?_;simp (disch:=omega) [go_sem,jg];refine hKK _ ?_;clear hKK KK) | (refine PL.k rfl fun KK hKK=>?_;simp[go_sem,jg];refine hKK _ ?_;clear hKK KK) | (refine PL.g rfl rfl fun KK hKK=>?_;simp (disch:=omega) [go_sem,L.stepG];refine hKK _ ?_;clear hKK KK) | (refine PL.g rfl rfl fun KK hKK=>?_;simp[go_sem,L.stepG];refine hKK _ ?_;clear hKK KK) | (refine PL.done hK ?_;clear hK) | (refine PC.skip (hK _ _ ?_);clear hK) | (refine PC.condT ?_ ?_;focus (simp[go_sem];done)) | (refine PC.condF ?_ ?_;focus (simp[go_sem];done)) | (refine PC.exit ?_;first | (refine hK _ _ ?_;clear hK) | (clear hK;refine hK _ _ ?_;clear hK) | (clear hK;clear hK;refine hK _ _ ?_;clear hK)))
   have hem:e∈mf:=List.mem_of_getElem? he
   have hjl:j<mf.length:=(List.getElem?_eq_some_iff.1 he).1
   obtain⟨hk1,hk2,hk3,hk4,hk5⟩:=hk e hem
   obtain⟨r,er⟩:∃ r:Nat,e.1.1=r:=⟨e.1.1.toNat,by omega⟩
   obtain⟨t,et⟩:∃ t:Nat,e.1.2=t:=⟨e.1.2.toNat,by omega⟩
   have hrl:r<ll.length:=by rw[hT.n];omega
   obtain⟨row,hrow⟩:∃ row,ll[r]? = some row:=⟨_,List.getElem?_eq_getElem hrl⟩
   have hrw':row.length=w:=hT.w r row hrow
   have htlt:t<row.length:=by omega
   have ho12:ownLL 31 3 (mf.length+1000) I H12 14 (.ps 14 vo) ll:=ho.mono (by rw[o12 14 (by decide),o11 14 (by decide),o10 14 (by decide)]) (fun i hi=>by rw[o12 i (by omega),o11 i (by omega),o10 i (by omega)])
   obtain⟨cs2,vo2,vr2,hv2,hH2',hi2,hc2,hr2'⟩:=ownLL.row ho12 hrow (fun e=>by rw[e] at htlt;simp at htlt)
   cases hv2
   rw[Nat.add_right_comm] at hc2 hr2'
   obtain⟨vj,hcv,hjH⟩:=OwnS.pos (hrows j c e hcj he) (fun h=>hk5 (List.eq_nil_of_length_eq_zero h))
   rw[Y2 (fun _=>rfl),Nat.add_comm 1000 j] at hjH
   rw[Nat.add_comm 1000 j] at hcv
   have hjH:H12 (j+1000) = ⟨vj,some (.row 3 1 e.2.length (e.2.map I))⟩:=by rw[o12 _ (by omega),o11 _ (by omega),o10 _ (by omega),Nat.add_comm j 1000,hrw j hjl,Nat.add_comm 1000 j];exact hjH
   have hrlt:r<ll.length:=hrl
   obtain⟨z,hz⟩:∃ z,e.2.headD 0=z:=⟨_,rfl⟩
   have hz0:(e.2.map I)[0]? = some (I z):=by
    cases h2:e.2 with
    | nil=>exact absurd h2 hk5
    | cons a l=>rw[h2] at hz;simp at hz;simp[hz]
   have hel:0<e.2.length:=List.length_pos_iff.2 hk5
   subst hcv
   rw[er,et] at b15
   have hsm:setMany (row.map I) t [I z]=(row.set t z).map I:=by
    apply List.ext_getElem?
    intro i
    have:=yu (row.map I) [I z] t (by simp;omega) i
    rw[this,List.map_set,List.getElem?_set]
    by_cases e:t=i
    ·subst e;simp[htlt]
    ·have h3:¬(t≤i∧i<t+[I z].length):=by simp;omega
     rw[if_neg h3,if_neg e]
   refine A4 7 (show _=PV.ps 14 vo by simp[go_sem,f7]) 10 (show _=PV.pp 15 0 v15 by simp[go_sem]) 11 (show _=PV.ps (j+1000) vj by simp[go_sem]) 57 (show _=PV.ps 16 v57 by simp[go_sem,f57]) fun F f7 f15 f11 f57=>?_
   refine PC.mono (T.PSteps.drawn mixed (
    T.PSteps.q (.ps 14 vo) [] rfl (by simp[jn]) (fun F' H' hF hH=>by have g7:F' 7 = .ps 14 vo:=(hF 7 (by simp[Oper.looksAt,Op.operands])).trans (by simp[go_sem,f7,f15,f11]);exact jc (by simp[go_sem,jp,g7])) <|
    T.PSteps.q (.pp 15 0 v15) [15] rfl (by simp[jn]) (fun F' H' hF hH=>by have g10:F' 10 = .pp 15 0 v15:=(hF 10 (by simp[Oper.looksAt,Op.operands])).trans (by simp[go_sem,f7,f15,f11]);have k15:H' 15 = ⟨v15,some (.box 113 [I r,I t])⟩:=(hH 15 (by simp)).trans b15;exact jc (by simp[go_sem,jp,g10,k15])) <|
    T.PSteps.q (I r) [15] rfl (by simp[jn]) (fun F' H' hF hH=>by have g64:F' 64 = .pp 15 0 v15:=(hF 64 (by simp[Oper.looksAt,Op.operands])).trans (by simp[go_sem,f7,f15,f11]);have k15:H' 15 = ⟨v15,some (.box 113 [I r,I t])⟩:=(hH 15 (by simp)).trans b15;exact jc (by simp[go_sem,jp,g64,k15])) <|
    T.PSteps.q (.pp 14 r vo) [14] rfl (by simp[jn]) (fun F' H' hF hH=>by have g63:F' 63 = .ps 14 vo:=(hF 63 (by simp[Oper.looksAt,Op.operands])).trans (by simp[go_sem,f7,f15,f11]);have g65:F' 65=I r:=(hF 65 (by simp[Oper.looksAt,Op.operands])).trans (by simp[go_sem,f7,f15,f11]);have k14:H' 14 = ⟨vo,some (.row 31 1 ll.length cs2)⟩:=(hH 14 (by simp)).trans hH2';exact jc (zes (i:=r) rfl zdn (by simp only[evP];exact g63) (by simp only[evP];exact g65) k14 hrlt)) <|
    T.PSteps.q (.ps (mf.length+r+1000) vr2) [14] rfl (by simp[jn]) (fun F' H' hF hH=>by have g66:F' 66 = .pp 14 r vo:=(hF 66 (by simp[Oper.looksAt,Op.operands])).trans (by simp[go_sem,f7,f15,f11]);have k14:H' 14 = ⟨vo,some (.row 31 1 ll.length cs2)⟩:=(hH 14 (by simp)).trans hH2';exact jc (by simp[go_sem,jp,g66,q6,ji,k14,qk,hc2])) <|
    T.PSteps.q (.pp 15 1 v15) [15] rfl (by simp[jn]) (fun F' H' hF hH=>by have g10:F' 10 = .pp 15 0 v15:=(hF 10 (by simp[Oper.looksAt,Op.operands])).trans (by simp[go_sem,f7,f15,f11]);have k15:H' 15 = ⟨v15,some (.box 113 [I r,I t])⟩:=(hH 15 (by simp)).trans b15;exact jc (by simp[go_sem,jp,g10,k15])) <|
    T.PSteps.q (I t) [15] rfl (by simp[jn]) (fun F' H' hF hH=>by have g68:F' 68 = .pp 15 1 v15:=(hF 68 (by simp[Oper.looksAt,Op.operands])).trans (by simp[go_sem,f7,f15,f11]);have k15:H' 15 = ⟨v15,some (.box 113 [I r,I t])⟩:=(hH 15 (by simp)).trans b15;exact jc (by simp[go_sem,jp,g68,k15])) <|
    T.PSteps.q (.ps (j+1000) vj) [] rfl (by simp[jn]) (fun F' H' hF hH=>by have g11:F' 11 = .ps (j+1000) vj:=(hF 11 (by simp[Oper.looksAt,Op.operands])).trans (by simp[go_sem,f7,f15,f11]);exact jc (by simp[go_sem,jp,g11])) <|
    T.PSteps.q (.pp (j+1000) 0 vj) [j+1000] rfl (by simp[jn]) (fun F' H' hF hH=>by have g70:F' 70 = .ps (j+1000) vj:=(hF 70 (by simp[Oper.looksAt,Op.operands])).trans (by simp[go_sem,f7,f15,f11]);have kj:H' (j+1000) = ⟨vj,some (.row 3 1 e.2.length (e.2.map I))⟩:=(hH (j+1000) (by simp)).trans hjH;exact jc (zes (i:=0) rfl zal (by simp only[evP];exact g70) rfl kj (by omega))) <|
    T.PSteps.q (I z) [j+1000] rfl (by simp[jn]) (fun F' H' hF hH=>by have g71:F' 71 = .pp (j+1000) 0 vj:=(hF 71 (by simp[Oper.looksAt,Op.operands])).trans (by simp[go_sem,f7,f15,f11]);have kj:H' (j+1000) = ⟨vj,some (.row 3 1 e.2.length (e.2.map I))⟩:=(hH (j+1000) (by simp)).trans hjH;exact jc (by simp[go_sem,jp,g71,q6,ji,kj,qk,hz0])) <|
    T.PSteps.q (.pp (mf.length+r+1000) t vr2) [mf.length+r+1000] rfl (by simp[jn]) (fun F' H' hF hH=>by have g67:F' 67 = .ps (mf.length+r+1000) vr2:=(hF 67 (by simp[Oper.looksAt,Op.operands])).trans (by simp[go_sem,f7,f15,f11]);have g69:F' 69=I t:=(hF 69 (by simp[Oper.looksAt,Op.operands])).trans (by simp[go_sem,f7,f15,f11]);have kr:H' (mf.length+r+1000) = ⟨vr2,some (.row 3 1 row.length (row.map I))⟩:=(hH _ (by simp)).trans hr2';exact jc (zes (i:=t) rfl zal (by simp only[evP];exact g67) (by simp only[evP];exact g69) kr htlt)) <|
    T.PSteps.w (.u undef) [mf.length+r+1000] (mf.length+r+1000) ⟨vr2,some (.row 3 1 row.length ((row.set t z).map I))⟩ rfl (fun F' H' hF hH=>by have g73:F' 73 = .pp (mf.length+r+1000) t vr2:=(hF 73 (by simp[Oper.looksAt,Op.operands])).trans (by simp[go_sem]);have g72:F' 72=I z:=(hF 72 (by simp[Oper.looksAt,Op.operands])).trans (by simp[go_sem]);have kr:H' (mf.length+r+1000) = ⟨vr2,some (.row 3 1 row.length (row.map I))⟩:=(hH _ (.inr rfl)).trans hr2';exact PE.store (id:=mf.length+r+1000) (off:=t) (ver:=vr2) rfl (by simp[jn]) (by simp only[evP];exact g73) (cs:=row.map I) (by simp[ji,kr]) zkm (by simp only[evP];rw[g72];rfl) (by simp only[evP];rw[g72];rfl) (by simp;omega) (bd := .row 3 1 row.length (row.map I)) (by rw[kr]) ⟨rfl,by simp only[evP];rw[g72];exact congrArg (fun cs=>H'.set (mf.length+r+1000) ⟨vr2,some (.row 3 1 row.length cs)⟩) hsm⟩) <|
    T.PSteps.nil) (by kernel_rfl)) fun ex F' H' ⟨h1,h2,h3⟩=>?_
   subst h1;subst h2;subst h3
   have hstep:=hT.step (hk e hem)
   have hS:(fun x=>(∃(j b:Nat),mf[j]? = some x∧bs'[j]? = some b∧seen.contains b=true)∨x=e)=fun x=>∃(j' b':Nat),mf[j']? = some x∧bs'[j']? = some b'∧(seen.push b).contains b'=true:=by
    funext x
    apply propext
    simp only[contains_push,Bool.or_eq_true,beq_iff_eq]
    constructor
    ·rintro(⟨j',b',h1,h2,h3⟩ | rfl)
     ·exact⟨j',b',h1,h2, .inl h3⟩
     ·exact⟨j,b,he,hbj, .inr rfl⟩
    ·rintro⟨j',b',h1,h2,h3 | rfl⟩
     ·exact .inl ⟨j',b',h1,h2,h3⟩
     ·right
      have hjj:j'=j:=by
       have h4:=List.getElem?_eq_some_iff.1 h2
       have h5:=List.getElem?_eq_some_iff.1 hbj
       exact(List.getElem_inj hnd).1 (h4.2.trans h5.2.symm)
      rw[hjj,he] at h1
      cases h1;rfl
   rw[hS] at hstep
   have hms:(bs'.filter fun b'=>!(seen.push b).contains b').length<(bs'.filter fun b'=>!seen.contains b').length:=
    filter_lt _ _ (fun x hx=>by simp only[contains_push,Bool.not_or,Bool.and_eq_true] at hx;exact hx.1) b (by show(!seen.contains b)=true;rw[hsn];rfl) (by simp[contains_push]) bs' (List.mem_of_getElem? hbj)
   have eT:zk8 ll e=ll.set r (row.set t z):=by
    unfold zk8
    rw[er,et,hz]
    simp[List.getD,hrow]
   rw[eT] at hstep
   have hput:=ownLL.put (H:=H12) (H':=H12.set (mf.length+r+1000) ⟨vr2,some (.row 3 1 row.length ((row.set t z).map I))⟩) (z:=r) (vr:=vr2) (v:=row) (zs:=row.set t z) (base:=mf.length+1000) (by omega) hH2' hi2 hrow (by rw[Nat.add_right_comm];exact hc2) (by simp) (by rw[Nat.add_right_comm];simp[PHeap.set]) (fun j hj=>by rw[Nat.add_right_comm] at hj;simp[PHeap.set,hj])
   refine⟨_,hms,seen.push b,_,rfl,hstep,by simp[go_sem,f7],hput,by simp[go_sem,f57],?_,?_,fun i hi=>?_⟩
   ·simp only[PHeap.set];rw[if_neg (by omega),o12 16 (by decide),o11 16 (by decide)];exact b16'
   ·simp only[PHeap.set];rw[if_neg (by omega),o12 10 (by decide),o11 10 (by decide),o10 10 (by decide)];exact h10
   ·simp only[PHeap.set];rw[if_neg (by omega),o12 _ (by omega),o11 _ (by omega),o10 _ (by omega)];exact hrw i hi
end Go.Proofs.YtdllbdlnmjngcaaGreat

namespace Go.Proofs.YtdllbdlnmjngcaaGreat
open Go Go.RowKit L
set_option linter.unusedVariables false
set_option linter.unusedSimpArgs false
set_option maxRecDepth 20000 in
set_option maxHeartbeats 4000000 in
theorem z1p {gV:PV} {ps:List PrP} (h:GrV gV ps) (hr:PCall Tryz.prog 72 [gV] (· = B false)):PCall Tryz.prog 26 [gV] (· = .tup [ziv [],I 3]):=by
 obtain⟨kg,hkg,hlen⟩:=h.len
 obtain⟨ts,bs,rest,wa,hgV⟩:=h.shape
 have hgc:PV.agg gV.cells=gV:=by rw[hgV];rfl
 refine PCall.intro' Tryz.func26 rfl Tryz.ntmps26 (by simp) fun W=>?_
 refine PC.seq fun K hK=>?_
 refine PC.region ?_
 refine PL.boxA 1 (d:=1) rfl rfl rfl (by simp) (v:=gV) (by simp[go_sem]) (h.ok _) rfl fun v1 H1 b1 o1=>?_
 repeat (first | (refine PC.seq fun K hK=>?_) | (refine PC.block ?_) | (refine PC.region ?_) | (refine PL.k rfl fun KK hKK=>?_;simp (disch:=omega) [go_sem,jg];refine hKK _ ?_;clear hKK KK) | (refine PL.k rfl fun KK hKK=>?_;simp[go_sem,jg];refine hKK _ ?_;clear hKK KK) | (refine PL.g rfl rfl fun KK hKK=>?_;simp (disch:=omega) [go_sem,L.stepG];refine hKK _ ?_;clear hKK KK) | (refine PL.g rfl rfl fun KK hKK=>?_;simp[go_sem,L.stepG];refine hKK _ ?_;clear hKK KK) | (refine PL.done hK ?_;clear hK) | (refine PC.skip (hK _ _ ?_);clear hK) | (refine PC.condT ?_ ?_;focus (simp[go_sem];done)) | (refine PC.condF ?_ ?_;focus (simp[go_sem];done)) | (refine PC.exit ?_;first | (refine hK _ _ ?_;clear hK) | (clear hK;refine hK _ _ ?_;clear hK) | (clear hK;clear hK;refine hK _ _ ?_;clear hK)))
 refine PL.ldBox (id:=1) (off:=0) (ver:=v1) (p:=gV) rfl rfl rfl (by simp) (by simp[go_sem]) b1 hkg (by rw[List.drop_zero,Jc hlen,hgc]) ?_
 refine PL.callB rfl rfl (by kernel_rfl) hr (by simp[go_sem]) (by simp[go_sem,h.np]) (by simp[go_sem,View.noP h.np]) ?_
 repeat (first | (refine PC.seq fun K hK=>?_) | (refine PC.block ?_) | (refine PC.region ?_) | (refine PL.k rfl fun KK hKK=>?_;simp (disch:=omega) [go_sem,jg];refine hKK _ ?_;clear hKK KK) | (refine PL.k rfl fun KK hKK=>?_;simp[go_sem,jg];refine hKK _ ?_;clear hKK KK) | (refine PL.g rfl rfl fun KK hKK=>?_;simp (disch:=omega) [go_sem,L.stepG];refine hKK _ ?_;clear hKK KK) | (refine PL.g rfl rfl fun KK hKK=>?_;simp[go_sem,L.stepG];refine hKK _ ?_;clear hKK KK) | (refine PL.done hK ?_;clear hK) | (refine PC.skip (hK _ _ ?_);clear hK) | (refine PC.condT ?_ ?_;focus (simp[go_sem];done)) | (refine PC.condF ?_ ?_;focus (simp[go_sem];done)) | (refine PC.exit ?_;first | (refine hK _ _ ?_;clear hK) | (clear hK;refine hK _ _ ?_;clear hK) | (clear hK;clear hK;refine hK _ _ ?_;clear hK)))
 refine PC.ret ⟨.inr rfl, .tup [.u (.slice none 0 0),I 3], .tup [ziv [],I 3],by simp[Y8,Qh,Tryz.results26,go_sem],?_,?_,rfl⟩
 ·exact View.tup rfl fun i p q h1 h2=>by
   match i,h1,h2 with
   | 0,h1,h2=>cases h1;cases h2;exact View.nil _ _ _
   | 1,h1,h2=>cases h1;cases h2;exact View.noP (.u _)
 ·exact .tup _ fun c hc=>by simp at hc;rcases hc with rfl | rfl;exact zab _;exact .u _
set_option maxRecDepth 20000 in
set_option maxHeartbeats 4000000 in
theorem zx1 {gV:PV} {ps:List PrP} {mf:PM} (h:GrV gV ps) (hr:PCall Tryz.prog 72 [gV] (· = B true)) (hf:zou gV mf) (hnc:(jw mf).2=true):PCall Tryz.prog 26 [gV] (· = .tup [ziv [],I 15]):=by
 obtain⟨kg,hkg,hlen⟩:=h.len
 obtain⟨ts,bs,rest,wa,hgV⟩:=h.shape
 have hgc:PV.agg gV.cells=gV:=by rw[hgV];rfl
 refine PCall.intro' Tryz.func26 rfl Tryz.ntmps26 (by simp) fun W=>?_
 refine PC.seq fun K hK=>?_
 refine PC.region ?_
 refine PL.boxA 1 (d:=1) rfl rfl rfl (by simp) (v:=gV) (by simp[go_sem]) (h.ok _) rfl fun v1 H1 b1 o1=>?_
 repeat (first | (refine PC.seq fun K hK=>?_) | (refine PC.block ?_) | (refine PC.region ?_) | (refine PL.k rfl fun KK hKK=>?_;simp (disch:=omega) [go_sem,jg];refine hKK _ ?_;clear hKK KK) | (refine PL.k rfl fun KK hKK=>?_;simp[go_sem,jg];refine hKK _ ?_;clear hKK KK) | (refine PL.g rfl rfl fun KK hKK=>?_;simp (disch:=omega) [go_sem,L.stepG];refine hKK _ ?_;clear hKK KK) | (refine PL.g rfl rfl fun KK hKK=>?_;simp[go_sem,L.stepG];refine hKK _ ?_;clear hKK KK) | (refine PL.done hK ?_;clear hK) | (refine PC.skip (hK _ _ ?_);clear hK) | (refine PC.condT ?_ ?_;focus (simp[go_sem];done)) | (refine PC.condF ?_ ?_;focus (simp[go_sem];done)) | (refine PC.exit ?_;first | (refine hK _ _ ?_;clear hK) | (clear hK;refine hK _ _ ?_;clear hK) | (clear hK;clear hK;refine hK _ _ ?_;clear hK)))
 refine PL.ldBox (id:=1) (off:=0) (ver:=v1) (p:=gV) rfl rfl rfl (by simp) (by simp[go_sem]) b1 hkg (by rw[List.drop_zero,Jc hlen,hgc]) ?_
 refine PL.callB rfl rfl (by kernel_rfl) hr (by simp[go_sem]) (by simp[go_sem,h.np]) (by simp[go_sem,View.noP h.np]) ?_
 repeat (first | (refine PC.seq fun K hK=>?_) | (refine PC.block ?_) | (refine PC.region ?_) | (refine PL.k rfl fun KK hKK=>?_;simp (disch:=omega) [go_sem,jg];refine hKK _ ?_;clear hKK KK) | (refine PL.k rfl fun KK hKK=>?_;simp[go_sem,jg];refine hKK _ ?_;clear hKK KK) | (refine PL.g rfl rfl fun KK hKK=>?_;simp (disch:=omega) [go_sem,L.stepG];refine hKK _ ?_;clear hKK KK) | (refine PL.g rfl rfl fun KK hKK=>?_;simp[go_sem,L.stepG];refine hKK _ ?_;clear hKK KK) | (refine PL.done hK ?_;clear hK) | (refine PC.skip (hK _ _ ?_);clear hK) | (refine PC.condT ?_ ?_;focus (simp[go_sem];done)) | (refine PC.condF ?_ ?_;focus (simp[go_sem];done)) | (refine PC.exit ?_;first | (refine hK _ _ ?_;clear hK) | (clear hK;refine hK _ _ ?_;clear hK) | (clear hK;clear hK;refine hK _ _ ?_;clear hK)))
 refine PL.ldBox (id:=1) (off:=0) (ver:=v1) (p:=gV) rfl rfl rfl (by simp) (by simp[go_sem]) b1 hkg (by rw[List.drop_zero,Jc hlen,hgc]) ?_
 refine PL.inl rfl rfl (hf H1) (by simp[jn]) (by simp[yk,go_sem]) fun q H3 ⟨hq,o3⟩=>?_
 repeat (first | (refine PC.seq fun K hK=>?_) | (refine PC.block ?_) | (refine PC.region ?_) | (refine PL.k rfl fun KK hKK=>?_;simp (disch:=omega) [go_sem,jg];refine hKK _ ?_;clear hKK KK) | (refine PL.k rfl fun KK hKK=>?_;simp[go_sem,jg];refine hKK _ ?_;clear hKK KK) | (refine PL.g rfl rfl fun KK hKK=>?_;simp (disch:=omega) [go_sem,L.stepG];refine hKK _ ?_;clear hKK KK) | (refine PL.g rfl rfl fun KK hKK=>?_;simp[go_sem,L.stepG];refine hKK _ ?_;clear hKK KK) | (refine PL.done hK ?_;clear hK) | (refine PC.skip (hK _ _ ?_);clear hK) | (refine PC.condT ?_ ?_;focus (simp[go_sem];done)) | (refine PC.condF ?_ ?_;focus (simp[go_sem];done)) | (refine PC.exit ?_;first | (refine hK _ _ ?_;clear hK) | (clear hK;refine hK _ _ ?_;clear hK) | (clear hK;clear hK;refine hK _ _ ?_;clear hK)))
 refine PL.inl rfl rfl (zo8 H3 q mf hq) (by simp[jn]) (by simp[yk,go_sem]) fun c H4 ⟨hc,o4⟩=>?_
 subst hc
 repeat (first | (refine PC.seq fun K hK=>?_) | (refine PC.block ?_) | (refine PC.region ?_) | (refine PL.k rfl fun KK hKK=>?_;simp (disch:=omega) [go_sem,jg];refine hKK _ ?_;clear hKK KK) | (refine PL.k rfl fun KK hKK=>?_;simp[go_sem,jg];refine hKK _ ?_;clear hKK KK) | (refine PL.g rfl rfl fun KK hKK=>?_;simp (disch:=omega) [go_sem,L.stepG];refine hKK _ ?_;clear hKK KK) | (refine PL.g rfl rfl fun KK hKK=>?_;simp[go_sem,L.stepG];refine hKK _ ?_;clear hKK KK) | (refine PL.done hK ?_;clear hK) | (refine PC.skip (hK _ _ ?_);clear hK) | (refine PC.condT ?_ ?_;focus (simp[go_sem];done)) | (refine PC.condF ?_ ?_;focus (simp[go_sem];done)) | (refine PC.exit ?_;first | (refine hK _ _ ?_;clear hK) | (clear hK;refine hK _ _ ?_;clear hK) | (clear hK;clear hK;refine hK _ _ ?_;clear hK)))
 refine PL.allocA 5 (d:=5) rfl rfl rfl (by simp) Qy rfl rfl fun v5 H5 b5 o5=>?_
 refine PL.storeA (id:=5) rfl rfl (by simp[jn]) (by simp[go_sem];rfl) b5 Vo (v := .agg [I (jw mf).1.1,I (jw mf).1.2]) (ps:=[I (jw mf).1.1,I (jw mf).1.2]) (by simp[go_sem]) rfl rfl rfl (by simp) (cs':=[I (jw mf).1.1,I (jw mf).1.2]) rfl fun H6 b5 o6=>?_
 repeat (first | (refine PC.seq fun K hK=>?_) | (refine PC.block ?_) | (refine PC.region ?_) | (refine PL.k rfl fun KK hKK=>?_;simp (disch:=omega) [go_sem,jg,hnc];refine hKK _ ?_;clear hKK KK) | (refine PL.k rfl fun KK hKK=>?_;simp[go_sem,jg,hnc];refine hKK _ ?_;clear hKK KK) | (refine PL.g rfl rfl fun KK hKK=>?_;simp (disch:=omega) [go_sem,L.stepG,hnc];refine hKK _ ?_;clear hKK KK) | (refine PL.g rfl rfl fun KK hKK=>?_;simp[go_sem,L.stepG,hnc];refine hKK _ ?_;clear hKK KK) | (refine PL.done hK ?_;clear hK) | (refine PC.skip (hK _ _ ?_);clear hK) | (refine PC.condT ?_ ?_;focus (simp[go_sem,hnc];done)) | (refine PC.condF ?_ ?_;focus (simp[go_sem,hnc];done)) | (refine PC.exit ?_;first | (refine hK _ _ ?_;clear hK) | (clear hK;refine hK _ _ ?_;clear hK) | (clear hK;clear hK;refine hK _ _ ?_;clear hK)))
 refine PC.ret ⟨.inr rfl, .tup [.u (.slice none 0 0),I 15], .tup [ziv [],I 15],by simp[Y8,Qh,Tryz.results26,go_sem],?_,?_,rfl⟩
 ·exact View.tup rfl fun i p q h1 h2=>by
   match i,h1,h2 with
   | 0,h1,h2=>cases h1;cases h2;exact View.nil _ _ _
   | 1,h1,h2=>cases h1;cases h2;exact View.noP (.u _)
 ·exact .tup _ fun c hc=>by simp at hc;rcases hc with rfl | rfl;exact zab _;exact .u _
end Go.Proofs.YtdllbdlnmjngcaaGreat
