/-
  Texts of this proof, put together: Qi, Qj, Qk, Ql, Qm, Qn, Qo, Qp, Qq, Qr, Qs, Qt, Qu, Qv, Qw, Qx, Qy, Qz, Ra, Rj, Kq, Rk, Rl.
-/

import Derived.Test.YtdllbdlnmjngcaaGreatQ5AcceptOne

namespace Go.Proofs.YtdllbdlnmjngcaaGreat.T
open Go Go.RowKit L
set_option linter.unusedVariables false
set_option linter.unusedSimpArgs false
theorem zmy:∀ {a r:List Int},ve a→ve r→(∀ x∈a,x∈r)→a.length≤r.length∧(r.length≤a.length→a=r)
 | [],r,_,_,_=>⟨by simp,fun h=>by simp at h;simp[h]⟩
 | x :: a,[],_,_,h=>by have:=h x (by simp);simp at this
 | x :: a,y :: r,ha,hr,h=>by
  have ha':=List.pairwise_cons.1 ha
  have hr':=List.pairwise_cons.1 hr
  by_cases e:x=y
  ·subst e
   have hsub:∀ z∈a,z∈r:=fun z hz=>by
    rcases List.mem_cons.1 (h z (by simp[hz])) with h1 | h1
    ·have:=ha'.1 z hz;omega
    ·exact h1
   obtain⟨h1,h2⟩:=zmy ha'.2 hr'.2 hsub
   exact⟨by simp;omega,fun hl=>by rw[h2 (by simpa using hl)]⟩
  ·have hx:x∈r:=by
    rcases List.mem_cons.1 (h x (by simp)) with h1 | h1
    ·exact absurd h1 e
    ·exact h1
   have hyx:=hr'.1 x hx
   have hsub:∀ z∈x :: a,z∈r:=fun z hz=>by
    rcases List.mem_cons.1 (h z hz) with h1 | h1
    ·rcases List.mem_cons.1 hz with h2 | h2
     ·omega
     ·have:=ha'.1 z h2;omega
    ·exact h1
   obtain⟨h1,_⟩:=zmy ha hr'.2 hsub
   exact⟨by simp at h1 ⊢;omega,fun hl=>by simp at h1 hl;omega⟩
termination_by a r=>r.length
def Vu (T:Nat):List (List Int)→Nat
 | []=>0
 | l :: r=>(T-l.length)+Vu T r
theorem zht {T:Nat}:∀ {al:List (List Int)} {k:Nat} {o n:List Int},al[k]? = some o→o.length<n.length→n.length≤T→Vu T (al.set k n)<Vu T al
 | [],k,o,n,h,_,_=>by simp at h
 | l :: r,0,o,n,h,h1,h2=>by simp at h;subst h;simp[Vu];omega
 | l :: r,k+1,o,n,h,h1,h2=>by
  have:=zht (al:=r) (k:=k) (by simpa using h) h1 h2
  simp[Vu];omega
def fiC (em:List Bool) (al:List (List Int)) (p:jh):Prop:=∀ t,inF em al t p.2.1→t∈al.getD p.1.toNat []
theorem z89 (g:jb) (hg:Vd g) (hR:GR g) (hok:GOk g) (em:List Bool) (hE:Tn (fun nn=>q5 nn g) (fun r=>r=em)) (hel:em.length=g.2.1.length) :
  Tn (fun nn=>yo nn g) (fun r=>∃ al,r=some (em,al,())∧al.length=g.2.1.length∧(∀ l∈al,RN g.1.length l)∧∀ p∈g.2.2.1,fiC em al p):=by
 have hp:=hg.p
 have ht:=hok.t
 unfold yo
 refine Tt.bind (Tt.call hR Big.nat) fun b hb=>?_
 subst hb
 refine Tt.ff rfl ?_
 refine Tt.bind (Tt.call hE Big.nat) fun r hr=>?_
 subst hr
 refine Tt.b1 (Tt.bs _ (mkN hg.r (by omega)) ?_)
 refine Tt.loop (fun m s=>∃(more:Bool) (al:List (List Int)),m=2*Vu g.1.length al+(if more=true then 1 else 0)∧s=(more,g,r,al)∧al.length=g.2.1.length∧(∀ l∈al,RN g.1.length l)∧(more=false→∀ p∈g.2.2.1,fiC r al p)) (2*Vu g.1.length (List.replicate g.2.1.length [])+1) Big.nat ⟨true,_,rfl,rfl,by simp,fun l hl=>by rw[List.eq_of_mem_replicate hl];exact RN.nil _,fun h=>by cases h⟩ fun m s ⟨more,al,hm,hs,hl,hrn,hcl⟩ nx hnx=>?_
 subst hs
 dsimp only
 refine Tt.ite (fun c=>?_) (fun c=>Tt.pure ⟨al,rfl,hl,hrn,hcl c⟩)
 subst c
 rw[if_pos rfl] at hm
 refine Tt.loop (fun m s=>∃(k:Nat) (more:Bool) (a1:List (List Int)),k≤g.2.2.1.length∧m=g.2.2.1.length-k∧s=(more,g.2.2.1,(g.2.2.1.length:Int),(k:Int),g,r,a1)∧a1.length=g.2.1.length∧(∀ l∈a1,RN g.1.length l)∧(more=true→Vu g.1.length a1<Vu g.1.length al)∧(more=false→a1=al∧∀ i,i<k→∀ p,g.2.2.1[i]? = some p→fiC r al p)) g.2.2.1.length Big.nat.fst ⟨0,false,al,by omega,by omega,rfl,hl,hrn,fun h=>(by cases h),fun _=>⟨rfl,fun i hi=>by omega⟩⟩ fun m2 s ⟨k,more,a1,hk,hm2,hs,hl1,hrn1,hmt,hmf⟩ ny hny=>?_
 subst hs
 dsimp only
 refine Tt.ite (fun c=>?_) (fun c=>?_)
 ·have c:=of_decide_eq_true c
  have hlt:k<g.2.2.1.length:=by omega
  have hmem:g.2.2.1[k]∈g.2.2.1:=List.getElem_mem hlt
  refine Tt.bs _ (atN hlt) ?_
  have egp:g.2.2.1[k]? = some g.2.2.1[k]:=List.getElem?_eq_getElem hlt
  obtain⟨p,ep⟩:∃ p,g.2.2.1[k]=p:=⟨_,rfl⟩
  rw[ep] at hmem egp ⊢
  obtain⟨l0,l1⟩:=hok.left p hmem
  have hit:=hok.items p hmem
  have hpl:=hok.len p hmem
  obtain⟨q,hq⟩:∃ q:Nat,p.1=q:=⟨p.1.toNat,by omega⟩
  have hql:q<a1.length:=by omega
  refine Tt.J (fun s=>∃(more:Bool) (a1:List (List Int)),s=(more,g.2.2.1,(g.2.2.1.length:Int),(k:Int),g,r,a1)∧a1.length=g.2.1.length∧(∀ l∈a1,RN g.1.length l)∧(more=true→Vu g.1.length a1<Vu g.1.length al)∧(more=false→a1=al∧∀ i,i<k+1→∀ p,g.2.2.1[i]? = some p→fiC r al p)) (fun nz hnz=>?_) (fun s ⟨more,a1,hs,hl1,hrn1,hmt,hmf⟩=>?_)
  ·rw[hq]
   have hq1:RN g.1.length a1[q]:=hrn1 _ (List.getElem_mem hql)
   refine Tt.bs _ (zn hql) (Tt.bs _ (atN hql) ?_)
   refine Tt.bind (Tt.call (z5n g hok r a1 hel hl1 hrn1 p.2.1 (by omega) hit) Big.nat.fst.fst) fun f ⟨f1,f2⟩=>?_
   refine Tt.bind (Tt.call (zaj (n:=g.1.length) (by omega) hq1 f1) Big.nat.fst.fst) fun u ⟨u1,u2⟩=>?_
   refine Tt.bs _ (zn hql) (Tt.bs _ (atN hql) (Tt.bs _ (zn hql) (Tt.bs _ (zgn u hql) ?_)))
   have hrn2:∀ l∈a1.set q u,RN g.1.length l:=fun l h=>by
    rcases List.mem_or_eq_of_mem_set h with h | h
    ·exact hrn1 l h
    ·rw[h];exact u1
   have hl2:(a1.set q u).length=g.2.1.length:=by rw[List.length_set];exact hl1
   obtain⟨s1,s2⟩:=zmy hq1.r u1.r fun x hx=>(u2 x).2 (.inl hx)
   refine Tt.ite (fun c=>hnz _ ⟨true,_,rfl,hl2,hrn2,fun _=>?_,fun h=>by cases h⟩) (fun c=>?_)
   ·have c:=of_decide_eq_true c
    have:=zht (T:=g.1.length) (al:=a1) (k:=q) (o:=a1[q]) (n:=u) (List.getElem?_eq_getElem hql) (by omega) u1.len
    cases hmo:more with
    | true=>have:=hmt hmo;omega
    | false=>have:=(hmf hmo).1;subst this;omega
   ·have c:=of_decide_eq_false c
    have e:=s2 (by omega)
    have es:a1.set q u=a1:=by rw[← e];exact List.set_getElem_self hql
    rw[es]
    refine hnz _ ⟨more,a1,rfl,hl1,hrn1,hmt,fun hmo=>?_⟩
    obtain⟨e1,e2⟩:=hmf hmo
    refine⟨e1,fun i hi x hx=>?_⟩
    by_cases hik:i<k
    ·exact e2 i hik x hx
    ·have:i=k:=by omega
     subst this
     rw[egp] at hx
     cases hx
     intro t htin
     rw[hq,Int.toNat_natCast]
     have h1:t∈u:=(u2 t).2 (.inr ((f2 t).2 (e1▸htin)))
     rw[← e] at h1
     have:al.getD q []=a1[q]:=by rw[← e1];simp[List.getD,hql]
     rw[this];exact h1
  ·subst hs
   dsimp only
   refine Tt.b1 ?_
   rw[wI (by omega) (by omega)]
   exact hny (g.2.2.1.length-(k+1)) _ (by omega) ⟨k+1,more,a1,by omega,rfl,by simp,hl1,hrn1,hmt,hmf⟩
 ·have c:=of_decide_eq_false c
  cases hmo:more with
  | true=>
   have:=hmt hmo
   exact Tt.fst (hnx (2*Vu g.1.length a1+1) _ (by omega) ⟨true,a1,rfl,rfl,hl1,hrn1,fun h=>by cases h⟩)
  | false=>
   obtain⟨e1,e2⟩:=hmf hmo
   subst e1
   exact Tt.fst (hnx (2*Vu g.1.length a1) _ (by omega) ⟨false,a1,rfl,rfl,hl1,hrn1,fun _ p hp=>by
    obtain⟨i,hi⟩:=List.getElem?_of_mem hp
    exact e2 i (by have:=(List.getElem?_eq_some_iff.1 hi).1;omega) p hi⟩)
end Go.Proofs.YtdllbdlnmjngcaaGreat.T

namespace Go.Proofs.YtdllbdlnmjngcaaGreat.T
open Go Go.RowKit L
set_option linter.unusedVariables false
set_option linter.unusedSimpArgs false
theorem z38 (g:jb) (hg:Vd g) (its:List jf) (hl:its.length≤1000000) (hit:∀ x∈its,zfr g x):Tn (fun nn=>Yn nn g its) (fun b=>b=true):=by
 have h1:=hg.t
 have h2:=hg.r
 unfold Yn
 refine Tt.loop (fun m s=>∃ k:Nat,k≤its.length∧m=its.length-k∧s=(its,(its.length:Int),(k:Int),g)) its.length Big.nat ⟨0,by omega,by omega,rfl⟩ fun m s ⟨k,hk,hm,hs⟩ nx hnx=>?_
 subst hs
 dsimp only
 refine Tt.ite (fun c=>?_) (fun c=>Tt.pure rfl)
 have c:=of_decide_eq_true c
 have hlt:k<its.length:=by omega
 have hxm:its[k]∈its:=List.getElem_mem hlt
 refine Tt.bs _ (atN hlt) ?_
 obtain⟨x,ex⟩:∃ x,its[k]=x:=⟨_,rfl⟩
 rw[ex] at hxm ⊢
 obtain⟨i1,i2⟩:=hit x hxm
 refine Tt.J (fun s=>s=((if x.1=true then (g.2.1.length:Int) else g.1.length),its,(its.length:Int),(k:Int),g,x)) (fun ny hny=>?_) (fun s hs=>?_)
 ·exact Tt.ite (fun c=>hny _ (by rw[c];rfl)) (fun c=>hny _ (by rw[c];rfl))
 ·subst hs
  dsimp only
  refine Tt.J (fun s=>s=(its,(its.length:Int),(k:Int),false,g)) (fun nz hnz=>?_) (fun s hs=>?_)
  ·refine Tt.b1 (Tt.ff (decide_eq_false (by omega)) (hnz _ ?_))
   rw[decide_eq_false (by omega)]
  ·subst hs
   dsimp only
   refine Tt.ff rfl (Tt.b1 ?_)
   rw[wI (by omega) (by omega)]
   exact hnx (its.length-(k+1)) _ (by omega) ⟨k+1,by omega,rfl,by simp⟩
theorem zx5 (g:jb) (hg:Vd g) (hok:GOk g) (em:List Bool) (al:List (List Int)) (hel:em.length=g.2.1.length) (hl:al.length=g.2.1.length) (hrn:∀ l∈al,RN g.1.length l) (hK:Tn (fun nn=>yo nn g) (fun r=>r=some (em,al,())))
  (its:List jf) (hil:its.length≤1000) (hit:∀ x∈its,zfr g x):Tn (fun nn=>zgf nn g its) (fun r=>RN g.1.length r∧∀ t,t∈r↔inF em al t its):=by
 unfold zgf zfy
 refine Tt.bind (Tt.call hK Big.nat) fun r hr=>?_
 subst hr
 refine Tt.J (fun s=>s=(its,some (em,al,()),false)) (fun nx hnx=>?_) (fun s hs=>?_)
 ·refine Tt.ff rfl (Tt.bind (Tt.call (z38 g hg its (by omega) hit) Big.nat) fun b hb=>?_)
  subst hb
  exact hnx _ rfl
 ·subst hs
  dsimp only
  refine Tt.ff rfl (Tt.bind (Tt.call (z5n g hok em al hel hl hrn its hil hit) Big.nat) fun r hr=>Tt.pure hr)
theorem z54 (g:jb) (hok:GOk g) (em:List Bool) (hE:Tn (fun nn=>q5 nn g) (fun r=>r=em)) (hel:em.length=g.2.1.length) (its:List jf) (hil:its.length≤1000) (hit:∀ x∈its,zfr g x) :
  Tn (fun nn=>za4 nn g its) (fun b=>b=true↔∀ x∈its,x.1=true∧em[x.2.1.toNat]? = some true):=by
 unfold za4
 refine Tt.bind (Tt.call hE Big.nat) fun r hr=>?_
 subst hr
 have hst:=hok.start
 have hnil:z88 r=some false:=by
  cases r with
  | nil=>simp at hel;omega
  | cons a l=>rfl
 refine Tt.bs _ hnil (Tt.ff rfl ?_)
 refine Tt.loop (fun m s=>∃ k:Nat,k≤its.length∧m=its.length-k∧s=(r,its,(its.length:Int),(k:Int))∧∀ i,i<k→∀ x,its[i]? = some x→x.1=true∧r[x.2.1.toNat]? = some true) its.length Big.nat ⟨0,by omega,by omega,rfl,fun i hi=>by omega⟩ fun m s ⟨k,hk,hm,hs,hall⟩ nx hnx=>?_
 subst hs
 dsimp only
 refine Tt.ite (fun c=>?_) (fun c=>Tt.pure ⟨fun _ x hx=>?_,fun _=>rfl⟩)
 ·have c:=of_decide_eq_true c
  have hlt:k<its.length:=by omega
  have hxm:its[k]∈its:=List.getElem_mem hlt
  refine Tt.bs _ (atN hlt) ?_
  have egx:its[k]? = some its[k]:=List.getElem?_eq_getElem hlt
  obtain⟨x,ex⟩:∃ x,its[k]=x:=⟨_,rfl⟩
  rw[ex] at hxm egx ⊢
  obtain⟨i1,i2⟩:=hit x hxm
  refine Tt.J (fun s=>∃ f,s=(r,its,(its.length:Int),(k:Int),f)∧(f=true→¬(x.1=true∧r[x.2.1.toNat]? = some true))∧(f=false→x.1=true∧r[x.2.1.toNat]? = some true)) (fun ny hny=>?_) (fun s ⟨f,hs,h1,h2⟩=>?_)
  ·refine Tt.b1 (Tt.ite (fun c=>hny _ ⟨true,rfl,fun _ h=>?_,fun h=>by cases h⟩) (fun c=>?_))
   ·rw[h.1] at c;cases c
   ·have cx:x.1=true:=by simpa using c
    rw[if_pos cx] at i2
    have hle:x.2.1.toNat<r.length:=by omega
    refine Tt.ff (decide_eq_false (by omega)) (Tt.ff (decide_eq_false (by omega)) ?_)
    refine Tt.bs _ (zcb i1 (List.getElem?_eq_getElem hle)) (hny _ ⟨_,rfl,fun h=>?_,fun h=>?_⟩)
    ·rw[List.getElem?_eq_getElem hle]
     simp at h
     simp[h]
    ·rw[List.getElem?_eq_getElem hle]
     simp at h
     simp[h,cx]
  ·subst hs
   dsimp only
   refine Tt.ite (fun cf=>Tt.pure ⟨fun h=>(by cases h),fun h=>absurd (h x hxm) (h1 cf)⟩) (fun cf=>Tt.b1 ?_)
   rw[wI (by omega) (by omega)]
   refine hnx (its.length-(k+1)) _ (by omega) ⟨k+1,by omega,rfl,by simp,fun i hi y hy=>?_⟩
   by_cases hik:i<k
   ·exact hall i hik y hy
   ·have:i=k:=by omega
    subst this
    rw[egx] at hy
    cases hy
    exact h2 cf
 ·have c:=of_decide_eq_false c
  obtain⟨i,hi⟩:=List.getElem?_of_mem hx
  exact hall i (by have:=(List.getElem?_eq_some_iff.1 hi).1;omega) x hi
end Go.Proofs.YtdllbdlnmjngcaaGreat.T

namespace Go.Proofs.YtdllbdlnmjngcaaGreat.T
open Go Go.RowKit L
set_option linter.unusedVariables false
set_option linter.unusedSimpArgs false
theorem zvo (g:jb) (hok:GOk g) (em:List Bool) (al:List (List Int)) (hl:al.length=g.2.1.length) (hK:Tn (fun nn=>yo nn g) (fun r=>r=some (em,al,()))) :
  Tn (fun nn=>Y3 nn g) (fun r=>r=al):=by
 have hr:=hok.r
 unfold Y3
 refine Tt.bind (Tt.call hK Big.nat) fun r hr=>?_
 subst hr
 refine Tt.ff rfl (Tt.b1 (Tt.b1 ?_))
 dsimp only
 refine Tt.bs _ (mkN (by omega) (by omega)) (Tt.b1 ?_)
 refine Tt.bs _ rfl (Tt.pure ?_)
 simp
theorem jbu (g:jb) (hR:GR g):Tn (fun nn=>Zw nn g) (fun r=>r=g.1.length):=by
 unfold Zw
 refine Tt.bind (Tt.call hR Big.nat) fun b hb=>?_
 subst hb
 exact Tt.ff rfl (Tt.pure rfl)
def reC (r:List Bool) (p:jh):Prop:=r[p.1.toNat]? = some true→∀ x∈p.2.1,x.1=true→r[x.2.1.toNat]? = some true
theorem z7z {r:List Bool} {i q:Nat} (h:r[i]? = some true):(r.set q true)[i]? = some true:=by
 rw[List.getElem?_set]
 have:=(List.getElem?_eq_some_iff.1 h).1
 split
 ·rename_i e;subst e;simp[this]
 ·exact h
theorem zkn (g:jb) (hg:Vd g) (hR:GR g) (hok:GOk g):Tn (fun nn=>yf nn g) (fun r=>r.length=g.2.1.length∧r[g.2.2.2.1.toNat]? = some true∧∀ p∈g.2.2.1,reC r p):=by
 unfold yf
 refine Tt.bind (Tt.call hR Big.nat) fun b hb=>?_
 subst hb
 refine Tt.ff rfl ?_
 have hp:=hg.p
 refine Tt.b1 (Tt.bs _ (mkN hg.r (by omega)) ?_)
 obtain⟨st,hst⟩:∃ st:Nat,g.2.2.2.1=st:=⟨g.2.2.2.1.toNat,by have:=hok.start;omega⟩
 have hs1:=hok.start.2
 rw[hst]
 have hsl:st<(List.replicate g.2.1.length false).length:=by simp;omega
 refine Tt.bs _ (zn hsl) (Tt.bs _ (zgn true hsl) ?_)
 rw[Int.toNat_natCast]
 refine Tt.loop (fun m s=>∃(more:Bool) (r:List Bool),m=2*Qd r+(if more=true then 1 else 0)∧s=(g.2.2.1,more,r)∧r.length=g.2.1.length∧r[st]? = some true∧(more=false→∀ p∈g.2.2.1,reC r p)) (2*Qd ((List.replicate g.2.1.length false).set st true)+1) Big.nat ⟨true,_,rfl,rfl,by simp,by rw[List.getElem?_set];simp at hsl;simp[hsl],fun h=>by cases h⟩ fun m s ⟨more,r,hm,hs,hl,hrs,hcl⟩ nx hnx=>?_
 subst hs
 dsimp only
 refine Tt.ite (fun c=>?_) (fun c=>Tt.pure ⟨hl,hrs,hcl c⟩)
 subst c
 rw[if_pos rfl] at hm
 refine Tt.loop (fun m s=>∃(k:Nat) (more:Bool) (r1:List Bool),k≤g.2.2.1.length∧m=g.2.2.1.length-k∧s=(g.2.2.1,more,g.2.2.1,(g.2.2.1.length:Int),(k:Int),r1)∧r1.length=g.2.1.length∧r1[st]? = some true∧(more=true→Qd r1<Qd r)∧(more=false→r1=r∧∀ i,i<k→∀ p,g.2.2.1[i]? = some p→reC r p)) g.2.2.1.length Big.nat.fst ⟨0,false,r,by omega,by omega,rfl,hl,hrs,fun h=>(by cases h),fun _=>⟨rfl,fun i hi=>by omega⟩⟩ fun m2 s ⟨k,more,r1,hk,hm2,hs,hl1,hrs1,ht,hf⟩ ny hny=>?_
 subst hs
 dsimp only
 refine Tt.ite (fun c=>?_) (fun c=>?_)
 ·have c:=of_decide_eq_true c
  have hlt:k<g.2.2.1.length:=by omega
  have hmem:g.2.2.1[k]∈g.2.2.1:=List.getElem_mem hlt
  refine Tt.bs _ (atN hlt) ?_
  have egp:g.2.2.1[k]? = some g.2.2.1[k]:=List.getElem?_eq_getElem hlt
  obtain⟨p,ep⟩:∃ p,g.2.2.1[k]=p:=⟨_,rfl⟩
  rw[ep] at hmem egp ⊢
  obtain⟨l0,l1⟩:=hok.left p hmem
  have hit:=hok.items p hmem
  have hpl:=hok.len p hmem
  obtain⟨q,hq⟩:∃ q:Nat,p.1=q:=⟨p.1.toNat,by omega⟩
  refine Tt.J (fun s=>∃(more:Bool) (r1:List Bool),s=(g.2.2.1,more,g.2.2.1,(g.2.2.1.length:Int),(k:Int),r1)∧r1.length=g.2.1.length∧r1[st]? = some true∧(more=true→Qd r1<Qd r)∧(more=false→r1=r∧∀ i,i<k+1→∀ p,g.2.2.1[i]? = some p→reC r p)) (fun nz hnz=>?_) (fun s ⟨more,r1,hs,hl1,hrs1,ht,hf⟩=>?_)
  ·refine Tt.loop (fun m s=>∃(i:Nat) (news:Bool) (r2:List Bool),i≤p.2.1.length∧m=p.2.1.length-i∧s=(news,p.2.1,(p.2.1.length:Int),(i:Int),r2,p)∧r2.length=g.2.1.length∧r2[st]? = some true∧(news=true→Qd r2<Qd r1)∧(news=false→r2=r1∧(r1[q]? = some true→∀ j,j<i→∀ x,p.2.1[j]? = some x→x.1=true→r1[x.2.1.toNat]? = some true))) p.2.1.length Big.nat.fst.fst ⟨0,false,r1,by omega,by omega,rfl,hl1,hrs1,fun h=>(by cases h),fun _=>⟨rfl,fun _ j hj=>by omega⟩⟩ fun m3 s ⟨i,news,r2,hi,hm3,hs,hl2,hrs2,ht2,hf2⟩ nw hnw=>?_
   subst hs
   dsimp only
   have hql:q<r2.length:=by omega
   refine Tt.ite (fun c=>?_) (fun c=>?_)
   ·have c:=of_decide_eq_true c
    have hil:i<p.2.1.length:=by omega
    have hxm:p.2.1[i]∈p.2.1:=List.getElem_mem hil
    have egx:p.2.1[i]? = some p.2.1[i]:=List.getElem?_eq_getElem hil
    refine Tt.J (fun s=>∃(news:Bool) (r2:List Bool),s=(news,p.2.1,(p.2.1.length:Int),(i:Int),r2,p)∧r2.length=g.2.1.length∧r2[st]? = some true∧(news=true→Qd r2<Qd r1)∧(news=false→r2=r1∧(r1[q]? = some true→∀ j,j<i+1→∀ x,p.2.1[j]? = some x→x.1=true→r1[x.2.1.toNat]? = some true))) (fun nv hnv=>?_) (fun s ⟨news,r2,hs,hl2,hrs2,ht2,hf2⟩=>?_)
    ·refine Tt.bs _ (atN hil) ?_
     obtain⟨x,ex⟩:∃ x,p.2.1[i]=x:=⟨_,rfl⟩
     rw[ex] at hxm egx ⊢
     obtain⟨i1,i2⟩:=hit x hxm
     have keep:(r2[q]? = some true→x.1=true→r2[x.2.1.toNat]? = some true)→(news=false→r2=r1∧(r1[q]? = some true→∀ j,j<i+1→∀ x,p.2.1[j]? = some x→x.1=true→r1[x.2.1.toNat]? = some true)):=fun he hnf=>by
      obtain⟨e1,e2⟩:=hf2 hnf
      refine⟨e1,fun hrq j hj y hy hy1=>?_⟩
      by_cases hji:j<i
      ·exact e2 hrq j hji y hy hy1
      ·have:j=i:=by omega
       subst this
       rw[egx] at hy
       cases hy
       rw[← e1] at hrq ⊢;exact he hrq hy1
     refine Tt.J (fun s=>∃ b:Bool,s=(news,p.2.1,(p.2.1.length:Int),(i:Int),b,r2,p,x)∧(b=true→x.1=true∧r2[x.2.1.toNat]? = some false)∧(b=false→r2[q]? = some true→x.1=true→r2[x.2.1.toNat]? = some true)) (fun nu hnu=>?_) (fun s ⟨b,hs,hb1,hb2⟩=>?_)
     ·rw[hq]
      refine Tt.bs _ (zn hql) (Tt.bs _ (atN hql) ?_)
      refine Tt.ite (fun c=>?_) (fun c=>hnu _ ⟨false,rfl,fun h=>(by cases h),fun _ h=>?_⟩)
      ·refine Tt.ite (fun cx=>?_) (fun cx=>hnu _ ⟨false,rfl,fun h=>(by cases h),fun _ _ h=>?_⟩)
       ·rw[if_pos cx] at i2
        obtain⟨z,hz⟩:∃ z:Nat,x.2.1=z:=⟨x.2.1.toNat,by omega⟩
        have hzl:z<r2.length:=by omega
        rw[hz]
        refine Tt.bs _ (zn hzl) (Tt.bs _ (atN hzl) (hnu _ ⟨_,rfl,fun h=>⟨cx,?_⟩,fun h _ _=>?_⟩))
        ·rw[hz,Int.toNat_natCast,List.getElem?_eq_getElem hzl]
         simp at h
         rw[h]
        ·rw[hz,Int.toNat_natCast,List.getElem?_eq_getElem hzl]
         simp at h
         rw[h]
       ·rw[cx] at h;cases h
      ·rw[List.getElem?_eq_getElem hql,c] at h;cases h
     ·subst hs
      dsimp only
      refine Tt.ite (fun cb=>?_) (fun cb=>hnv _ ⟨news,r2,rfl,hl2,hrs2,ht2,keep (hb2 cb)⟩)
      obtain⟨b1,b2⟩:=hb1 cb
      obtain⟨z,hz⟩:∃ z:Nat,x.2.1=z:=⟨x.2.1.toNat,by omega⟩
      rw[hz,Int.toNat_natCast] at b2
      have hzl:=(List.getElem?_eq_some_iff.1 b2).1
      rw[hz]
      refine Tt.bs _ (zn hzl) (Tt.bs _ (zgn true hzl) (hnv _ ⟨true,_,rfl,by simpa using hl2,z7z hrs2,fun _=>?_,fun h=>by cases h⟩))
      have:=zhb b2
      cases hno:news with
      | true=>have:=ht2 hno;omega
      | false=>have:=(hf2 hno).1;subst this;omega
    ·subst hs
     dsimp only
     refine Tt.b1 ?_
     rw[wI (by omega) (by omega)]
     exact hnw (p.2.1.length-(i+1)) _ (by omega) ⟨i+1,news,r2,by omega,rfl,by simp,hl2,hrs2,ht2,hf2⟩
   ·have c:=of_decide_eq_false c
    refine Tt.ite (fun cn=>hnz.fst _ ⟨true,r2,rfl,hl2,hrs2,fun _=>?_,fun h=>by cases h⟩) (fun cn=>?_)
    ·have:=ht2 cn
     cases hmo:more with
     | true=>have:=ht hmo;omega
     | false=>have:=(hf hmo).1;subst this;omega
    ·obtain⟨e1,e2⟩:=hf2 cn
     subst e1
     refine hnz.fst _ ⟨more,r2,rfl,hl2,hrs2,ht,fun hmf=>?_⟩
     obtain⟨e3,e4⟩:=hf hmf
     refine⟨e3,fun j hj y hy=>?_⟩
     by_cases hjk:j<k
     ·exact e4 j hjk y hy
     ·have:j=k:=by omega
      subst this
      rw[egp] at hy
      cases hy
      intro hrq x hx hx1
      obtain⟨u,hu⟩:=List.getElem?_of_mem hx
      rw[hq,Int.toNat_natCast] at hrq
      rw[← e3] at hrq ⊢
      exact e2 hrq u (by have:=(List.getElem?_eq_some_iff.1 hu).1;omega) x hu hx1
  ·subst hs
   dsimp only
   refine Tt.b1 ?_
   rw[wI (by omega) (by omega)]
   exact hny (g.2.2.1.length-(k+1)) _ (by omega) ⟨k+1,more,r1,by omega,rfl,by simp,hl1,hrs1,ht,hf⟩
 ·have c:=of_decide_eq_false c
  cases hmo:more with
  | true=>
   have:=ht hmo
   exact Tt.fst (hnx (2*Qd r1+1) _ (by omega) ⟨true,r1,rfl,rfl,hl1,hrs1,fun h=>by cases h⟩)
  | false=>
   obtain⟨e1,e2⟩:=hf hmo
   subst e1
   exact Tt.fst (hnx (2*Qd r1) _ (by omega) ⟨false,r1,rfl,rfl,hl1,hrs1,fun _ p hp=>by
    obtain⟨i,hi⟩:=List.getElem?_of_mem hp
    exact e2 i (by have:=(List.getElem?_eq_some_iff.1 hi).1;omega) p hi⟩)
end Go.Proofs.YtdllbdlnmjngcaaGreat.T

namespace Go.Proofs.YtdllbdlnmjngcaaGreat.T
open Go Go.RowKit L
set_option linter.unusedVariables false
set_option linter.unusedSimpArgs false
theorem RN.up {n m:Nat} {l:List Int} (h:RN n l) (hm:n≤m):RN m l:=⟨h.r,fun x hx=>by have:=h.b x hx;omega⟩
theorem RN.one {n:Nat} {x:Int} (h0:0≤x) (h1:x<n):RN n [x]:=⟨by simp[ve],fun y hy=>by simp at hy;subst hy;exact⟨h0,h1⟩⟩
theorem zfs {n:Nat} {a b:List Int} (hn:n≤1000) (ha:RN n a) (hb:RN n b):Tn (fun nn=>yp nn a b) (fun r=>RN n r∧∀ x,x∈r↔x∈a∨x∈b):=zaj hn ha hb
def inT (em:List Bool) (al:List (List Int)) (B:List Int) (t:Int):List jf→Prop
 | []=>t∈B
 | x :: l=>if x.1=true then t∈al.getD x.2.1.toNat []∨(em.getD x.2.1.toNat false=true∧inT em al B t l) else t=x.2.1
def foC (em:List Bool) (al B:List (List Int)) (p:jh):Prop:=∀ j x,p.2.1[j]? = some x→x.1=true→∀ t,inT em al (B.getD p.1.toNat []) t (p.2.1.drop (j+1))→t∈B.getD x.2.1.toNat []
theorem z7v {B:List (List Int)} {z st:Nat} {u:List Int} {t:Int} (hz:z<B.length) (h:∀ x∈B[z],x∈u) (ht:t∈B.getD st []):t∈(B.set z u).getD st []:=by
 simp only[List.getD,List.getElem?_set]
 split
 ·rename_i e
  subst e
  simp only[hz,if_true,Option.getD_some]
  simp only[List.getD,List.getElem?_eq_getElem hz,Option.getD_some] at ht
  exact h t ht
 ·simpa [List.getD] using ht
theorem zp6 (g:jb) (hg:Vd g) (hR:GR g) (hok:GOk g) (em re:List Bool) (al:List (List Int)) (hE:Tn (fun nn=>q5 nn g) (fun r=>r=em)) (hel:em.length=g.2.1.length) (hl:al.length=g.2.1.length) (hrn:∀ l∈al,RN g.1.length l) (hA:Tn (fun nn=>Y3 nn g) (fun r=>r=al)) (hRe:Tn (fun nn=>yf nn g) (fun r=>r=re)) (hrl:re.length=g.2.1.length) :
  Tn (fun nn=>Jz nn g) (fun B=>B.length=g.2.1.length∧(∀ l∈B,RN (g.1.length+1) l)∧(g.1.length:Int)∈B.getD g.2.2.2.1.toNat []∧∀ p∈g.2.2.1,re[p.1.toNat]? = some true→foC em al B p):=by
 unfold Jz
 refine Tt.bind (Tt.call hR Big.nat) fun b hb=>?_
 subst hb
 refine Tt.ff rfl ?_
 have hp:=hg.p
 have htk:=hok.t
 refine Tt.bind (Tt.call hA Big.nat) fun r hr=>?_
 subst hr
 refine Tt.bind (Tt.call hE Big.nat) fun e he=>?_
 subst he
 refine Tt.bind (Tt.call hRe Big.nat) fun w hw=>?_
 subst hw
 refine Tt.b1 (Tt.bs _ (mkN hg.r (by omega)) ?_)
 refine Tt.bind (Tt.call (jbu g hR) Big.nat) fun en hen=>?_
 subst hen
 obtain⟨st,hst⟩:∃ st:Nat,g.2.2.2.1=st:=⟨g.2.2.2.1.toNat,by have:=hok.start;omega⟩
 have hs1:=hok.start.2
 rw[hst]
 have hsl:st<(List.replicate g.2.1.length ([]:List Int)).length:=by simp;omega
 refine Tt.bs _ (zn hsl) (Tt.bs _ (zgn _ hsl) ?_)
 rw[Int.toNat_natCast]
 obtain⟨T,hT⟩:∃ T,g.1.length+1=T:=⟨_,rfl⟩
 rw[hT]
 refine Tt.loop (fun m s=>∃(more:Bool) (B:List (List Int)),m=2*Vu T B+(if more=true then 1 else 0)∧s=(more,g,r,e,w,B)∧B.length=g.2.1.length∧(∀ l∈B,RN T l)∧(g.1.length:Int)∈B.getD st []∧(more=false→∀ p∈g.2.2.1,w[p.1.toNat]? = some true→foC e r B p)) (2*Vu T ((List.replicate g.2.1.length []).set st [(g.1.length:Int)])+1) Big.nat ⟨true,_,rfl,rfl,by simp,fun l hl=>?_,?_,fun h=>by cases h⟩ fun m s ⟨more,B,hm,hs,hBl,hBr,hBe,hcl⟩ nx hnx=>?_
 ·rcases List.mem_or_eq_of_mem_set hl with h | h
  ·rw[List.eq_of_mem_replicate h];exact RN.nil _
  ·rw[h];exact RN.one (by omega) (by omega)
 ·simp only[List.getD,List.getElem?_set]
  simp at hsl
  simp[hsl]
 subst hs
 dsimp only
 refine Tt.ite (fun c=>?_) (fun c=>Tt.pure ⟨hBl,hBr,hBe,hcl c⟩)
 subst c
 rw[if_pos rfl] at hm
 refine Tt.loop (fun m s=>∃(k:Nat) (more:Bool) (B1:List (List Int)),k≤g.2.2.1.length∧m=g.2.2.1.length-k∧s=(more,g.2.2.1,(g.2.2.1.length:Int),(k:Int),g,r,e,w,B1)∧B1.length=g.2.1.length∧(∀ l∈B1,RN T l)∧(g.1.length:Int)∈B1.getD st []∧(more=true→Vu T B1<Vu T B)∧(more=false→B1=B∧∀ i,i<k→∀ p,g.2.2.1[i]? = some p→w[p.1.toNat]? = some true→foC e r B p)) g.2.2.1.length Big.nat.fst ⟨0,false,B,by omega,by omega,rfl,hBl,hBr,hBe,fun h=>(by cases h),fun _=>⟨rfl,fun i hi=>by omega⟩⟩ fun m2 s ⟨k,more,B1,hk,hm2,hs,hl1,hr1,he1,ht,hf⟩ ny hny=>?_
 subst hs
 dsimp only
 refine Tt.ite (fun c=>?_) (fun c=>?_)
 ·have c:=of_decide_eq_true c
  have hlt:k<g.2.2.1.length:=by omega
  have hmem:g.2.2.1[k]∈g.2.2.1:=List.getElem_mem hlt
  have egp:g.2.2.1[k]? = some g.2.2.1[k]:=List.getElem?_eq_getElem hlt
  refine Tt.J (fun s=>∃(more:Bool) (B1:List (List Int)),s=(more,g.2.2.1,(g.2.2.1.length:Int),(k:Int),g,r,e,w,B1)∧B1.length=g.2.1.length∧(∀ l∈B1,RN T l)∧(g.1.length:Int)∈B1.getD st []∧(more=true→Vu T B1<Vu T B)∧(more=false→B1=B∧∀ i,i<k+1→∀ p,g.2.2.1[i]? = some p→w[p.1.toNat]? = some true→foC e r B p)) (fun nz hnz=>?_) (fun s ⟨more,B1,hs,hl1,hr1,he1,ht,hf⟩=>?_)
  ·refine Tt.bs _ (atN hlt) ?_
   obtain⟨p,ep⟩:∃ p,g.2.2.1[k]=p:=⟨_,rfl⟩
   rw[ep] at hmem egp ⊢
   obtain⟨l0,l1⟩:=hok.left p hmem
   have hit:=hok.items p hmem
   have hpl:=hok.len p hmem
   obtain⟨q,hq⟩:∃ q:Nat,p.1=q:=⟨p.1.toNat,by omega⟩
   have hqw:q<w.length:=by omega
   have hql:q<B1.length:=by omega
   refine Tt.J (fun s=>∃(news:Bool) (B2:List (List Int)),s=(more,g.2.2.1,(g.2.2.1.length:Int),(k:Int),news,g,r,e,w,B2)∧B2.length=g.2.1.length∧(∀ l∈B2,RN T l)∧(g.1.length:Int)∈B2.getD st []∧(news=true→Vu T B2<Vu T B1)∧(news=false→B2=B1∧(w[q]? = some true→foC e r B1 p))) (fun nw hnw=>?_) (fun s ⟨news,B2,hs,hl2,hr2,he2,ht2,hf2⟩=>?_)
   ·rw[hq]
    refine Tt.bs _ (atN hqw) ?_
    refine Tt.ite (fun cw=>?_) (fun cw=>hnw _ ⟨false,B1,rfl,hl1,hr1,he1,fun h=>(by cases h),fun _=>⟨rfl,fun h=>?_⟩⟩)
    ·refine Tt.bs _ (zn hql) (Tt.bs _ (atN hql) (Tt.b1 ?_))
     rw[wI (by omega) (by omega)]
     refine Tt.loop (fun m s=>∃(i:Nat) (tail:List Int) (news:Bool) (B2:List (List Int)),i≤p.2.1.length∧m=i∧s=(tail,(i:Int)-1,r,e,w,B2,p,news)∧RN T tail∧(∀ t,t∈tail↔inT e r B1[q] t (p.2.1.drop i))∧B2.length=g.2.1.length∧(∀ l∈B2,RN T l)∧(g.1.length:Int)∈B2.getD st []∧(news=true→Vu T B2<Vu T B1)∧(news=false→B2=B1∧∀ j,i≤j→∀ x,p.2.1[j]? = some x→x.1=true→∀ t,inT e r B1[q] t (p.2.1.drop (j+1))→t∈B1.getD x.2.1.toNat [])) p.2.1.length Big.nat.fst.fst ⟨p.2.1.length,B1[q],false,B1,by omega,rfl,rfl,hr1 _ (List.getElem_mem hql),fun t=>by rw[List.drop_length];rfl,hl1,hr1,he1,fun h=>(by cases h),fun _=>⟨rfl,fun j hj x hx=>by rw[List.getElem?_eq_none (by omega)] at hx;cases hx⟩⟩ fun m3 s ⟨i,tail,news,B2,hi,hm3,hs,htr,htm,hl2,hr2,he2,ht2,hf2⟩ nv hnv=>?_
     subst hs
     dsimp only
     refine Tt.ite (fun c=>?_) (fun c=>?_)
     ·have c:=of_decide_eq_true c
      obtain⟨i,rfl⟩:∃ i',i=i'+1:=⟨i-1,by omega⟩
      have ei:((i+1:Nat):Int)-1=(i:Int):=by omega
      rw[ei]
      have hil:i<p.2.1.length:=by omega
      have hxm:p.2.1[i]∈p.2.1:=List.getElem_mem hil
      have egx:p.2.1[i]? = some p.2.1[i]:=List.getElem?_eq_getElem hil
      have hdr:p.2.1.drop i=p.2.1[i] :: p.2.1.drop (i+1):=List.drop_eq_getElem_cons hil
      refine Tt.J (fun s=>∃(tail:List Int) (news:Bool) (B2:List (List Int)),s=(tail,(i:Int),r,e,w,B2,p,news)∧RN T tail∧(∀ t,t∈tail↔inT e r B1[q] t (p.2.1.drop i))∧B2.length=g.2.1.length∧(∀ l∈B2,RN T l)∧(g.1.length:Int)∈B2.getD st []∧(news=true→Vu T B2<Vu T B1)∧(news=false→B2=B1∧∀ j,i≤j→∀ x,p.2.1[j]? = some x→x.1=true→∀ t,inT e r B1[q] t (p.2.1.drop (j+1))→t∈B1.getD x.2.1.toNat [])) (fun nu hnu=>?_) (fun s ⟨tail,news,B2,hs,htr,htm,hl2,hr2,he2,ht2,hf2⟩=>?_)
      ·refine Tt.bs _ (atN hil) ?_
       obtain⟨x,ex⟩:∃ x,p.2.1[i]=x:=⟨_,rfl⟩
       rw[ex] at hxm egx hdr ⊢
       obtain⟨i1,i2⟩:=hit x hxm
       refine Tt.ite (fun cx=>?_) (fun cx=>?_)
       ·have cx:x.1=false:=by simpa using cx
        rw[cx] at i2
        simp only[Bool.false_eq_true,if_false] at i2
        refine hnu _ ⟨_,news,B2,rfl,RN.one i1 (by omega),fun t=>?_,hl2,hr2,he2,ht2,fun hn=>?_⟩
        ·rw[hdr];simp[inT,cx]
        ·obtain⟨e1,e2⟩:=hf2 hn
         refine⟨e1,fun j hj y hy hy1=>?_⟩
         by_cases hji:i+1≤j
         ·exact e2 j hji y hy hy1
         ·have:j=i:=by omega
          subst this
          rw[egx] at hy
          cases hy
          rw[cx] at hy1;cases hy1
       ·have cx:x.1=true:=by simpa using cx
        rw[if_pos cx] at i2
        obtain⟨z,hz⟩:∃ z:Nat,x.2.1=z:=⟨x.2.1.toNat,by omega⟩
        have hzl:z<B2.length:=by omega
        have hze:z<e.length:=by omega
        have hzr:z<r.length:=by omega
        rw[hz]
        refine Tt.bs _ (zn hzl) (Tt.bs _ (atN hzl) ?_)
        have hBz:RN T B2[z]:=hr2 _ (List.getElem_mem hzl)
        have hrz:RN T r[z]:=(hrn _ (List.getElem_mem hzr)).up (by omega)
        refine Tt.bind (Tt.call (zfs (n:=T) (by omega) hBz htr) Big.nat.fst.fst.fst) fun u ⟨u1,u2⟩=>?_
        obtain⟨s1,s2⟩:=zmy hBz.r u1.r fun y hy=>(u2 y).2 (.inl hy)
        have hl3:(B2.set z u).length=g.2.1.length:=by rw[List.length_set];exact hl2
        have hr3:∀ l∈B2.set z u,RN T l:=fun l h=>by
         rcases List.mem_or_eq_of_mem_set h with h | h
         ·exact hr2 l h
         ·rw[h];exact u1
        have he3:(g.1.length:Int)∈(B2.set z u).getD st []:=z7v hzl (fun y hy=>(u2 y).2 (.inl hy)) he2
        refine Tt.J (fun s=>∃(news:Bool),s=((z:Int),u,r,e,w,B2,news)∧(news=true→Vu T (B2.set z u)<Vu T B1)∧(news=false→B2.set z u=B1∧B2=B1∧B2[z]=u∧∀ j,i+1≤j→∀ x,p.2.1[j]? = some x→x.1=true→∀ t,inT e r B1[q] t (p.2.1.drop (j+1))→t∈B1.getD x.2.1.toNat [])) (fun nt hnt=>?_) (fun s ⟨news,hs,ht3,hf3⟩=>?_)
        ·refine Tt.ite (fun cn=>hnt _ ⟨true,rfl,fun _=>?_,fun h=>by cases h⟩) (fun cn=>?_)
         ·have h1:=ht2 cn
          by_cases hlu:B2[z].length<u.length
          ·have:=zht (T:=T) (al:=B2) (k:=z) (o:=B2[z]) (n:=u) (List.getElem?_eq_getElem hzl) hlu u1.len
           omega
          ·have e1:=s2 (by omega)
           have es:B2.set z u=B2:=by rw[← e1];exact List.set_getElem_self hzl
           rw[es];exact h1
         ·obtain⟨e1,e2⟩:=hf2 cn
          refine Tt.bs _ (zn hzl) (Tt.bs _ (atN hzl) (hnt _ ⟨_,rfl,fun h=>?_,fun h=>?_⟩))
          ·have h:=of_decide_eq_true h
           have:=zht (T:=T) (al:=B2) (k:=z) (o:=B2[z]) (n:=u) (List.getElem?_eq_getElem hzl) (by omega) u1.len
           rw[e1] at this ⊢
           omega
          ·have h:=of_decide_eq_false h
           have e3:=s2 (by omega)
           have es:B2.set z u=B2:=by rw[← e3];exact List.set_getElem_self hzl
           exact⟨es.trans e1,e1,e3,e2⟩
        ·subst hs
         dsimp only
         have hdone:(news=false→B2.set z u=B1∧∀ j,i≤j→∀ x,p.2.1[j]? = some x→x.1=true→∀ t,inT e r B1[q] t (p.2.1.drop (j+1))→t∈B1.getD x.2.1.toNat []):=fun hn=>by
          obtain⟨e1,e2,e3,e4⟩:=hf3 hn
          refine⟨e1,fun j hj y hy hy1 t hin=>?_⟩
          by_cases hji:i+1≤j
          ·exact e4 j hji y hy hy1 t hin
          ·have:j=i:=by omega
           subst this
           rw[egx] at hy
           cases hy
           rw[hz,Int.toNat_natCast]
           have hzl':z<B1.length:=by rw[← e2];exact hzl
           have h1:t∈u:=(u2 t).2 (.inr ((htm t).2 hin))
           have h2:B1.getD z []=u:=by rw[← e2,← e3];simp[List.getD,hzl]
           rw[h2];exact h1
         refine Tt.bs _ (zn hzl) (Tt.bs _ (zgn u hzl) (Tt.bs _ (atN hze) ?_))
         refine Tt.ite (fun ce=>?_) (fun ce=>?_)
         ·refine Tt.bs _ (atN hzr) ?_
          refine Tt.bind (Tt.call (zfs (n:=T) (by omega) htr hrz) Big.nat.fst.fst.fst) fun v ⟨v1,v2⟩=>?_
          refine hnu _ ⟨v,news,_,rfl,v1,fun t=>?_,hl3,hr3,he3,ht3,hdone⟩
          rw[v2,htm,hdr]
          simp only[inT,cx,if_true,hz,Int.toNat_natCast,List.getD,List.getElem?_eq_getElem hze,List.getElem?_eq_getElem hzr,Option.getD_some,ce,true_and]
          exact or_comm
         ·refine Tt.bs _ (atN hzr) ?_
          refine hnu _ ⟨_,news,_,rfl,hrz,fun t=>?_,hl3,hr3,he3,ht3,hdone⟩
          rw[hdr]
          simp only[inT,cx,if_true,hz,Int.toNat_natCast,List.getD,List.getElem?_eq_getElem hze,List.getElem?_eq_getElem hzr,Option.getD_some,ce,Bool.false_eq_true,false_and,or_false]
      ·subst hs
       dsimp only
       refine Tt.b1 ?_
       rw[wI (by omega) (by omega)]
       exact hnv i _ (by omega) ⟨i,tail,news,B2,by omega,rfl,rfl,htr,htm,hl2,hr2,he2,ht2,hf2⟩
     ·have c:=of_decide_eq_false c
      have:i=0:=by omega
      subst this
      refine hnw.fst _ ⟨news,B2,rfl,hl2,hr2,he2,ht2,fun hn=>?_⟩
      obtain⟨e1,e2⟩:=hf2 hn
      refine⟨e1,fun _ j x hx hx1 t hin=>e2 j (by omega) x hx hx1 t ?_⟩
      have:B1.getD p.1.toNat []=B1[q]:=by rw[hq];simp[List.getD,hql]
      rwa [this] at hin
    ·rw[List.getElem?_eq_getElem hqw,cw] at h;cases h
   ·subst hs
    dsimp only
    refine Tt.ite (fun cn=>hnz _ ⟨true,B2,rfl,hl2,hr2,he2,fun _=>?_,fun h=>by cases h⟩) (fun cn=>?_)
    ·have:=ht2 cn
     cases hmo:more with
     | true=>have:=ht hmo;omega
     | false=>have:=(hf hmo).1;subst this;omega
    ·obtain⟨e1,e2⟩:=hf2 cn
     subst e1
     refine hnz _ ⟨more,B2,rfl,hl2,hr2,he2,ht,fun hmf=>?_⟩
     obtain⟨e3,e4⟩:=hf hmf
     refine⟨e3,fun j hj y hy=>?_⟩
     by_cases hjk:j<k
     ·exact e4 j hjk y hy
     ·have:j=k:=by omega
      subst this
      rw[egp] at hy
      cases hy
      rw[hq,Int.toNat_natCast,← e3]
      exact e2
  ·subst hs
   dsimp only
   refine Tt.b1 ?_
   rw[wI (by omega) (by omega)]
   exact hny (g.2.2.1.length-(k+1)) _ (by omega) ⟨k+1,more,B1,by omega,rfl,by simp,hl1,hr1,he1,ht,hf⟩
 ·have c:=of_decide_eq_false c
  cases hmo:more with
  | true=>
   have:=ht hmo
   exact Tt.fst (hnx (2*Vu T B1+1) _ (by omega) ⟨true,B1,rfl,rfl,hl1,hr1,he1,fun h=>by cases h⟩)
  | false=>
   obtain⟨e1,e2⟩:=hf hmo
   subst e1
   exact Tt.fst (hnx (2*Vu T B1) _ (by omega) ⟨false,B1,rfl,rfl,hl1,hr1,he1,fun _ p hp=>by
    obtain⟨i,hi⟩:=List.getElem?_of_mem hp
    exact e2 i (by have:=(List.getElem?_eq_some_iff.1 hi).1;omega) p hi⟩)
end Go.Proofs.YtdllbdlnmjngcaaGreat.T

namespace Go.Proofs.YtdllbdlnmjngcaaGreat.T
open Go Go.RowKit L
set_option linter.unusedVariables false
set_option linter.unusedSimpArgs false
theorem zsy {em:List Bool} {al:List (List Int)} {B:List Int} {t:Int}:∀ {its:List jf},inT em al B t its↔inF em al t its∨((∀ x∈its,x.1=true∧em[x.2.1.toNat]? = some true)∧t∈B)
 | []=>by simp[inT,inF]
 | x :: l=>by
  have ih:=zsy (em:=em) (al:=al) (B:=B) (t:=t) (its:=l)
  have he:em.getD x.2.1.toNat false=true↔em[x.2.1.toNat]? = some true:=by
   simp only[List.getD]
   cases em[x.2.1.toNat]? with
   | none=>simp
   | some b=>simp
  cases hx:x.1 with
  | false=>
   simp only[inT,inF,hx,Bool.false_eq_true,if_false]
   constructor
   ·exact .inl
   ·rintro(h | ⟨h,_⟩)
    ·exact h
    ·have:=(h x (by simp)).1;rw[hx] at this;cases this
  | true=>
   simp only[inT,inF,hx,if_true,he,ih,List.mem_cons,forall_eq_or_imp,true_and]
   constructor
   ·rintro(h | ⟨h1,h2 | ⟨h2,h3⟩⟩)
    ·exact .inl (.inl h)
    ·exact .inl (.inr ⟨h1,h2⟩)
    ·exact .inr ⟨⟨h1,h2⟩,h3⟩
   ·rintro((h | ⟨h1,h2⟩) | ⟨⟨h1,h2⟩,h3⟩)
    ·exact .inl h
    ·exact .inr ⟨h1, .inl h2⟩
    ·exact .inr ⟨h1, .inr ⟨h2,h3⟩⟩
theorem zxi (g:jb) (hg:Vd g) (hok:GOk g) (em:List Bool) (al B:List (List Int)) (hE:Tn (fun nn=>q5 nn g) (fun r=>r=em)) (hel:em.length=g.2.1.length) (hl:al.length=g.2.1.length) (hrn:∀ l∈al,RN g.1.length l) (hK:Tn (fun nn=>yo nn g) (fun r=>r=some (em,al,()))) (hBl:B.length=g.2.1.length) (hBr:∀ l∈B,RN (g.1.length+1) l)
  (p:jh) (hp:p∈g.2.2.1):Tn (fun nn=>yj nn g B p) (fun r=>RN (g.1.length+1) r∧∀ t,t∈r↔inT em al (B.getD p.1.toNat []) t p.2.1):=by
 have ht:=hok.t
 have hpl:=hok.len p hp
 have hit:=hok.items p hp
 obtain⟨l0,l1⟩:=hok.left p hp
 unfold yj
 refine Tt.bind (Tt.call (zx5 g hg hok em al hel hl hrn hK p.2.1 (by omega) hit) Big.nat) fun r ⟨r1,r2⟩=>?_
 refine Tt.J (fun r=>RN (g.1.length+1) r∧∀ t,t∈r↔inT em al (B.getD p.1.toNat []) t p.2.1) (fun nx hnx=>?_) (fun s hs=>Tt.pure hs)
 refine Tt.bind (Tt.call (z54 g hok em hE hel p.2.1 (by omega) hit) Big.nat) fun v hv=>?_
 refine Tt.ite (fun c=>?_) (fun c=>hnx _ ⟨r1.up (by omega),fun t=>?_⟩)
 ·have hbl:p.1.toNat<B.length:=by omega
  refine Tt.bs _ (zcb l0 (List.getElem?_eq_getElem hbl)) ?_
  refine Tt.bind (Tt.call (zaj (n:=g.1.length+1) (by omega) (r1.up (by omega)) (hBr _ (List.getElem_mem hbl))) Big.nat) fun u ⟨u1,u2⟩=>hnx _ ⟨u1,fun t=>?_⟩
  rw[u2,r2,zsy]
  have:B.getD p.1.toNat []=B[p.1.toNat]:=by simp[List.getD,hbl]
  rw[this]
  have:=hv.1 c
  constructor
  ·rintro(h | h)
   ·exact .inl h
   ·exact .inr ⟨this,h⟩
  ·rintro(h | ⟨_,h⟩)
   ·exact .inl h
   ·exact .inr h
 ·rw[r2,zsy]
  constructor
  ·exact .inl
  ·rintro(h | ⟨h,_⟩)
   ·exact h
   ·have:=hv.2 h;rw[c] at this;cases this
end Go.Proofs.YtdllbdlnmjngcaaGreat.T

namespace Go.Proofs.YtdllbdlnmjngcaaGreat.T
open Go Go.RowKit L
set_option linter.unusedVariables false
set_option linter.unusedSimpArgs false
theorem zv8 {α β:Type} {p:Nat→α→Option β} {R:α→β→Prop}:∀ {l:List α},(∀ a∈l,Tn (fun nn=>p nn a) (R a))→Tn (fun nn=>z0e (p nn) l) (fun(r:List β)=>r.length=l.length∧∀(i:Nat) (a:α),l[i]? = some a→∃ b,r[i]? = some b∧R a b)
 | [],_=>Tt.pure ⟨rfl,fun i a h=>by simp at h⟩
 | a :: l,h=>by
  refine Tt.bind (h a (by simp)) fun b hb=>?_
  refine Tt.bind (zv8 (p:=p) (R:=R) (l:=l) fun x hx=>h x (by simp[hx])) fun r ⟨r1,r2⟩=>Tt.pure ⟨by simp[r1],fun i x hx=>?_⟩
  cases i with
  | zero=>simp at hx;subst hx;exact⟨b,rfl,hb⟩
  | succ i=>simpa using r2 i x (by simpa using hx)
theorem zuf {a b:Int×Int}:plq a b=true↔a=b:=⟨jcj a b,fun h=>by subst h;simp[plq,ple]⟩
theorem znh {k:Int×Int}:∀ {ks:List (Int×Int)},kIx plq k ks=none→k∉ks
 | [],_=>by simp
 | e :: es,h=>by
  unfold kIx at h
  split at h
  ·cases h
  ·rename_i he
   have:=znh (Option.map_eq_none_iff.1 h)
   intro hm
   rcases List.mem_cons.1 hm with h1 | h1
   ·exact he (zuf.2 h1)
   ·exact this h1
structure zyv (C:Int×Int→Int→Prop) (c:Nat) (m:PM):Prop where
 nd:(m.map (·.1)).Nodup
 ne:∀ e∈m,e.2≠[]
 len:∀ e∈m,e.2.length≤c
 says:∀ e∈m,∀ i∈e.2,C e.1 i
def zfi (m:PM) (a:Int×Int) (i:Int):Prop:=∃ e∈m,e.1=a∧i∈e.2
theorem add_ok {C:Int×Int→Int→Prop} {c:Nat} {m:PM} {a:Int×Int} {v:Int} (h:zyv C c m) (hc:c≤1000000) (hv:C a v):∃ m',zoq plq 8 m a v=some m'∧zyv C (c+1) m'∧zfi m' a v∧∀ b i,zfi m b i→zfi m' b i:=by
 unfold zoq
 cases hk:kIx plq a (m.map (·.1)) with
 | none=>
  have hn:=znh hk
  rw[z1e (by simp) (by simp)]
  refine⟨m++[(a,[v])],rfl,⟨?_,?_,?_,?_⟩,⟨(a,[v]),by simp,rfl,by simp⟩,?_⟩
  ·rw[List.map_append,List.nodup_append]
   refine⟨h.nd,by simp,fun x hx y hy=>?_⟩
   simp at hy
   subst hy
   intro e
   subst e
   exact hn hx
  ·intro e he
   rcases List.mem_append.1 he with h1 | h1
   ·exact h.ne e h1
   ·simp at h1;subst h1;simp
  ·intro e he
   rcases List.mem_append.1 he with h1 | h1
   ·have:=h.len e h1;omega
   ·simp at h1;subst h1;simp
  ·intro e he
   rcases List.mem_append.1 he with h1 | h1
   ·exact h.says e h1
   ·simp at h1;subst h1
    intro i hi
    simp at hi;subst hi;exact hv
  ·rintro b i ⟨e,he,e1,e2⟩
   exact⟨e,by simp[he],e1,e2⟩
 | some j=>
  obtain⟨x,hx,he⟩:=zef hk
  have he:=zuf.1 he
  subst he
  rw[List.getElem?_map] at hx
  obtain⟨e,hj,hxe⟩:=Option.map_eq_some_iff.1 hx
  have hem:=List.mem_of_getElem? hj
  have hjl:=(List.getElem?_eq_some_iff.1 hj).1
  have hl:=h.len e hem
  simp only[hj]
  rw[z1e (by simp;omega) (by simp;omega)]
  refine⟨m.set j (e.1,e.2++[v]),rfl,⟨?_,?_,?_,?_⟩,⟨(e.1,e.2++[v]),List.mem_of_getElem? (i:=j) (by rw[List.getElem?_set];simp[hjl]),hxe,by simp⟩,?_⟩
  ·have:(m.set j (e.1,e.2++[v])).map (·.1)=m.map (·.1):=by
    rw[List.map_set]
    apply List.ext_getElem?
    intro i
    rw[List.getElem?_set]
    split
    ·rename_i e2
     subst e2
     simp only[List.length_map,hjl,if_true]
     rw[List.getElem?_map,hj];rfl
    ·rfl
   rw[this];exact h.nd
  ·intro y hy
   rcases List.mem_or_eq_of_mem_set hy with h1 | h1
   ·exact h.ne y h1
   ·subst h1;simp
  ·intro y hy
   rcases List.mem_or_eq_of_mem_set hy with h1 | h1
   ·have:=h.len y h1;omega
   ·subst h1;simp;omega
  ·intro y hy
   rcases List.mem_or_eq_of_mem_set hy with h1 | h1
   ·exact h.says y h1
   ·subst h1
    intro i hi
    rcases List.mem_append.1 hi with h2 | h2
    ·exact h.says e hem i h2
    ·simp at h2;subst h2;simp only;rw[hxe];exact hv
  ·rintro b i ⟨y,hy,y1,y2⟩
   obtain⟨n,hn⟩:=List.getElem?_of_mem hy
   by_cases hnj:j=n
   ·subst hnj
    rw[hj] at hn
    cases hn
    exact⟨(e.1,e.2++[v]),List.mem_of_getElem? (i:=j) (by rw[List.getElem?_set];simp[hjl]),y1,by simp[y2]⟩
   ·exact⟨y,List.mem_of_getElem? (i:=n) (by rw[List.getElem?_set,if_neg hnj];exact hn),y1,y2⟩
theorem zrp {C:Int×Int→Int→Prop} {i left:Int}:∀ {ts:List Int} {c:Nat} {m:PM},zyv C c m→c+ts.length≤1000000→(∀ t∈ts,C (left,t) i)→∃ m',zfo i left ts m=some m'∧zyv C (c+ts.length) m'∧(∀ t∈ts,zfi m' (left,t) i)∧∀ b j,zfi m b j→zfi m' b j
 | [],c,m,h,_,_=>⟨m,rfl,h,by simp,fun _ _ h=>h⟩
 | t :: ts,c,m,h,hc,hC=>by
  simp only[List.length_cons] at hc
  obtain⟨m1,h1,h2,h3,h4⟩:=add_ok (a:=(left,t)) (v:=i) h (by omega) (hC t (by simp))
  obtain⟨m2,k1,k2,k3,k4⟩:=zrp (ts:=ts) h2 (by omega) fun x hx=>hC x (by simp[hx])
  refine⟨m2,by simp only[zfo,h1,Option.bind_some,k1],by rw[show c+(t :: ts).length=c+1+ts.length by simp;omega];exact k2,fun x hx=>?_,fun b j hb=>k4 b j (h4 b j hb)⟩
  rcases List.mem_cons.1 hx with e | e
  ·subst e;exact k4 _ _ h3
  ·exact k3 x e
theorem zsj {C:Int×Int→Int→Prop} {pr:Nat→List Int} {W:Nat} (hW:∀ i,(pr i).length≤W):∀ {ls:List Int} {i c:Nat} {m:PM},zyv C c m→c+W*ls.length≤1000000→(∀ k l,ls[k]? = some l→∀ t∈pr (i+k),C (l,t) ((i+k:Nat):Int))→∃ m',zcy pr i ls m=some m'∧zyv C (c+W*ls.length) m'∧(∀ k l,ls[k]? = some l→∀ t∈pr (i+k),zfi m' (l,t) ((i+k:Nat):Int))∧∀ b j,zfi m b j→zfi m' b j
 | [],i,c,m,h,_,_=>⟨m,rfl,h,by simp,fun _ _ h=>h⟩
 | a :: ls,i,c,m,h,hc,hC=>by
  have hw:=hW i
  simp only[List.length_cons,Nat.mul_add,Nat.mul_one] at hc
  obtain⟨m1,h1,h2,h3,h4⟩:=zrp (i:=(i:Int)) (left:=a) (ts:=pr i) h (by omega) fun t ht=>by simpa using hC 0 a rfl t (by simpa using ht)
  have h2':zyv C (c+W) m1:=⟨h2.nd,h2.ne,fun e he=>by have:=h2.len e he;omega,h2.says⟩
  obtain⟨m2,k1,k2,k3,k4⟩:=zsj hW (ls:=ls) (i:=i+1) h2' (by omega) fun k l hk t ht=>by
   have:=hC (k+1) l (by simpa using hk) t (by simpa [Nat.add_assoc,Nat.add_comm 1 k] using ht)
   simpa [Nat.add_assoc,Nat.add_comm 1 k] using this
  refine⟨m2,by simp only[zcy,h1,Option.bind_some,k1],⟨k2.nd,k2.ne,fun e he=>by have:=k2.len e he;simp only[List.length_cons,Nat.mul_add,Nat.mul_one];omega,k2.says⟩,fun k l hk t ht=>?_,fun b j hb=>k4 b j (h4 b j hb)⟩
  cases k with
  | zero=>
   simp at hk
   subst hk
   exact k4 _ _ (by simpa using h3 t (by simpa using ht))
  | succ k=>
   have:=k3 k l (by simpa using hk) t (by simpa [Nat.add_assoc,Nat.add_comm 1 k] using ht)
   simpa [Nat.add_assoc,Nat.add_comm 1 k] using this
end Go.Proofs.YtdllbdlnmjngcaaGreat.T

namespace Go.Proofs.YtdllbdlnmjngcaaGreat.T
open Go Go.RowKit L
set_option linter.unusedVariables false
set_option linter.unusedSimpArgs false
theorem Tt.val {ι α:Type} {D:Fi ι} {f:ι→Option α} {Q:α→Prop} (h:Tt D f Q):∃ r,Tt D f (fun x=>x=r)∧Q r:=let ⟨r,h1,h2⟩:=h;⟨r,⟨r,h1,rfl⟩,h2⟩
structure Kn (g:jb) (em re:List Bool) (al B:List (List Int)):Prop where
 hE:Tn (fun nn=>q5 nn g) (fun r=>r=em)
 hel:em.length=g.2.1.length
 emc:∀ p∈g.2.2.1,emC em p
 hRe:Tn (fun nn=>yf nn g) (fun r=>r=re)
 hrl:re.length=g.2.1.length
 rest:re[g.2.2.2.1.toNat]? = some true
 recl:∀ p∈g.2.2.1,reC re p
 hK:Tn (fun nn=>yo nn g) (fun r=>r=some (em,al,()))
 hl:al.length=g.2.1.length
 hrn:∀ l∈al,RN g.1.length l
 fic:∀ p∈g.2.2.1,fiC em al p
 hF:Tn (fun nn=>Jz nn g) (fun r=>r=B)
 hBl:B.length=g.2.1.length
 hBr:∀ l∈B,RN (g.1.length+1) l
 hBe:(g.1.length:Int)∈B.getD g.2.2.2.1.toNat []
 foc:∀ p∈g.2.2.1,re[p.1.toNat]? = some true→foC em al B p
theorem Kn_of (g:jb) (hg:Vd g) (hR:GR g) (hok:GOk g):∃ em re al B,Kn g em re al B:=by
 obtain⟨em,hE,hel,emc⟩:=(z45 g hg hR hok).val
 obtain⟨re,hRe,hrl,rest,rec⟩:=(zkn g hg hR hok).val
 obtain⟨k,hK,al,rfl,hl,hrn,fic⟩:=(z89 g hg hR hok em hE hel).val
 obtain⟨B,hF,hBl,hBr,hBe,foc⟩:=(zp6 g hg hR hok em re al hE hel hl hrn (zvo g hok em al hl hK) hRe hrl).val
 exact⟨em,re,al,B,hE,hel,emc,hRe,hrl,rest,rec,hK,hl,hrn,fic,hF,hBl,hBr,hBe,foc⟩
def plC (g:jb) (em:List Bool) (al B:List (List Int)) (a:Int×Int) (i:Int):Prop:=∃(k:Nat) (p:jh),i=(k:Int)∧g.2.2.1[k]? = some p∧a.1=p.1∧0≤a.2∧a.2<(g.1.length:Int)+1∧inT em al (B.getD p.1.toNat []) a.2 p.2.1
structure z6z (g:jb) (em:List Bool) (al B:List (List Int)) (m:PM):Prop where
 pm:zyv (plC g em al B) 1000000 m
 has:∀(k:Nat) (p:jh),g.2.2.1[k]? = some p→∀ t,inT em al (B.getD p.1.toNat []) t p.2.1→zfi m (p.1,t) (k:Int)
theorem zro {g:jb} {em re:List Bool} {al B:List (List Int)} (hg:Vd g) (hok:GOk g) (hk:Kn g em re al B):Tn (fun nn=>zke nn g) (z6z g em al B):=by
 have ht:=hok.t
 have hp:=hok.p
 unfold zke
 refine Tt.bind (Tt.call hk.hF Big.nat) fun b hb=>?_
 subst hb
 refine Tt.bind (Tt.call (zv8 (p:=fun nn p=>yj nn g b p) (R:=fun p r=>RN (g.1.length+1) r∧∀ t,t∈r↔inT em al (b.getD p.1.toNat []) t p.2.1) fun p hp=>zxi g hg hok em al b hk.hE hk.hel hk.hl hk.hrn hk.hK hk.hBl hk.hBr p hp) Big.nat) fun rows ⟨r1,r2⟩=>?_
 have hrow:∀ l∈rows,RN (g.1.length+1) l:=fun l hl=>by
  obtain⟨i,hi⟩:=List.getElem?_of_mem hl
  have hil:=(List.getElem?_eq_some_iff.1 hi).1
  obtain⟨b,e1,e2,_⟩:=r2 i _ (List.getElem?_eq_getElem (by omega))
  rw[hi] at e1
  cases e1
  exact e2
 refine Tt.tt ?_ ?_
 ·rw[Bool.and_eq_true,List.all_eq_true]
  exact⟨decide_eq_true (by omega),fun l hl=>decide_eq_true (by have:=(hrow l hl).len;omega)⟩
 have hget:∀(k:Nat) (p:jh),g.2.2.1[k]? = some p→RN (g.1.length+1) (rows.getD k [])∧∀ t,t∈rows.getD k []↔inT em al (b.getD p.1.toNat []) t p.2.1:=fun k p hp=>by
  obtain⟨r,e1,e2,e3⟩:=r2 k p hp
  simp only[List.getD,e1,Option.getD_some]
  exact⟨e2,e3⟩
 obtain⟨m,h1,h2,h3,_⟩:=zsj (C:=plC g em al b) (pr:=fun i=>rows.getD i []) (W:=65) (fun i=>by
  simp only[List.getD]
  cases hi:rows[i]? with
  | none=>simp
  | some l=>have:=(hrow l (List.mem_of_getElem? hi)).len;simp only[Option.getD_some];omega) (ls:=g.2.2.1.map (·.1)) (i:=0) (c:=0) (m:=[]) ⟨by simp,by simp,by simp,by simp⟩ (by simp;omega) (fun k l hl t ht=>by
   rw[List.getElem?_map] at hl
   obtain⟨p,hp,rfl⟩:=Option.map_eq_some_iff.1 hl
   rw[Nat.zero_add] at ht ⊢
   obtain⟨e1,e2⟩:=hget k p hp
   have:=e1.b t ht
   exact⟨k,p,rfl,hp,rfl,this.1,by have:=this.2;simp only;omega,(e2 t).1 ht⟩)
 simp only[h1]
 refine Tt.pure (Q:=z6z g em al b) ⟨⟨h2.nd,h2.ne,fun e he=>?_,h2.says⟩,fun k p hp t ht=>?_⟩
 ·have:=h2.len e he
  simp at this
  omega
 ·have:=h3 k p.1 (by rw[List.getElem?_map,hp];rfl) t (by rw[Nat.zero_add];exact((hget k p hp).2 t).2 ht)
  rwa [Nat.zero_add] at this
def NC (g:jb) (em:List Bool) (al B:List (List Int)):Prop:=∀(k k':Nat) (p p':jh),g.2.2.1[k]? = some p→g.2.2.1[k']? = some p'→p.1=p'.1→∀ t,inT em al (B.getD p.1.toNat []) t p.2.1→inT em al (B.getD p'.1.toNat []) t p'.2.1→k=k'
theorem zjs {α β:Type} {f:α→β}:∀ {l:List α},(l.map f).Nodup→∀ {x y:α},x∈l→y∈l→f x=f y→x=y
 | [],_,x,y,hx,_,_=>by cases hx
 | a :: l,h,x,y,hx,hy,e=>by
  rw[List.map_cons,List.nodup_cons] at h
  rcases List.mem_cons.1 hx with h1 | h1
  ·rcases List.mem_cons.1 hy with h2 | h2
   ·rw[h1,h2]
   ·exact absurd (by rw[← h1,e];exact List.mem_map.2 ⟨y,h2,rfl⟩) h.1
  ·rcases List.mem_cons.1 hy with h2 | h2
   ·exact absurd (by rw[← h2,← e];exact List.mem_map.2 ⟨x,h1,rfl⟩) h.1
   ·exact zjs h.2 h1 h2 e
theorem nc_of {g:jb} {em:List Bool} {al B:List (List Int)} {m:PM} (h:z6z g em al B m) (hc:(jw m).2=false):NC g em al B:=by
 intro k k' p p' hp hp' e t h1 h2
 obtain⟨x,x1,x2,x3⟩:=h.has k p hp t h1
 obtain⟨y,y1,y2,y3⟩:=h.has k' p' hp' t h2
 have hxy:=zjs h.pm.nd x1 y1 (by rw[x2,y2,e])
 subst hxy
 rcases zdu m with ⟨_,h5⟩ | ⟨h5,_⟩
 ·have:=h5 x x1
  match hx:x.2 with
  | []=>rw[hx] at x3;cases x3
  | [a]=>
   rw[hx] at x3 y3
   simp at x3 y3
   omega
  | a :: b :: l=>rw[hx] at this;simp at this;omega
 ·rw[hc] at h5;cases h5
theorem zzv {g:jb} {em:List Bool} {al B:List (List Int)} {m:PM} (h:z6z g em al B m):∃ r,zi6 m=some r∧(r.1.1=0→NC g em al B):=by
 unfold zi6
 cases hc:(jw m).2 with
 | false=>exact⟨_,rfl,fun _=>nc_of h hc⟩
 | true=>
  rcases zdu m with ⟨h5,_⟩ | ⟨_,⟨e,h6,h7,h8⟩,_⟩
  ·rw[h5] at hc;cases hc
  ·have:∃ z,zgt m (jw m).1=some z:=by
    unfold zgt
    cases hk:kIx plq (jw m).1 (m.map (·.1)) with
    | none=>exact absurd (by rw[← h7];exact List.mem_map.2 ⟨e,h6,rfl⟩) (znh hk)
    | some j=>
     obtain⟨x,hx,he⟩:=zef hk
     have he:=zuf.1 he
     rw[List.getElem?_map] at hx
     obtain⟨e',hj,hxe⟩:=Option.map_eq_some_iff.1 hx
     have:=zjs h.pm.nd (List.mem_of_getElem? hj) h6 (by rw[h7,he];exact hxe)
     subst this
     simp only[Option.bind_some,hj]
     exact⟨_,List.getElem?_eq_getElem h8⟩
   obtain⟨z,hz⟩:=this
   exact⟨_,by rw[hz];rfl,fun h=>by cases h⟩
theorem z4e {g:jb} {em re:List Bool} {al B:List (List Int)} (hg:Vd g) (hR:GR g) (hok:GOk g) (hk:Kn g em re al B):Tn (fun nn=>Jb nn g) (fun r=>r.1.1=0→NC g em al B):=by
 have hp:=hok.p
 unfold Jb
 refine Tt.bind (Tt.call hR Big.nat) fun b hb=>?_
 subst hb
 refine Tt.tt (decide_eq_true (by omega)) (Tt.tt rfl ?_)
 refine Tt.bind (Tt.call (zro hg hok hk) Big.nat) fun m hm=>?_
 obtain⟨r,h1,h2⟩:=zzv hm
 exact Tt.bs r h1 (Tt.pure h2)
theorem z4u {g:jb} {em:List Bool} {al B:List (List Int)} {m:PM} (hok:GOk g) (h:z6z g em al B m):zpt g m=true:=by
 have ht:=hok.t
 have hr:=hok.r
 unfold zpt
 simp only[Bool.and_eq_true,List.all_eq_true,decide_eq_true_eq]
 refine⟨by omega,by omega,fun e he=>?_,h.pm.nd⟩
 have hne:=h.pm.ne e he
 obtain⟨i,l,hl⟩:∃ i l,e.2=i :: l:=by
  cases hh:e.2 with
  | nil=>exact absurd hh hne
  | cons i l=>exact⟨i,l,rfl⟩
 obtain⟨k,p,_,hp,h1,h2,h3,_⟩:=h.pm.says e he i (by simp[hl])
 obtain⟨l0,l1⟩:=hok.left p (List.mem_of_getElem? hp)
 exact⟨by omega,by omega,h2,h3,hne⟩
theorem z1r {g:jb} {em re:List Bool} {al B:List (List Int)} (hg:Vd g) (hR:GR g) (hok:GOk g) (hk:Kn g em re al B):Tn (fun nn=>z6 nn g) (fun _=>True):=by
 have hp:=hok.p
 unfold z6
 refine Tt.bind (Tt.call hR Big.nat) fun b hb=>?_
 subst hb
 refine Tt.tt (decide_eq_true (by omega)) (Tt.tt rfl ?_)
 refine Tt.bind (Tt.call (zro hg hok hk) Big.nat) fun m hm=>?_
 exact Tt.ite (fun _=>Tt.pure trivial) fun _=>Tt.tt (z4u hok hm) (Tt.pure trivial)
end Go.Proofs.YtdllbdlnmjngcaaGreat.T

namespace Go.Proofs.YtdllbdlnmjngcaaGreat.T
open Go Go.RowKit L
set_option linter.unusedVariables false
set_option linter.unusedSimpArgs false
section
variable {em re : List Bool} {al B : List (List Int)} {E : List Int} {t : Int}
theorem zmw {Bp:List Int}:∀ {a l:List jf},inT em al E t (a++l)→(inT em al E t l→t∈Bp)→inT em al Bp t a
 | [],l,h,hB=>hB h
 | x :: a,l,h,hB=>by
  simp only[List.cons_append,inT] at h ⊢
  split at h
  ·rename_i hx
   rw[if_pos hx]
   rcases h with h | ⟨h1,h2⟩
   ·exact .inl h
   ·exact .inr ⟨h1,zmw h2 hB⟩
  ·rename_i hx
   rw[if_neg hx];exact h
theorem z11:∀ {a l:List jf},inT em al E t (a++l)→inF em al t a∨((∀ x∈a,x.1=true∧em[x.2.1.toNat]? = some true)∧inT em al E t l)
 | [],l,h => .inr ⟨by simp,h⟩
 | x :: a,l,h=>by
  simp only[List.cons_append,inT] at h
  simp only[inF]
  split at h
  ·rename_i hx
   rw[if_pos hx]
   rcases h with h | ⟨h1,h2⟩
   ·exact .inl (.inl h)
   ·rcases z11 h2 with h3 | ⟨h3,h4⟩
    ·exact .inl (.inr ⟨h1,h3⟩)
    ·refine .inr ⟨fun y hy=>?_,h4⟩
     rcases List.mem_cons.1 hy with e | e
     ·subst e
      refine⟨hx,?_⟩
      simp only[List.getD] at h1
      cases hh:em[y.2.1.toNat]? with
      | none=>rw[hh] at h1;cases h1
      | some b=>rw[hh] at h1;simp at h1;rw[h1]
     ·exact h3 y e
  ·rename_i hx
   rw[if_neg hx];exact .inl h
variable (em re al B E) in
def Wf:List jf→Prop
 | []=>True
 | x :: l=>(x.1=true→re[x.2.1.toNat]? = some true∧∀ t,inT em al E t l→t∈B.getD x.2.1.toNat [])∧Wf l
theorem z5p {Bp:List Int}:∀ {a l:List jf},(∀(j:Nat) (x:jf),a[j]? = some x→x.1=true→re[x.2.1.toNat]? = some true∧∀ t,inT em al Bp t (a.drop (j+1))→t∈B.getD x.2.1.toNat [])→(∀ t,inT em al E t l→t∈Bp)→Wf em re al B E l→Wf em re al B E (a++l)
 | [],l,_,_,h=>h
 | x :: a,l,hf,hB,h=>⟨fun hx=>by
   obtain⟨h1,h2⟩:=hf 0 x rfl hx
   exact⟨h1,fun t ht=>h2 t (by simpa using zmw ht (hB t))⟩,z5p (fun j y hy hy1=>by simpa using hf (j+1) y (by simpa using hy) hy1) hB h⟩
end
def zss (g:jb) (w:List Int):Int:=w.headD g.1.length
abbrev En (g:jb):List Int:=[(g.1.length:Int)]
structure DQ (g:jb) (em re:List Bool) (al B:List (List Int)) (l:List jf) (w:List Int) (n:Int):Prop where
 lo:0≤n
 hi:n≤2
 lk:0<n→inT em al (En g) (zss g w) l
 one:Wf em re al B (En g) l→n≤1
section
variable {ι : Type} {D : Fi ι} {φ : ι → Nat}
theorem z80 {g:jb} {em re:List Bool} {al B:List (List Int)} {rec:ι→(jb×(List jf)×(List Int)×Int)→Option Int} {l:List jf} {w:List Int}:Tt D (fun i=>qy (φ i) (rec i) g l w ((0:Nat):Int)) (DQ g em re al B l w):=by
 unfold qy
 exact Tt.tt rfl (Tt.pure ⟨by omega,by omega,fun h=>by omega,fun _=>by omega⟩)
theorem z7m (hφ:Big D φ) {g:jb} {em re:List Bool} {al B:List (List Int)} (hok:GOk g) (hk:Kn g em re al B) (hn:NC g em al B) {rec:ι→(jb×(List jf)×(List Int)×Int)→Option Int} {f:Nat} (hf:f≤30)
  (hrec:∀ l w,(∀ x∈l,zfr g x)→l.length+16*f≤1000→Tt D (fun i=>rec i (g,l,w,(f:Int))) (DQ g em re al B l w)) {l:List jf} {w:List Int} (hl:∀ x∈l,zfr g x) (hll:l.length+16*(f+1)≤1000) :
  Tt D (fun i=>qy (φ i) (rec i) g l w ((f+1:Nat):Int)) (DQ g em re al B l w):=by
 have hp:=hok.p
 unfold qy
 refine Tt.ff (decide_eq_false (by omega)) ?_
 match l,hl,hll with
 | [],hl,hll=>
  refine Tt.tt rfl ?_
  refine Tt.ite (fun c=>Tt.pure ⟨by omega,by omega,fun _=>?_,fun _=>by omega⟩) (fun c=>Tt.pure ⟨by omega,by omega,fun h=>by omega,fun _=>by omega⟩)
  have c:=of_decide_eq_true c
  have:w=[]:=List.length_eq_zero_iff.1 (by omega)
  subst this
  simp[inT,zss]
 | x :: l,hl,hll=>
  simp only[List.length_cons] at hll
  have hxo:=hl x (by simp)
  have hat:atL (x :: l) 0=some x:=rfl
  have hsl:zb3 (x :: l) (some 1) none=some l:=by unfold zb3 bdN;simp
  refine Tt.ff (decide_eq_false (by simp;omega)) ?_
  refine Tt.bs _ hat ?_
  refine Tt.ite (fun cx=>?_) (fun cx=>?_)
  ·have cx:x.1=false:=by simpa using cx
   refine Tt.J (fun s=>∃ b,s=(x :: l,w,((f+1:Nat):Int),b,g)∧(b=false→∃ v,w=x.2.1 :: v)) (fun nx hnx=>?_) (fun s ⟨b,hs,hb⟩=>?_)
   ·refine Tt.b1 (Tt.ite (fun c=>hnx _ ⟨true,rfl,fun h=>by cases h⟩) (fun c=>?_))
    have c:=of_decide_eq_false c
    match w,c with
    | [],c=>simp at c
    | y :: v,c=>
     refine Tt.bs y rfl (Tt.bs x hat (hnx _ ⟨_,rfl,fun h=>?_⟩))
     have h:=of_decide_eq_false h
     have:y=x.2.1:=by omega
     exact⟨v,by rw[this]⟩
   ·subst hs
    dsimp only
    refine Tt.ite (fun c=>Tt.pure ⟨by omega,by omega,fun h=>by omega,fun _=>by omega⟩) (fun c=>?_)
    obtain⟨v,rfl⟩:=hb c
    have hsw:zb3 (x.2.1 :: v) (some 1) none=some v:=by unfold zb3 bdN;simp
    refine Tt.bs _ hsl (Tt.bs _ hsw ?_)
    rw[wI (by omega) (by omega)]
    have ef:((f+1:Nat):Int)-1=(f:Int):=by omega
    rw[ef]
    refine Tt.bind (hrec l v (fun y hy=>hl y (by simp[hy])) (by omega)) fun n hn=>Tt.pure ⟨hn.lo,hn.hi,fun _=>?_,fun h=>hn.one h.2⟩
    simp[inT,cx,zss]
  ·have cx:x.1=true:=by simpa using cx
   have hxb:=hxo.1
   refine Tt.loop (fun m s=>∃(k:Nat) (n:Int),k≤g.2.2.1.length∧m=g.2.2.1.length-k∧s=(x :: l,w,((f+1:Nat):Int),n,(k:Int),g)∧0≤n∧n≤3∧(0<n→∃(j:Nat) (p:jh),j<k∧g.2.2.1[j]? = some p∧p.1=x.2.1∧inT em al (En g) (zss g w) (p.2.1++l))∧(Wf em re al B (En g) (x :: l)→n≤1)) g.2.2.1.length hφ ⟨0,0,by omega,by omega,rfl,by omega,by omega,fun h=>by omega,fun _=>by omega⟩ fun m s ⟨k,n,hkl,hm,hs,n0,n3,nl,n1⟩ nx hnx=>?_
   subst hs
   dsimp only
   refine Tt.J (fun s=>∃ b,s=(x :: l,w,((f+1:Nat):Int),n,(k:Int),b,g)∧(b=true→k<g.2.2.1.length∧n<2)) (fun ny hny=>?_) (fun s ⟨b,hs,hb⟩=>?_)
   ·refine Tt.b1 (Tt.ite (fun c=>hny _ ⟨_,rfl,fun h=>?_⟩) (fun c=>hny _ ⟨false,rfl,fun h=>by cases h⟩))
    have c:=of_decide_eq_true c
    have h:=of_decide_eq_true h
    exact⟨by omega,h⟩
   ·subst hs
    dsimp only
    refine Tt.ite (fun c=>?_) (fun c=>Tt.pure ⟨by omega,by omega,fun h=>?_,fun h=>by have:=n1 h;omega⟩)
    ·obtain⟨hlt,hn2⟩:=hb c
     refine Tt.J (fun s=>∃ n':Int,s=(x :: l,w,((f+1:Nat):Int),n',(k:Int),g)∧0≤n'∧n'≤3∧(0<n'→∃(j:Nat) (p:jh),j<k+1∧g.2.2.1[j]? = some p∧p.1=x.2.1∧inT em al (En g) (zss g w) (p.2.1++l))∧(Wf em re al B (En g) (x :: l)→n'≤1)) (fun nz hnz=>?_) (fun s ⟨n',hs,m0,m3,ml,m1⟩=>?_)
     ·have hmem:g.2.2.1[k]∈g.2.2.1:=List.getElem_mem hlt
      have egp:g.2.2.1[k]? = some g.2.2.1[k]:=List.getElem?_eq_getElem hlt
      refine Tt.bs _ (atN hlt) (Tt.bs _ hat ?_)
      refine Tt.ite (fun ce=>?_) (fun ce=>hnz _ ⟨n,rfl,n0,n3,fun h=>by
       obtain⟨j,p,j1,j2⟩:=nl h
       exact⟨j,p,by omega,j2⟩,n1⟩)
      refine Tt.bs _ (atN hlt) ?_
      obtain⟨p,ep⟩:∃ p,g.2.2.1[k]=p:=⟨_,rfl⟩
      rw[ep] at hmem egp ce ⊢
      have ce:=of_decide_eq_true ce
      have hit:=hok.items p hmem
      have hpl:=hok.len p hmem
      refine Tt.bs _ (V7 (by simp;omega) (by omega)) (Tt.bs _ hsl (Tt.bs _ (V7 (by simp;omega) (by omega)) ?_))
      rw[wI (by omega) (by omega),List.nil_append]
      have ef:((f+1:Nat):Int)-1=(f:Int):=by omega
      rw[ef]
      refine Tt.bind (Tt.fst (hrec (p.2.1++l) w (fun y hy=>by
       rcases List.mem_append.1 hy with h | h
       ·exact hit y h
       ·exact hl y (by simp[h])) (by simp;omega))) fun r hr=>Tt.b1 ?_
      have r0:=hr.lo
      have r2:=hr.hi
      rw[wI (by omega) (by omega)]
      refine hnz _ ⟨n+r,rfl,by omega,by omega,fun h=>?_,fun hwf=>?_⟩
      ·by_cases hn0:0<n
       ·obtain⟨j,q,j1,j2⟩:=nl hn0
        exact⟨j,q,by omega,j2⟩
       ·exact⟨k,p,by omega,egp,ce,hr.lk (by omega)⟩
      ·have h1:=n1 hwf
       obtain⟨w1,w2⟩:=hwf
       obtain⟨w1,w3⟩:=w1 cx
       have wf2:Wf em re al B (En g) (p.2.1++l):=by
        have hre:re[p.1.toNat]? = some true:=by rw[ce];exact w1
        refine z5p (Bp:=B.getD p.1.toNat []) (fun j y hy hy1=>⟨hk.recl p hmem hre y (List.mem_of_getElem? hy) hy1,hk.foc p hmem hre j y hy hy1⟩) (fun t ht=>by rw[ce];exact w3 t ht) w2
       have h2:=hr.one wf2
       by_cases hn0:0<n
       ·by_cases hr0:0<r
        ·obtain⟨j,q,j1,j2,j3,j4⟩:=nl hn0
         have:=hn j k q p j2 egp (by rw[j3,ce]) (zss g w) (zmw j4 fun h=>by rw[j3];exact w3 _ h) (zmw (hr.lk hr0) fun h=>by rw[ce];exact w3 _ h)
         omega
        ·omega
       ·omega
     ·subst hs
      dsimp only
      refine Tt.b1 ?_
      rw[wI (by omega) (by omega)]
      exact hnx (g.2.2.1.length-(k+1)) _ (hm▸Nat.sub_lt_sub_left hlt (Nat.lt_succ_self k)) ⟨k+1,n',hlt,rfl,by simp,m0,m3,ml,m1⟩
    ·obtain⟨j,p,j1,j2,j3,j4⟩:=nl (by omega)
     have hmem:=List.mem_of_getElem? j2
     simp only[inT,cx,if_true]
     rcases z11 j4 with h5 | ⟨h5,h6⟩
     ·exact .inl (by rw[← j3];exact hk.fic p hmem _ h5)
     ·refine .inr ⟨?_,h6⟩
      have:=hk.emc p hmem h5
      rw[j3] at this
      simp[List.getD,this]
def Fi.two:Fi (Nat×Nat) where
 ev P:=∃ N,∀ a b,N≤a→N≤b→P (a,b)
 mono:=fun h ⟨N,hN⟩=>⟨N,fun a b ha hb=>h _ (hN a b ha hb)⟩
 and:=fun⟨N,hN⟩ ⟨M,hM⟩=>⟨max N M,fun a b ha hb=>⟨hN a b (by omega) (by omega),hM a b (by omega) (by omega)⟩⟩
 top:=⟨0,fun _ _ _ _=>trivial⟩
theorem Big.two:Big Fi.two fun i=>i.1:=fun N=>⟨N,fun a b ha hb=>ha⟩
theorem zzk {α:Type} {q b:Nat×Nat→Option α} {Q:α→Prop} (h:Tt Fi.two b Q) (he:∀ n m,q (n,m+1)=b (n,m)):Tt Fi.two q Q:=by
 obtain⟨r,⟨N,hN⟩,h2⟩:=h
 refine⟨r,⟨N+1,fun a c ha hc=>?_⟩,h2⟩
 obtain⟨c,rfl⟩:∃ c',c=c'+1:=⟨c-1,by omega⟩
 rw[he]
 exact hN a c (by omega) (by omega)
theorem z8u {α:Type} {q:Nat×Nat→Option α} {Q:α→Prop} (h:Tt Fi.two q Q):Tn (fun n=>q (n,n)) Q:=by
 obtain⟨r,⟨N,hN⟩,h2⟩:=h
 exact⟨r,⟨N,fun n hn=>hN n n hn hn⟩,h2⟩
theorem z62 (nn m:Nat) (t:DL [Y_api_Grammar,(.sl Y_api_Item),(.sl (.int .i64)),(.int .i64)]):qd nn (m+1) t=qy nn (qd nn m) t.1 t.2.1 t.2.2.1 t.2.2.2:=rfl
theorem ja5 {g:jb} {em re:List Bool} {al B:List (List Int)} (hok:GOk g) (hk:Kn g em re al B) (hn:NC g em al B) (f:Nat):f≤30→∀(l:List jf) (w:List Int),(∀ x∈l,zfr g x)→l.length+16*f≤1000→Tt Fi.two (fun i=>qd i.1 i.2 (g,l,w,(f:Int))) (DQ g em re al B l w):=by
 induction f with
 | zero=>
  intro _ l w _ _
  have h:=z80 (D:=Fi.two) (φ:=fun i=>i.1) (g:=g) (em:=em) (re:=re) (al:=al) (B:=B) (l:=l) (w:=w) (rec:=fun i=>qd i.1 i.2)
  generalize hz:((0:Nat):Int)=z at h ⊢
  exact zzk h fun n m=>z62 n m (g,l,w,z)
 | succ f ih=>
  intro hf l w hl hll
  have h:=z7m (D:=Fi.two) (φ:=fun i=>i.1) Big.two (rec:=fun i=>qd i.1 i.2) hok hk hn (f:=f) (Nat.le_of_succ_le hf) (ih (Nat.le_of_succ_le hf)) (l:=l) (w:=w) hl hll
  generalize ((f+1:Nat):Int)=z at h ⊢
  exact zzk h fun n m=>z62 n m (g,l,w,z)
theorem z4p {g:jb} {em re:List Bool} {al B:List (List Int)} (hok:GOk g) (hk:Kn g em re al B) (hn:NC g em al B) (w:List Int):Tn (fun nn=>Zn nn g [(true,g.2.2.2.1,0,0,())] w 14) (fun n=>n<2):=by
 refine Tt.mono (z8u (ja5 hok hk hn 14 (by omega) [(true,g.2.2.2.1,0,0,())] w (fun x hx=>?_) (by simp))) fun n hq=>?_
 ·simp at hx
  subst hx
  exact hok.start
 ·have:=hq.one ⟨fun _=>⟨hk.rest,fun t ht=>?_⟩,trivial⟩
  ·omega
  ·simp[inT] at ht
   subst ht
   exact hk.hBe
end
end Go.Proofs.YtdllbdlnmjngcaaGreat.T

namespace Go.Proofs.YtdllbdlnmjngcaaGreat.T
open Go Go.RowKit L
set_option linter.unusedVariables false
set_option linter.unusedSimpArgs false
def mkC (r:List Bool) (p:jh):Prop:=(∀ x∈p.2.1,x.1=true→r[x.2.1.toNat]? = some true)→r[p.1.toNat]? = some true
theorem zzy (g:jb) (x:jf) (r:List Bool) (hr:r.length=g.2.1.length) (hx:zfr g x):Tn (fun nn=>Q8 nn x r) (fun b=>b=true↔(x.1=true→r[x.2.1.toNat]? = some true)):=by
 unfold Q8
 refine Tt.J (fun b=>b=true↔(x.1=true→r[x.2.1.toNat]? = some true)) (fun nx hnx=>?_) (fun s hs=>Tt.pure hs)
 refine Tt.b1 (Tt.ite (fun c=>hnx _ ?_) (fun c=>?_))
 ·have c:x.1=false:=by simpa using c
  simp[c]
 have c:x.1=true:=by simpa using c
 obtain⟨h1,h2⟩:=hx
 rw[if_pos c] at h2
 have hl:x.2.1.toNat<r.length:=by omega
 refine Tt.bs _ (zcb h1 (List.getElem?_eq_getElem hl)) (hnx _ ?_)
 rw[List.getElem?_eq_getElem hl]
 simp[c]
theorem z3i (g:jb) (hg:Vd g) (hR:GR g) (hok:GOk g):Tn (fun nn=>Q7 nn g) (fun r=>r.length=g.2.1.length∧∀ p∈g.2.2.1,mkC r p):=by
 unfold Q7
 refine Tt.J (fun r=>r.length=g.2.1.length∧∀ p∈g.2.2.1,mkC r p) (fun nx2 h2=>?_) (fun s hs=>Tt.pure hs)
 refine Tt.bind (Tt.call hR Big.nat) fun b hb=>?_
 subst hb
 refine Tt.ff rfl ?_
 have hp:=hg.p
 refine Tt.b1 (Tt.bs _ (mkN hg.r (by omega)) ?_)
 refine Tt.loop (fun m s=>∃(more:Bool) (r:List Bool),m=2*Qd r+(if more=true then 1 else 0)∧s=(g.2.2.1,more,r)∧r.length=g.2.1.length∧(more=false→∀ p∈g.2.2.1,mkC r p)) (2*Qd (List.replicate g.2.1.length false)+1) Big.nat ⟨true,_,rfl,rfl,by simp,fun h=>by cases h⟩ fun m s ⟨more,r,hm,hs,hl,hcl⟩ nx hnx=>?_
 subst hs
 dsimp only
 refine Tt.ite (fun c=>?_) (fun c=>h2.fst _ ⟨hl,hcl c⟩)
 subst c
 rw[if_pos rfl] at hm
 refine Tt.loop (fun m s=>∃(k:Nat) (more:Bool) (r1:List Bool),k≤g.2.2.1.length∧m=g.2.2.1.length-k∧s=(g.2.2.1,more,g.2.2.1,(g.2.2.1.length:Int),(k:Int),r1)∧r1.length=g.2.1.length∧(more=true→Qd r1<Qd r)∧(more=false→r1=r∧∀ i,i<k→∀ p,g.2.2.1[i]? = some p→mkC r p)) g.2.2.1.length Big.nat.fst ⟨0,false,r,by omega,by omega,rfl,hl,fun h=>(by cases h),fun _=>⟨rfl,fun i hi=>by omega⟩⟩ fun m2 s ⟨k,more,r1,hk,hm2,hs,hl1,ht,hf⟩ ny hny=>?_
 subst hs
 dsimp only
 refine Tt.ite (fun c=>?_) (fun c=>?_)
 ·have c:=of_decide_eq_true c
  have hlt:k<g.2.2.1.length:=by omega
  have hmem:g.2.2.1[k]∈g.2.2.1:=List.getElem_mem hlt
  refine Tt.bs _ (atN hlt) ?_
  have egp:g.2.2.1[k]? = some g.2.2.1[k]:=List.getElem?_eq_getElem hlt
  obtain⟨p,ep⟩:∃ p,g.2.2.1[k]=p:=⟨_,rfl⟩
  rw[ep] at hmem egp ⊢
  obtain⟨l0,l1⟩:=hok.left p hmem
  have hit:=hok.items p hmem
  have hpl:=hok.len p hmem
  obtain⟨q,hq⟩:∃ q:Nat,p.1=q:=⟨p.1.toNat,by omega⟩
  have hql:q<r1.length:=by omega
  refine Tt.J (fun s=>∃(more:Bool) (r1:List Bool),s=(g.2.2.1,more,g.2.2.1,(g.2.2.1.length:Int),(k:Int),r1)∧r1.length=g.2.1.length∧(more=true→Qd r1<Qd r)∧(more=false→r1=r∧∀ i,i<k+1→∀ p,g.2.2.1[i]? = some p→mkC r p)) (fun nz hnz=>?_) (fun s ⟨more,r1,hs,hl1,ht,hf⟩=>?_)
  ·have keep:mkC r1 p→(more=false→r1=r∧∀ i,i<k+1→∀ p,g.2.2.1[i]? = some p→mkC r p):=fun he hmf=>by
    obtain⟨e1,e2⟩:=hf hmf
    refine⟨e1,fun i hi x hx=>?_⟩
    by_cases hik:i<k
    ·exact e2 i hik x hx
    ·have:i=k:=by omega
     subst this
     rw[egp] at hx
     cases hx
     rw[← e1];exact he
   rw[hq]
   refine Tt.bs _ (zn hql) (Tt.bs _ (atN hql) ?_)
   refine Tt.ite (fun c=>hnz _ ⟨more,r1,rfl,hl1,ht,keep fun _=>?_⟩) (fun c=>?_)
   ·rw[hq,Int.toNat_natCast,List.getElem?_eq_getElem hql,c]
   ·have hqf:r1[q]? = some false:=by rw[List.getElem?_eq_getElem hql,c]
    refine Tt.loop (fun m s=>∃ i:Nat,i≤p.2.1.length∧m=p.2.1.length-i∧s=(p.2.1,(p.2.1.length:Int),(i:Int),r1,p)) p.2.1.length Big.nat.fst.fst ⟨0,by omega,by omega,rfl⟩ fun m3 s ⟨i,hi,hm3,hs⟩ nw hnw=>?_
    subst hs
    dsimp only
    refine Tt.ite (fun c=>?_) (fun c=>?_)
    ·have c:=of_decide_eq_true c
     have hil:i<p.2.1.length:=by omega
     have hxm:p.2.1[i]∈p.2.1:=List.getElem_mem hil
     refine Tt.bs _ (atN hil) (Tt.bind (Tt.call (zzy g _ r1 hl1 (hit _ hxm)) Big.nat.fst.fst.fst) fun b hb=>?_)
     refine Tt.ite (fun cb=>hnz.fst _ ⟨more,r1,rfl,hl1,ht,keep fun hall=>?_⟩) (fun _=>Tt.b1 ?_)
     ·have:=hb.2 (hall _ hxm)
      rw[this] at cb
      cases cb
     ·rw[wI (by omega) (by omega)]
      exact hnw (p.2.1.length-(i+1)) _ (by omega) ⟨i+1,by omega,rfl,by simp⟩
    ·rw[hq]
     refine Tt.bs _ (zn hql) (Tt.bs _ (zgn true hql) (hnz.fst _ ⟨true,_,rfl,by simpa using hl1,fun _=>?_,fun h=>by cases h⟩))
     have:=zhb hqf
     cases hmo:more with
     | true=>have:=ht hmo;omega
     | false=>have:=(hf hmo).1;subst this;omega
  ·subst hs
   dsimp only
   refine Tt.b1 ?_
   rw[wI (by omega) (by omega)]
   exact hny (g.2.2.1.length-(k+1)) _ (by omega) ⟨k+1,more,r1,by omega,rfl,by simp,hl1,ht,hf⟩
 ·have c:=of_decide_eq_false c
  cases hmo:more with
  | true=>
   have:=ht hmo
   exact Tt.fst (hnx (2*Qd r1+1) _ (by omega) ⟨true,r1,rfl,rfl,hl1,fun h=>by cases h⟩)
  | false=>
   obtain⟨e1,e2⟩:=hf hmo
   subst e1
   exact Tt.fst (hnx (2*Qd r1) _ (by omega) ⟨false,r1,rfl,rfl,hl1,fun _ p hp=>by
    obtain⟨i,hi⟩:=List.getElem?_of_mem hp
    exact e2 i (by have:=(List.getElem?_eq_some_iff.1 hi).1;omega) p hi⟩)
end Go.Proofs.YtdllbdlnmjngcaaGreat.T

namespace Go.Proofs.YtdllbdlnmjngcaaGreat.T
open Go Go.RowKit L
set_option linter.unusedVariables false
set_option linter.unusedSimpArgs false
theorem zz5 {g:jb} {em re:List Bool} {al B:List (List Int)} (hg:Vd g) (hR:GR g) (hok:GOk g) (hk:Kn g em re al B) (y:D_api_Dfa×List (List Int)×Unit):Tn (fun nn=>Jx nn (some (g,y))) (fun d=>d.1=0→NC g em al B):=by
 unfold Jx
 refine Tt.b1 ?_
 refine Tt.bind (Tt.call (z4e hg hR hok hk) Big.nat) fun r hr=>Tt.pure hr
theorem z0r {g:jb} (hg:Vd g) (hR:GR g) (hok:GOk g) (y:D_api_Dfa×List (List Int)×Unit):Tn (fun nn=>J2 nn (some (g,y))) (fun _=>True):=by
 have hr:=hok.r
 unfold J2
 refine Tt.b1 ?_
 refine Tt.bind (Tt.call (zkn g hg hR hok) Big.nat) fun r ⟨h1,_⟩=>?_
 refine Tt.J (fun _=>True) (fun nx hnx=>?_) (fun s hs=>Tt.pure hs)
 refine Tt.loop (fun m s=>∃ k:Nat,k≤r.length∧m=r.length-k∧s=(13,0,(r.length:Int),(k:Int),r,(0,0,0,()))) r.length Big.nat ⟨0,by omega,by omega,rfl⟩ fun m s ⟨k,hk,hm,hs⟩ ny hny=>?_
 subst hs
 dsimp only
 refine Tt.ite (fun c=>?_) (fun c=>hnx.fst _ trivial)
 have c:=of_decide_eq_true c
 have hlt:k<r.length:=by omega
 refine Tt.bs _ (atN hlt) (Tt.ite (fun _=>hnx.fst _ trivial) fun _=>Tt.b1 ?_)
 rw[wI (by omega) (by omega)]
 exact hny (r.length-(k+1)) _ (by omega) ⟨k+1,by omega,rfl,by simp⟩
theorem z0i {g:jb} (hg:Vd g) (hR:GR g) (hok:GOk g) (y:D_api_Dfa×List (List Int)×Unit):Tn (fun nn=>J3 nn (some (g,y))) (fun _=>True):=by
 have hr:=hok.r
 unfold J3
 refine Tt.b1 ?_
 refine Tt.bind (Tt.call (z3i g hg hR hok) Big.nat) fun r ⟨h1,_⟩=>?_
 refine Tt.J (fun _=>True) (fun nx hnx=>?_) (fun s hs=>Tt.pure hs)
 refine Tt.loop (fun m s=>∃ k:Nat,k≤r.length∧m=r.length-k∧s=(14,0,(r.length:Int),(k:Int),r,(0,0,0,()))) r.length Big.nat ⟨0,by omega,by omega,rfl⟩ fun m s ⟨k,hk,hm,hs⟩ ny hny=>?_
 subst hs
 dsimp only
 refine Tt.ite (fun c=>?_) (fun c=>hnx.fst _ trivial)
 have c:=of_decide_eq_true c
 have hlt:k<r.length:=by omega
 refine Tt.bs _ (atN hlt) (Tt.ite (fun _=>hnx.fst _ trivial) fun _=>Tt.b1 ?_)
 rw[wI (by omega) (by omega)]
 exact hny (r.length-(k+1)) _ (by omega) ⟨k+1,by omega,rfl,by simp⟩
end Go.Proofs.YtdllbdlnmjngcaaGreat.T

namespace Go.Proofs.YtdllbdlnmjngcaaGreat.T
open Go Go.RowKit L
set_option linter.unusedVariables false
set_option linter.unusedSimpArgs false
theorem setA4 (a:Arr 4 Int) {k:Nat} (h:k<4) (x:Int):∃ b,zqw a (k:Int) x=some b:=by
 have hl:=a.2
 unfold zqw
 simp[hl,h]
theorem at4 (a:Arr 4 Int) {k:Nat} (h:k<4):∃ x,atL a.l (k:Int)=some x:=⟨_,atN (by have:=a.2;omega)⟩
theorem zx9 (l:List (Arr 4 Int)) (hl:l.length≤1000000):Tn (fun nn=>yw nn l) (fun _=>True):=by
 unfold yw
 refine Tt.loop (fun m s=>∃(k:Nat) (a b:Arr 4 Int),k≤l.length∧m=l.length-k∧s=(l,(l.length:Int),(k:Int),a,b)) l.length Big.nat ⟨0,_,_,by omega,by omega,rfl⟩ fun m s ⟨k,a,b,hk,hm,hs⟩ nx hnx=>?_
 subst hs
 dsimp only
 refine Tt.ite (fun c=>?_) (fun c=>Tt.pure trivial)
 have c:=of_decide_eq_true c
 have hlt:k<l.length:=by omega
 refine Tt.bs _ (atN hlt) ?_
 refine Tt.loop (fun m s=>∃(i:Nat) (a b:Arr 4 Int),i≤4∧m=4-i∧s=(l,(l.length:Int),(k:Int),(i:Int),a,b,l[k])) 4 Big.nat.fst ⟨0,_,_,by omega,by omega,rfl⟩ fun m2 s ⟨i,a,b,hi,hm2,hs⟩ ny hny=>?_
 subst hs
 dsimp only
 refine Tt.ite (fun c=>?_) (fun c=>Tt.b1 ?_)
 ·have c:=of_decide_eq_true c
  have hi4:i<4:=by omega
  obtain⟨x,hx⟩:=at4 b hi4
  obtain⟨y,hy⟩:=at4 l[k] hi4
  obtain⟨z,hz⟩:=setA4 b hi4 (orI .u64 x y)
  refine Tt.bs _ (zn hi4) (Tt.bs _ hx (Tt.bs _ (zn hi4) (Tt.bs _ hy (Tt.bs _ (zn hi4) (Tt.bs _ hz (Tt.b1 ?_))))))
  rw[wI (by omega) (by omega)]
  exact hny (4-(i+1)) _ (by omega) ⟨i+1,a,z,by omega,rfl,by simp⟩
 ·rw[wI (by omega) (by omega)]
  exact Tt.fst (hnx (l.length-(k+1)) _ (by omega) ⟨k+1,a,b,by omega,rfl,by simp⟩)
theorem z1l (a b:Arr 4 Int):Tn (fun nn=>yw nn [a,b]) (fun _=>True):=zx9 _ (by simp)
theorem jbx (a b:jd):Tn (fun nn=>Zu nn a b) (fun _=>True):=by
 unfold Zu
 refine Tt.J (fun _=>True) (fun nx hnx=>?_) (fun s _=>?_)
 ·exact Tt.b1 (Tt.ite (fun _=>hnx _ trivial) fun _=>hnx _ trivial)
 ·refine Tt.ite (fun _=>Tt.pure trivial) fun _=>?_
  refine Tt.J (fun _=>True) (fun nx hnx=>?_) (fun s _=>?_)
  ·exact Tt.ite (fun _=>Tt.bind (Tt.call (z1l _ _) Big.nat) fun _ _=>hnx _ trivial) fun _=>Tt.bind (Tt.call (z1l _ _) Big.nat) fun _ _=>hnx _ trivial
  ·refine Tt.J (fun _=>True) (fun nx hnx=>?_) (fun s _=>Tt.pure trivial)
   exact Tt.ite (fun _=>Tt.bind (Tt.call (z1l _ _) Big.nat) fun _ _=>hnx _ trivial) fun _=>hnx _ trivial
theorem zuo (a b:jd):Tn (fun nn=>J5 nn a b) (fun _=>True):=by
 unfold J5
 refine Tt.ite (fun _=>Tt.pure trivial) fun _=>Tt.ite (fun _=>Tt.pure trivial) fun _=>?_
 refine Tt.J (fun _=>True) (fun nx hnx=>?_) (fun s _=>Tt.pure trivial)
 exact Tt.ite (fun _=>Tt.bind (Tt.call (z1l _ _) Big.nat) fun _ _=>Tt.bind (Tt.call (z1l _ _) Big.nat) fun _ _=>hnx _ trivial) fun _=>Tt.bind (Tt.call (z1l _ _) Big.nat) fun _ _=>Tt.bind (Tt.call (z1l _ _) Big.nat) fun _ _=>hnx _ trivial
theorem z32 (x:jj) (l:List jd) (n:Nat) (hn:arK x.1=some n) (hl:n≤l.length):Tn (fun nn=>Qn nn x l) (fun _=>True):=by
 have h1:0<n→∃ a,atL l 0=some a:=fun h=>⟨_,atN (k:=0) (by omega)⟩
 have h2:1<n→∃ a,atL l 1=some a:=fun h=>⟨_,atN (k:=1) (by omega)⟩
 unfold Qn
 refine Tt.ite (fun _=>Tt.ite (fun _=>Tt.pure trivial) fun _=>Tt.pure trivial) fun c1=>?_
 have c1:=of_decide_eq_false c1
 refine Tt.ite (fun c=>?_) fun c3=>Tt.ite (fun c=>?_) fun c4=>Tt.ite (fun c=>?_) fun c7=>?_
 ·have c:=of_decide_eq_true c
  rw[c] at hn
  cases hn
  obtain⟨a,ha⟩:=h1 (by omega)
  obtain⟨b,hb⟩:=h2 (by omega)
  exact Tt.bs _ ha (Tt.bs _ hb (Tt.bind (Tt.call (jbx _ _) Big.nat) fun _ _=>Tt.pure trivial))
 ·have c:=of_decide_eq_true c
  rw[c] at hn
  cases hn
  obtain⟨a,ha⟩:=h1 (by omega)
  obtain⟨b,hb⟩:=h2 (by omega)
  exact Tt.bs _ ha (Tt.bs _ hb (Tt.bind (Tt.call (zuo _ _) Big.nat) fun _ _=>Tt.pure trivial))
 ·have c:=of_decide_eq_true c
  rw[c] at hn
  cases hn
  obtain⟨a,ha⟩:=h1 (by omega)
  exact Tt.bs _ ha (Tt.bind (Tt.call (zuo _ _) Big.nat) fun _ _=>Tt.pure trivial)
 ·refine Tt.J (fun s=>s.1=l∧(s.2.1=true→0<n)) (fun nx hnx=>?_) (fun s ⟨e1,e2⟩=>?_)
  ·refine Tt.b1 (Tt.ite (fun c=>hnx _ ⟨rfl,fun _=>?_⟩) fun c=>Tt.b1 (hnx _ ⟨rfl,fun h=>?_⟩))
   ·have c:=of_decide_eq_true c
    rw[c] at hn;cases hn;omega
   ·have c:=of_decide_eq_true h
    rw[c] at hn;cases hn;omega
  ·refine Tt.ite (fun c=>?_) fun _=>Tt.pure trivial
   obtain⟨a,ha⟩:=h1 (e2 c)
   rw[e1]
   refine Tt.bs _ ha ?_
   refine Tt.J (fun _=>True) (fun nx hnx=>Tt.ite (fun _=>hnx _ trivial) fun _=>hnx _ trivial) (fun s _=>?_)
   refine Tt.J (fun _=>True) (fun nx hnx=>?_) (fun s _=>Tt.pure trivial)
   exact Tt.ite (fun _=>Tt.bind (Tt.call (zuo _ _) Big.nat) fun _ _=>hnx _ trivial) fun _=>hnx _ trivial
end Go.Proofs.YtdllbdlnmjngcaaGreat.T

namespace Go.Proofs.YtdllbdlnmjngcaaGreat.T
open Go Go.RowKit L
set_option linter.unusedVariables false
set_option linter.unusedSimpArgs false
theorem zsp {l:List jj} {d e:Nat} {k:Nat} (h:zdk l d=some e) (hk:k<l.length) {j:Nat} (hj:zdk (l.take k) d=some j):∃ n,arK (l[k]).1=some n∧n≤j∧zdk (l.take (k+1)) d=some (j-n+1):=by
 have hs:l=l.take (k+1)++l.drop (k+1):=(List.take_append_drop _ _).symm
 have htk:zdk (l.take (k+1)) d=match arK (l[k]).1 with | none=>none | some n=>if n≤j then some (j-n+1) else none:=by
  rw[List.take_succ_eq_append_getElem hk,zbd,hj]
  simp only[Option.bind_some,zdk]
  rfl
 rw[hs,zbd] at h
 cases har:arK (l[k]).1 with
 | none=>rw[har] at htk;rw[htk] at h;cases h
 | some n=>
  rw[har] at htk
  dsimp only at htk
  by_cases hn:n≤j
  ·rw[if_pos hn] at htk;exact⟨n,rfl,hn,htk⟩
  ·rw[if_neg hn] at htk;rw[htk] at h;cases h
theorem z1o (l:List jj) (hl:l.length≤1000000):Tn (fun nn=>Yj nn l) (fun _=>True):=by
 unfold Yj
 refine Tt.J (fun _=>True) (fun nw hnw=>?_) (fun s _=>Tt.pure trivial)
 refine Tt.bind (Tt.call (zis l hl) Big.nat) fun e he=>?_
 refine Tt.ite (fun _=>hnw _ trivial) fun c=>?_
 have c:=of_decide_eq_false c
 obtain⟨hd1,h512⟩:=he (by omega)
 refine Tt.loop (fun m s=>∃(k:Nat) (f:jd) (st:List jd),k≤l.length∧m=l.length-k∧s=(l,(l.length:Int),(k:Int),f,st)∧zdk (l.take k) 0=some st.length∧st.length≤k) l.length Big.nat ⟨0,_,[],by omega,by omega,rfl,rfl,by simp⟩ fun m s ⟨k,f,st,hk,hm,hs,hd,hst⟩ nx hnx=>?_
 subst hs
 dsimp only
 refine Tt.ite (fun c=>?_) (fun c=>?_)
 ·have c:=of_decide_eq_true c
  have hlt:k<l.length:=by omega
  obtain⟨n,hn,hnj,hd2⟩:=zsp hd1 hlt hd
  refine Tt.bs _ (atN hlt) ?_
  refine Tt.J (fun s=>s=((n:Int),l,(l.length:Int),(k:Int),f,st,l[k])) (fun ny hny=>?_) (fun s hs=>?_)
  ·refine Tt.J (fun s=>∃ b,s=(0,l,(l.length:Int),(k:Int),(l[k]).1,b,f,st,l[k])∧(b=true↔((l[k]).1=3∨(l[k]).1=4))) (fun nz hnz=>?_) (fun s ⟨b,hs,hb⟩=>?_)
   ·refine Tt.b1 (Tt.ite (fun c=>hnz _ ⟨_,rfl,?_⟩) (fun c=>Tt.b1 (hnz _ ⟨_,rfl,?_⟩)))
    ·have:=of_decide_eq_true c;simp[this]
    ·have:=of_decide_eq_false c;simp[this]
   ·subst hs
    dsimp only
    refine Tt.ite (fun c=>hny _ ?_) (fun c=>?_)
    ·have:=hb.1 c
     rw[arK,if_pos this] at hn;cases hn;rfl
    ·have h34:¬((l[k]).1=3∨(l[k]).1=4):=fun h=>by rw[hb.2 h] at c;cases c
     refine Tt.J (fun s=>∃ b,s=(0,l,(l.length:Int),(k:Int),b,f,st,l[k])∧(b=true↔((l[k]).1=5∨(l[k]).1=6∨(l[k]).1=7))) (fun nu hnu=>?_) (fun s ⟨b,hs,hb⟩=>?_)
     ·refine Tt.b1 (Tt.ite (fun c=>hnu _ ⟨_,rfl,?_⟩) (fun c=>Tt.b1 (Tt.ite (fun c2=>hnu _ ⟨_,rfl,?_⟩) (fun c2=>Tt.b1 (hnu _ ⟨_,rfl,?_⟩)))))
      ·have:=of_decide_eq_true c;simp[this]
      ·have:=of_decide_eq_true c2;simp[this]
      ·have h1:=of_decide_eq_false c;have h2:=of_decide_eq_false c2;simp[h1,h2]
     ·subst hs
      dsimp only
      rw[arK,if_neg h34] at hn
      refine Tt.ite (fun c=>hny _ ?_) (fun c=>hny _ ?_)
      ·rw[if_pos (hb.1 c)] at hn;cases hn;rfl
      ·rw[if_neg (fun h=>by rw[hb.2 h] at c;cases c)] at hn
       split at hn<;>cases hn
       rfl
  ·subst hs
   dsimp only
   refine Tt.b1 ?_
   rw[wI (by omega) (by omega)]
   have ez:(st.length:Int)-(n:Int)=((st.length-n:Nat):Int):=by omega
   rw[ez]
   refine Tt.bs (st.length-n) (by unfold z9r;simp) ?_
   have hdl:(st.drop (st.length-n)).length=n:=by rw[List.length_drop];omega
   refine Tt.bs _ (V7 (by simp;omega) (by omega)) ?_
   rw[List.nil_append]
   refine Tt.bind (Tt.call (z32 _ _ n hn (by omega)) Big.nat.fst) fun r _=>?_
   refine Tt.bs (st.take (st.length-n)) (by unfold Zi;simp) (Tt.bs _ (V7 (by simp;omega) (by omega)) (Tt.b1 ?_))
   rw[wI (by omega) (by omega)]
   have el:(st.take (st.length-n)++[r]).length=st.length-n+1:=by rw[List.length_append,List.length_take];simp
   exact hnx (l.length-(k+1)) _ (by omega) ⟨k+1,f,_,by omega,rfl,rfl,by rw[el];exact hd2,by rw[el];omega⟩
 ·have c:=of_decide_eq_false c
  have hke:k=l.length:=by omega
  rw[hke,List.take_length,hd1] at hd
  have h1:0<st.length:=by have:=Option.some.inj hd;omega
  exact Tt.bs _ (zn h1) (Tt.bs _ (atN h1) (hnw.fst _ trivial))
theorem zvu (l:List jj) (hl:l.length≤1000000):Tn (fun nn=>Je nn l) (fun _=>True):=by
 unfold Je
 refine Tt.bind (R:=fun _=>True) ?_ fun _ _=>Tt.pure trivial
 unfold Ve
 exact Tt.bind (Tt.call (z1o l hl) Big.nat) fun r _=>Tt.ite (fun _=>Tt.pure trivial) fun _=>Tt.pure trivial
end Go.Proofs.YtdllbdlnmjngcaaGreat.T

namespace Go.Proofs.YtdllbdlnmjngcaaGreat.T
open Go Go.RowKit L
set_option linter.unusedVariables false
set_option linter.unusedSimpArgs false
theorem z07 {g:jb} (hg:Vd g) (hok:GOk g) (y:D_api_Dfa×List (List Int)×Unit):Tn (fun nn=>J0 nn (some (g,y))) (fun _=>True):=by
 have ht:=hok.t
 unfold J0
 refine Tt.J (fun _=>True) (fun nx hnx=>?_) (fun s hs=>Tt.pure hs)
 refine Tt.b1 ?_
 refine Tt.loop (fun m s=>∃ k:Nat,k≤g.1.length∧m=g.1.length-k∧s=(10,0,(g.1.length:Int),(k:Int),some (g,y),(0,0,0,()))) g.1.length Big.nat ⟨0,by omega,by omega,rfl⟩ fun m s ⟨k,hk,hm,hs⟩ ny hny=>?_
 subst hs
 dsimp only
 refine Tt.ite (fun c=>?_) (fun c=>hnx.fst _ trivial)
 have c:=of_decide_eq_true c
 have hlt:k<g.1.length:=by omega
 refine Tt.b1 (Tt.bs _ (atN hlt) ?_)
 refine Tt.bind (Tt.call (zvu _ (hg.tn _ (List.getElem_mem hlt))) Big.nat.fst) fun r _=>?_
 refine Tt.ite (fun _=>hnx.fst _ trivial) fun _=>Tt.b1 ?_
 rw[wI (by omega) (by omega)]
 exact hny (g.1.length-(k+1)) _ (by omega) ⟨k+1,by omega,rfl,by simp⟩
end Go.Proofs.YtdllbdlnmjngcaaGreat.T

namespace Go.Proofs.YtdllbdlnmjngcaaGreat.T
open Go Go.RowKit L
set_option linter.unusedVariables false
set_option linter.unusedSimpArgs false
theorem sm7 {α:Type} {a b:List α} (h:a.length≤1000000):Go.Proofs.YtdllbdlnmjngcaaGreat.small7 a b=some b:=by
 unfold Go.Proofs.YtdllbdlnmjngcaaGreat.small7;rw[if_pos (by omega)]
theorem zgg {n:Nat} {a b:List Int} (hn:n≤1000) (ha:RN n a) (hb:RN n b):Tn (fun nn=>vq nn a b) (fun r=>RN n r):=by
 have h1:=ha.len
 have h2:=hb.len
 unfold vq
 refine Tt.bs _ (sm7 (by omega)) (Tt.bs _ (V7 (by omega) (by omega)) ?_)
 have hl:(Vy (a++b)).length=(a++b).length:=zgp _
 simp only[List.length_append] at hl
 refine Tt.bs _ (sm7 (by simp;omega)) (Tt.bs _ (sm7 (by omega)) (Tt.pure ?_))
 obtain⟨r1,r2⟩:=zqr (Vy (a++b)) (zt1 _)
 refine⟨r1,fun x hx=>?_⟩
 rw[r2,z4l,List.mem_append] at hx
 rcases hx with h | h
 ·exact ha.b x h
 ·exact hb.b x h
section
variable {α : Type} {s : List α} {b : α}
theorem popZ (h:s.length≤1000000):T.w64 (((s++[b]).length:Int)-1)=(s.length:Int):=by
 rw[List.length_append,List.length_singleton,wI (by omega) (by omega)];omega
theorem z7q (h:s.length≤1000000):qz (s++[b]).length (T.w64 (((s++[b]).length:Int)-1))=some (s.length:Int):=by
 rw[popZ h];exact zn (by simp)
theorem z84:atL (s++[b]) (s.length:Int)=some b:=zcb (by omega) (by simp)
theorem truncN {k:Nat} (h:k≤s.length):Zi s (k:Int)=some (s.take k):=by unfold Zi;simp[h]
theorem z8c (h:s.length≤1000000):Zi (s++[b]) (T.w64 (((s++[b]).length:Int)-1))=some s:=by
 rw[popZ h,truncN (by simp)];simp
theorem zne {l:List α} (h:0<l.length):∃ s b,l=s++[b]:=by
 rcases List.eq_nil_or_concat l with rfl | ⟨s,b,rfl⟩
 ·simp at h
 ·exact⟨s,b,by simp⟩
end
structure PtOk (n:Nat) (p:jo):Prop where
 f:RN n p.1.1
 l:RN n p.1.2.1
 s:0≤p.2.1
theorem PtOk.up {n m:Nat} {p:jo} (h:PtOk n p) (hm:n≤m):PtOk m p:=⟨h.f.up hm,h.l.up hm,h.s⟩
def spS:List jo→Int
 | []=>0
 | p :: l=>p.2.1+spS l
theorem zhr:∀(a b:List jo),spS (a++b)=spS a+spS b
 | [],b=>by simp[spS]
 | p :: a,b=>by simp[spS,zhr a b];omega
theorem zmx:∀ {l:List jo} {n:Nat},(∀ p∈l,PtOk n p)→0≤spS l
 | [],_,_=>by simp[spS]
 | p :: l,n,h=>by
  have:=(h p (by simp)).s
  have:=zmx (l:=l) (n:=n) fun q hq=>h q (by simp[hq])
  simp[spS];omega
structure AllOk (n:Nat) (sets:List (Arr 4 Int)) (fol:List (List Int)) (st:List jo):Prop where
 se:sets.length=n
 fo:fol.length=n
 fr:∀ l∈fol,RN n l
 pt:∀ p∈st,PtOk n p
 su:spS st≤n
theorem zpl {ι:Type} {D:Fi ι} {φ:ι→Nat} (hφ:Big D φ) {n:Nat} (hn:n≤512) {β:Type} {Q:β→Prop} {fs ls:List Int} (hf:RN n fs) (hl:RN n ls) (c3:Bool) (c4:Int) (sets:List (Arr 4 Int)) (c5 c6:List Int) {fol:List (List Int)} (h1:fol.length=n) (h2:∀ l∈fol,RN n l)
  {K:ι→(List Int)×(List Int)×Int×Int×Bool×Int×(List (Arr 4 Int))×(List (List Int))×(List Int)×(List Int)→Option β}
  (hK:∀ fol':List (List Int),fol'.length=n→(∀ l∈fol',RN n l)→Tt D (fun i=>K i (fs,ls,(ls.length:Int),(ls.length:Int),c3,c4,sets,fol',c5,c6)) Q) :
  Tt D (fun i=>jt (fun(x18:(List Int)×(List Int)×Int×Int×Bool×Int×(List (Arr 4 Int))×(List (List Int))×(List Int)×(List Int)) x19=>ifB (decide (x18.2.2.2.1<x18.2.2.1)) (ja (atL x18.2.1 x18.2.2.2.1) fun x20=>ja (qz x18.2.2.2.2.2.2.2.1.length x20) fun x21=>ja (atL x18.2.2.2.2.2.2.2.1 x21) fun x22=>ja (vq (φ i) x22 x18.1) fun x23=>ja (qz x18.2.2.2.2.2.2.2.1.length x20) fun x24=>ja (Zg x18.2.2.2.2.2.2.2.1 x24 x23) fun x25=>ja (some (T.w64 (x18.2.2.2.1+1))) fun x26=>x19 (x18.1,x18.2.1,x18.2.2.1,x26,x18.2.2.2.2.1,x18.2.2.2.2.2.1,x18.2.2.2.2.2.2.1,x25,x18.2.2.2.2.2.2.2.2.1,x18.2.2.2.2.2.2.2.2.2)) (K i x18)) (φ i) (fs,ls,(ls.length:Int),0,c3,c4,sets,fol,c5,c6)) Q:=by
 have hll:=hl.len
 refine Tt.loop (fun m s=>∃(k:Nat) (fol':List (List Int)),k≤ls.length∧m=ls.length-k∧s=(fs,ls,(ls.length:Int),(k:Int),c3,c4,sets,fol',c5,c6)∧fol'.length=n∧∀ l∈fol',RN n l) ls.length hφ ⟨0,fol,by omega,by omega,rfl,h1,h2⟩ fun m s ⟨k,fol',hk,hm,hs,h3,h4⟩ nx hnx=>?_
 subst hs
 dsimp only
 refine Tt.ite (fun c=>?_) (fun c=>?_)
 ·have c:=of_decide_eq_true c
  have hlt:k<ls.length:=by omega
  have hb:=hl.b _ (List.getElem_mem hlt)
  obtain⟨z,hz⟩:∃ z:Nat,ls[k]=(z:Int):=⟨(ls[k]).toNat,by omega⟩
  have hz':z<fol'.length:=by omega
  refine Tt.bs _ (atN hlt) ?_
  rw[hz]
  refine Tt.bs _ (zn hz') (Tt.bs _ (atN hz') ?_)
  refine Tt.bind (Tt.call (zgg (by omega) (h4 _ (List.getElem_mem hz')) hf) hφ.fst) fun u hu=>?_
  refine Tt.bs _ (zn hz') (Tt.bs _ (zgn u hz') (Tt.b1 ?_))
  rw[wI (by omega) (by omega)]
  exact hnx (ls.length-(k+1)) _ (by omega) ⟨k+1,fol'.set z u,by omega,rfl,by simp,by simp[h3],fun x hx=>(List.mem_or_eq_of_mem_set hx).elim (h4 x) fun e=>e▸hu⟩
 ·have c:=of_decide_eq_false c
  have hke:k=ls.length:=by omega
  subst hke
  exact(hK fol' h3 h4).fst
theorem AllOk.push {n:Nat} {sets:List (Arr 4 Int)} {fol:List (List Int)} {st:List jo} {p:jo} (h:AllOk n sets fol st) (hp:PtOk n p) (hs:p.2.1+spS st≤n):AllOk n sets fol (st++[p]):=
 ⟨h.se,h.fo,h.fr,fun q hq=>by rcases List.mem_append.1 hq with e | e;exact h.pt q e;rw[List.mem_singleton.1 e];exact hp,by rw[zhr];simp[spS];omega⟩
abbrev OvS:=(List jj)×Int×Int×Bool×Int×jo×(List (Arr 4 Int))×(List (List Int))×(List Int)×(List Int)×(List jo)
structure OvR (l:List jj) (k:Nat) (s:OvS) (n:Nat) (b:Bool) (z:Int) (p:jo) (sets:List (Arr 4 Int)) (fol:List (List Int)) (f1 l1:List Int) (st:List jo):Prop where
 h1:s=(l,(l.length:Int),(k:Int),b,z,p,sets,fol,f1,l1,st)
 h2:AllOk n sets fol st
 h3:PtOk n p
 h4:p.2.1+spS st≤n
 h5:n≤k+1
 h6:zdk (l.take (k+1)) 0=some (st.length+1)
 h7:st.length≤k
theorem zgs (l:List jj) (hl:l.length≤1000000):Tn (fun nn=>Jk nn l) (fun r=>r=none∨∃ n sets fol p,r=some (sets,fol,p,())∧n≤l.length∧l.length≤512∧AllOk n sets fol []∧PtOk n p∧p.2.1≤n):=by
 unfold Jk
 refine Tt.bind (Tt.call (zis l hl) Big.nat) fun e he=>?_
 refine Tt.ite (fun _=>Tt.pure (Or.inl rfl)) fun c=>?_
 have c:=of_decide_eq_false c
 obtain⟨hd1,h512⟩:=he (by omega)
 refine Tt.loop (fun m s=>∃(k n:Nat) (b:Bool) (z:Int) (sets:List (Arr 4 Int)) (fol:List (List Int)) (f1 l1:List Int) (st:List jo),k≤l.length∧m=l.length-k∧s=(l,(l.length:Int),(k:Int),b,z,sets,fol,f1,l1,st)∧AllOk n sets fol st∧n≤k∧zdk (l.take k) 0=some st.length∧st.length≤k) l.length Big.nat ⟨0,0,_,_,_,_,_,_,_,by omega,by omega,rfl,⟨rfl,rfl,by simp,by simp,by simp[spS]⟩,by omega,rfl,by simp⟩ fun m s ⟨k,n,b,z,sets,fol,f1,l1,st,hk,hm,hs,ha,hn,hd,hst⟩ nx hnx=>?_
 subst hs
 dsimp only
 refine Tt.ite (fun c=>?_) (fun c=>?_)
 ·have c:=of_decide_eq_true c
  have hlt:k<l.length:=by omega
  obtain⟨a,har,haj,hd2⟩:=zsp hd1 hlt hd
  refine Tt.bs _ (atN hlt) ?_
  generalize l[k]=x at har hd2 ⊢
  refine Tt.J (fun s=>∃ n b z p sets fol f1 l1 st,OvR l k s n b z p sets fol f1 l1 st) (fun ny hny=>?_) (fun s ⟨n,b,z,p,sets,fol,f1,l1,st,h⟩=>?_)
  rotate_left
  ·obtain⟨he,h1,h2,h3,h4,h5,h6⟩:=h
   subst he
   dsimp only
   refine Tt.bs _ (V7 (by simp;omega) (by omega)) (Tt.b1 ?_)
   rw[wI (by omega) (by omega)]
   exact hnx (l.length-(k+1)) _ (by omega) ⟨k+1,n,b,z,sets,fol,f1,l1,_,by omega,rfl,rfl,h1.push h2 h3,by omega,by simpa using h5,by simp;omega⟩
  ·have hin:∀ {s:OvS} {n:Nat} {b z p sets fol f1 l1 st},OvR l k s n b z p sets fol f1 l1 st→Tt _ (fun i=>ny i s) _:=fun h=>hny _ ⟨_,_,_,_,_,_,_,_,_,h⟩
   refine Tt.ite (fun c=>?_) (fun c1=>?_)
   ·have c:=of_decide_eq_true c
    have ea:a=0:=by rw[c] at har;cases har;rfl
    subst ea
    refine Tt.b1 (Tt.bs _ (V7 (by have:=ha.se;simp;omega) (by omega)) (Tt.bs _ (V7 (by have:=ha.fo;simp;omega) (by omega)) ?_))
    refine hin (n:=n+1) ⟨rfl,⟨by simp[ha.se],by simp[ha.fo],fun q hq=>?_,fun q hq=>(ha.pt q hq).up (by omega),by have:=ha.su;omega⟩,⟨?_,?_,by simp⟩,by have:=ha.su;simp;omega,by omega,hd2,by omega⟩
    ·rcases List.mem_append.1 hq with h | h
     ·exact(ha.fr q h).up (by omega)
     ·rw[List.mem_singleton.1 h];exact RN.nil _
    ·rw[ha.se];exact RN.one (by omega) (by omega)
    ·rw[ha.se];exact RN.one (by omega) (by omega)
   have c1:=of_decide_eq_false c1
   refine Tt.ite (fun c=>?_) (fun c2=>?_)
   ·have c:=of_decide_eq_true c
    have ea:a=0:=by rw[c] at har;cases har;rfl
    subst ea
    exact hin (n:=n) ⟨rfl,ha,⟨RN.nil _,RN.nil _,by simp⟩,by have:=ha.su;simp;omega,by omega,hd2,by omega⟩
   have c2:=of_decide_eq_false c2
   refine Tt.ite (fun c=>?_) (fun c3=>?_)
   ·have c:=of_decide_eq_true c
    have ea:a=2:=by rw[c] at har;cases har;rfl
    subst ea
    obtain⟨s1,pb,rfl⟩:=zne (l:=st) (by omega)
    rw[List.length_append,List.length_singleton] at haj hst hd2
    obtain⟨s2,pa,rfl⟩:=zne (l:=s1) (by omega)
    rw[List.length_append,List.length_singleton] at haj hst hd2
    have hA:=ha.pt pa (by simp)
    have hB:=ha.pt pb (by simp)
    have h0:=zmx (l:=s2) (n:=n) fun q hq=>ha.pt q (by simp[hq])
    have hsu:=ha.su
    simp only[zhr,spS] at hsu
    have hA0:=hA.s
    have hB0:=hB.s
    have hlen:(s2++[pa]).length≤1000000:=by simp;omega
    refine Tt.bs _ (z7q hlen) (Tt.bs _ z84 (Tt.bs _ (z8c hlen) ?_))
    refine Tt.bs _ (z7q (by omega)) (Tt.bs _ z84 (Tt.bs _ (z8c (by omega)) ?_))
    refine zpl Big.nat.fst (n:=n) (by omega) hB.f hA.l _ _ _ _ _ ha.fo ha.fr fun fol' e1 e2=>?_
    have ha2:AllOk n sets fol' s2:=⟨ha.se,e1,e2,fun q hq=>ha.pt q (by simp[hq]),by omega⟩
    have key:∀ {c:jo},PtOk n c→c.2.1=pa.2.1+pb.2.1→Tt _ (fun i=>ny i (l,(l.length:Int),(k:Int),b,z,c,sets,fol',f1,l1,s2)) _:=fun hc es=>hin ⟨rfl,ha2,hc,by omega,by omega,by rw[hd2];simp<;>omega,by omega⟩
    have ew:T.w64 (pa.2.1+pb.2.1)=pa.2.1+pb.2.1:=wI (by omega) (by omega)
    refine Tt.J (fun s=>∃ c,s=(b,z,sets,fol',f1,l1,pa,pb,false,0,c,[],[])∧PtOk n c∧c.2.1=pa.2.1+pb.2.1) (fun nz hnz=>?_) (fun s ⟨c,hs,hc,es⟩=>?_)
    ·dsimp only
     rw[ew]
     exact Tt.ite (fun _=>hnz _ ⟨_,rfl,⟨hA.f,hB.l,by simp only;omega⟩,rfl⟩) fun _=>hnz _ ⟨_,rfl,⟨hA.f,hB.l,by simp only;omega⟩,rfl⟩
    ·subst hs
     refine Tt.J (fun s=>∃ c,s=(b,z,sets,fol',f1,l1,pa,pb,false,0,c,[],[])∧PtOk n c∧c.2.1=pa.2.1+pb.2.1) (fun nz hnz=>?_) (fun s ⟨c,hs,hc,es⟩=>?_)
     ·dsimp only
      refine Tt.ite (fun _=>?_) fun _=>hnz _ ⟨_,rfl,hc,es⟩
      exact Tt.bind (Tt.call (zgg (by omega) hA.f hB.f) Big.nat.fst) fun u hu=>hnz _ ⟨_,rfl,⟨hu,hc.l,hc.s⟩,es⟩
     ·subst hs
      refine Tt.J (fun s=>∃ c,s=(b,z,sets,fol',f1,l1,false,0,c,[],[])∧PtOk n c∧c.2.1=pa.2.1+pb.2.1) (fun nz hnz=>?_) (fun s ⟨c,hs,hc,es⟩=>?_)
      ·dsimp only
       refine Tt.ite (fun _=>?_) fun _=>hnz _ ⟨_,rfl,hc,es⟩
       exact Tt.bind (Tt.call (zgg (by omega) hA.l hB.l) Big.nat.fst) fun u hu=>hnz _ ⟨_,rfl,⟨hc.f,hu,hc.s⟩,es⟩
      ·subst hs
       exact key hc es
   have c3:=of_decide_eq_false c3
   refine Tt.ite (fun c=>?_) (fun c4=>?_)
   ·have c:=of_decide_eq_true c
    have ea:a=2:=by rw[c] at har;cases har;rfl
    subst ea
    obtain⟨s1,pb,rfl⟩:=zne (l:=st) (by omega)
    rw[List.length_append,List.length_singleton] at haj hst hd2
    obtain⟨s2,pa,rfl⟩:=zne (l:=s1) (by omega)
    rw[List.length_append,List.length_singleton] at haj hst hd2
    have hA:=ha.pt pa (by simp)
    have hB:=ha.pt pb (by simp)
    have h0:=zmx (l:=s2) (n:=n) fun q hq=>ha.pt q (by simp[hq])
    have hsu:=ha.su
    simp only[zhr,spS] at hsu
    have hA0:=hA.s
    have hB0:=hB.s
    have hlen:(s2++[pa]).length≤1000000:=by simp;omega
    refine Tt.bs _ (z7q hlen) (Tt.bs _ z84 (Tt.bs _ (z8c hlen) ?_))
    refine Tt.bs _ (z7q (by omega)) (Tt.bs _ z84 (Tt.bs _ (z8c (by omega)) ?_))
    have ha2:AllOk n sets fol s2:=⟨ha.se,ha.fo,ha.fr,fun q hq=>ha.pt q (by simp[hq]),by omega⟩
    have ew:T.w64 (pa.2.1+pb.2.1)=pa.2.1+pb.2.1:=wI (by omega) (by omega)
    refine Tt.J (fun s=>∃ c,s=(l,(l.length:Int),(k:Int),b,z,c,sets,fol,f1,l1,s2)∧PtOk n c∧c.2.1=pa.2.1+pb.2.1) (fun nz hnz=>?_) (fun s ⟨c,hs,hc,es⟩=>?_)
    ·refine Tt.bind (Tt.call (zgg (by omega) hA.f hB.f) Big.nat.fst) fun u hu=>?_
     refine Tt.bind (Tt.call (zgg (by omega) hA.l hB.l) Big.nat.fst) fun v hv=>?_
     rw[ew]
     exact Tt.ite (fun _=>hnz _ ⟨_,rfl,⟨hu,hv,by simp only;omega⟩,rfl⟩) fun _=>hnz _ ⟨_,rfl,⟨hu,hv,by simp only;omega⟩,rfl⟩
    ·subst hs
     dsimp only
     exact hin ⟨rfl,ha2,hc,by omega,by omega,by rw[hd2];simp<;>omega,by omega⟩
   have c4:=of_decide_eq_false c4
   have ea:a=1:=by
    rw[arK,if_neg (by omega)] at har
    split at har
    ·cases har;rfl
    ·rw[if_neg (by omega)] at har;cases har
   subst ea
   obtain⟨s1,pb,rfl⟩:=zne (l:=st) (by omega)
   rw[List.length_append,List.length_singleton] at haj hst hd2
   have hB:=ha.pt pb (by simp)
   have hsu:=ha.su
   simp only[zhr,spS] at hsu
   have hB0:=hB.s
   refine Tt.bs _ (z7q (by omega)) (Tt.bs _ z84 (Tt.bs _ (z8c (by omega)) ?_))
   refine Tt.J (fun s=>∃ fol',s=(l,(l.length:Int),(k:Int),b,z,x,pb,sets,fol',f1,l1,s1)∧AllOk n sets fol' s1) (fun nz hnz=>?_) (fun s ⟨fol',hs,ha2⟩=>?_)
   ·refine Tt.ite (fun _=>?_) fun _=>hnz _ ⟨_,rfl,⟨ha.se,ha.fo,ha.fr,fun q hq=>ha.pt q (by simp[hq]),by omega⟩⟩
    exact zpl Big.nat.fst (n:=n) (by omega) hB.f hB.l _ _ _ _ _ ha.fo ha.fr fun fol' e1 e2=>hnz _ ⟨_,rfl,⟨ha.se,e1,e2,fun q hq=>ha.pt q (by simp[hq]),by omega⟩⟩
   ·subst hs
    refine Tt.J (fun s=>∃ c,s=(l,(l.length:Int),(k:Int),b,z,c,sets,fol',f1,l1,s1)∧PtOk n c∧c.2.1=pb.2.1) (fun nz hnz=>?_) (fun s ⟨c,hs,hc,es⟩=>?_)
    ·exact Tt.ite (fun _=>hnz _ ⟨_,rfl,⟨hB.f,hB.l,hB.s⟩,rfl⟩) fun _=>hnz _ ⟨_,rfl,⟨hB.f,hB.l,hB.s⟩,rfl⟩
    ·subst hs
     dsimp only
     exact hin ⟨rfl,ha2,hc,by omega,by omega,by rw[hd2];simp<;>omega,by omega⟩
 ·have c:=of_decide_eq_false c
  have hke:k=l.length:=by omega
  rw[hke,List.take_length,hd1] at hd
  have h1:0<st.length:=by have:=Option.some.inj hd;omega
  refine Tt.bs _ (zn h1) (Tt.bs _ (atN h1) (Tt.pure (Or.inr ⟨n,sets,fol,st[0],rfl,by omega,by omega,⟨ha.se,ha.fo,ha.fr,by simp,by simp[spS]⟩,ha.pt _ (List.getElem_mem h1),?_⟩)))
  have hsu:=ha.su
  have hp:=ha.pt
  cases st with
  | nil=>simp at h1
  | cons p st=>
   simp only[spS] at hsu
   have:=zmx (l:=st) (n:=n) fun q hq=>hp q (by simp[hq])
   simp only[List.getElem_cons_zero]
   omega
end Go.Proofs.YtdllbdlnmjngcaaGreat.T

namespace Go.Proofs.YtdllbdlnmjngcaaGreat.T
open Go Go.RowKit L
set_option linter.unusedVariables false
set_option linter.unusedSimpArgs false
theorem z0t (l:List jj) (hl:l.length≤1000000):Tn (fun nn=>zat nn l) (fun r=>r.length≤l.length∧r.length≤512):=by
 unfold zat
 refine Tt.bind (Tt.call (zgs l hl) Big.nat) fun r hr=>?_
 rcases hr with rfl | ⟨n,sets,fol,p,rfl,h1,h2,ha,hp,hs⟩
 ·exact Tt.ff rfl (Tt.pure ⟨by simp,by simp⟩)
 ·have:=ha.se
  exact Tt.tt rfl (Tt.b1 (Tt.pure ⟨by simp only;omega,by simp only;omega⟩))
theorem zzp (l:List jj) (hl:l.length≤1000000):Tn (fun nn=>za6 nn l) (fun r=>r.length≤512):=by
 unfold za6
 refine Tt.bind (Tt.call (zgs l hl) Big.nat) fun r hr=>?_
 rcases hr with rfl | ⟨n,sets,fol,p,rfl,h1,h2,ha,hp,hs⟩
 ·exact Tt.ff rfl (Tt.pure (by simp))
 ·have:=hp.l.len
  exact Tt.tt rfl (Tt.b1 (Tt.pure (by simp only;omega)))
theorem zxp (l:List jj) (hl:l.length≤1000000):Tn (fun nn=>Zs nn l) (fun r=>r.length≤512):=by
 unfold Zs
 refine Tt.bind (Tt.call (zgs l hl) Big.nat) fun r hr=>?_
 rcases hr with rfl | ⟨n,sets,fol,p,rfl,h1,h2,ha,hp,hs⟩
 ·exact Tt.ff rfl (Tt.pure (by simp))
 ·have:=hp.f.len
  exact Tt.tt rfl (Tt.b1 (Tt.pure (by simp only;omega)))
theorem ztp (l:List jj) (hl:l.length≤1000000) (z:Int):Tn (fun nn=>Yh nn l z) (fun r=>r.length≤512):=by
 unfold Yh
 refine Tt.bind (Tt.call (zgs l hl) Big.nat) fun r hr=>?_
 rcases hr with rfl | ⟨n,sets,fol,p,rfl,h1,h2,ha,hp,hs⟩
 ·refine Tt.J (fun s=>s=(z,none,false)) (fun nx hnx=>Tt.b1 (Tt.ff rfl (hnx _ rfl))) fun s hs=>?_
  subst hs
  exact Tt.ff rfl (Tt.pure (by simp))
 ·refine Tt.J (fun s=>∃ b,s=(z,some (sets,fol,p,()),b)∧(b=true→0≤z∧z<p.2.1)) (fun nx hnx=>Tt.b1 (Tt.tt rfl ?_)) fun s ⟨b,hs,hb⟩=>?_
  ·refine Tt.ite (fun c=>Tt.b1 (hnx _ ⟨_,rfl,fun h=>?_⟩)) fun c=>hnx _ ⟨_,rfl,fun h=>by cases h⟩
   exact⟨of_decide_eq_true c,of_decide_eq_true h⟩
  ·subst hs
   dsimp only
   refine Tt.ite (fun c=>?_) fun c=>Tt.pure (by simp)
   obtain⟨z0,z1⟩:=hb c
   have hf:=ha.fo
   obtain⟨y,rfl⟩:∃ y:Nat,z=(y:Int):=⟨z.toNat,by omega⟩
   have hy:y<fol.length:=by omega
   have:=(ha.fr _ (List.getElem_mem hy)).len
   exact Tt.b1 (Tt.bs _ (atN hy) (Tt.pure (by omega)))
theorem znx (l:List Int) (b:Int) (hl:l.length≤1000000):Tn (fun nn=>Jd nn l b) (fun r=>r.length=l.length):=by
 unfold Jd
 refine Tt.b1 (Tt.bs _ (mkN hl (by omega)) ?_)
 refine Tt.loop (fun m s=>∃(k:Nat) (out:List Int),k≤l.length∧m=l.length-k∧s=(l,b,(l.length:Int),(k:Int),out)∧out.length=l.length) l.length Big.nat ⟨0,_,by omega,by omega,rfl,by simp⟩ fun m s ⟨k,out,hk,hm,hs,ho⟩ nx hnx=>?_
 subst hs
 dsimp only
 refine Tt.ite (fun c=>?_) (fun c=>Tt.pure ho)
 have c:=of_decide_eq_true c
 have hlt:k<l.length:=by omega
 refine Tt.bs _ (atN hlt) (Tt.bs _ (zn (by omega)) (Tt.bs _ (zgn _ (by omega)) (Tt.b1 ?_)))
 rw[wI (by omega) (by omega)]
 exact hnx (l.length-(k+1)) _ (by omega) ⟨k+1,out.set k (T.w64 (l[k]+b)),by omega,rfl,rfl,by simp[ho]⟩
theorem mid_eq (a b:Nat) (h:a+b≤2000000):zku .u64 (wr .u64 (T.w64 ((a:Int)+(b:Int)))) 1=some (((a+b) / 2:Nat):Int):=by
 rw[wI (by omega) (by omega)]
 unfold wr zku
 rw[zxg (by omega) (by omega),if_neg (by omega)]
 have:min (1:Int).toNat IntKind.u64.bits=1:=by decide
 rw[this]
 congr 1
 rw[Int.fdiv_eq_ediv_of_nonneg _ (by omega)]
 omega
theorem z9j (a b:Int):Tn (fun nn=>Qp nn a b) (fun _=>True):=by
 unfold Qp
 refine Tt.J (fun _=>True) (fun nx hnx=>?_) fun s hs=>Tt.pure trivial
 refine Tt.bind (R:=fun r=>r=false) (Tt.pure (by simp)) fun r hr=>?_
 subst hr
 exact Tt.ff rfl (hnx _ trivial)
theorem bs_tot (l:List Int) (x:Int) (hl:l.length≤1000000):Tn (fun nn=>qr nn l x) (fun _=>True):=by
 unfold qr
 refine Tt.b1 ?_
 refine Tt.loop (fun m s=>∃(a b:Nat),a≤b∧b≤l.length∧m=b-a∧s=(l,x,(l.length:Int),(a:Int),(b:Int))) l.length Big.nat ⟨0,l.length,by omega,by omega,by omega,rfl⟩ fun m s ⟨a,b,hab,hb,hm,hs⟩ nx hnx=>?_
 subst hs
 dsimp only
 refine Tt.ite (fun c=>?_) (fun c=>?_)
 ·have c:=of_decide_eq_true c
  have hlt:(a+b) / 2<l.length:=by omega
  refine Tt.J (fun s=>∃(a' b':Nat),a'≤b'∧b'≤l.length∧b'-a'<b-a∧s=(l,x,(l.length:Int),(a':Int),(b':Int))) (fun ny hny=>?_) fun s ⟨a',b',h1,h2,h3,hs⟩=>?_
  ·refine Tt.bs _ (mid_eq a b (by omega)) (Tt.b1 ?_)
   have ew:wr .i64 (((a+b) / 2:Nat):Int)=(((a+b) / 2:Nat):Int):=zdt (by omega) (by omega)
   rw[ew]
   refine Tt.bs _ (atN hlt) (Tt.bind (Tt.call (z9j _ _) Big.nat.fst) fun r _=>?_)
   refine Tt.ite (fun _=>Tt.b1 ?_) fun _=>hny _ ⟨a,(a+b) / 2,by omega,by omega,by omega,rfl⟩
   rw[wI (by omega) (by omega)]
   exact hny _ ⟨(a+b) / 2+1,b,by omega,by omega,by omega,by simp⟩
  ·subst hs
   exact hnx _ _ (by omega) ⟨a',b',h1,h2,rfl,rfl⟩
 ·refine Tt.J (fun _=>True) (fun ny hny=>Tt.b1 (Tt.ite (fun c=>?_) fun c=>hny _ trivial)) fun s _=>Tt.pure trivial
  have c:=of_decide_eq_true c
  have hlt:a<l.length:=by omega
  refine Tt.bs _ (atN hlt) (Tt.b1 (Tt.ite (fun c=>hny _ trivial) fun c=>?_))
  refine Tt.bs _ (atN hlt) (Tt.bind (R:=fun _=>True) (Tt.pure trivial) fun r _=>?_)
  exact Tt.ite (fun _=>Tt.bind (R:=fun _=>True) (Tt.pure trivial) fun r _=>hny _ trivial) fun _=>hny _ trivial
theorem z9o (l:List Int) (x:Int) (hl:l.length≤1000000):Tn (fun nn=>zcq nn l x) (fun _=>True):=by
 unfold zcq
 exact Tt.bind (Tt.call (bs_tot l x hl) Big.nat) fun r _=>Tt.pure trivial
structure zg1 (N M:Nat) (n:js):Prop where
 s:n.1.length≤N
 o:n.2.1.length≤M
 l:n.2.2.1.length≤M
 f:n.2.2.2.1.length≤M
 fr:∀ x∈n.2.2.2.1,x.length≤512
 fi:n.2.2.2.2.1.length≤M
theorem z9z (l:List qh):zar l≤1000*l.length:=by
 induction l with
 | nil=>simp[zar]
 | cons x l ih=>
  have e:zar (x :: l)=min x.2.1.length 1000+zar l:=by unfold zar;rw[List.map_cons,List.sum_cons]
  rw[e,List.length_cons]
  omega
theorem z6f (l:List qh) (hl:l.length≤50) (hr:∀ t∈l,t.2.1.length≤1000000):Tn (fun nn=>za3 nn l) (zg1 (zar l) 60000):=by
 unfold za3
 refine Tt.loop (fun m s=>∃(k:Nat) (c1:List (Arr 4 Int)) (c2:List Int) (c3:List Bool) (c4:List (List Int)) (c5:List Int) (x1:List (Arr 4 Int)) (x2:List Int) (x3:List Bool) (x4:List (List Int)) (x5:List Int),k≤l.length∧m=l.length-k∧s=(l,(l.length:Int),(k:Int),c1,c2,c3,c4,c5,x1,x2,x3,x4,x5)∧zg1 (zar (l.take k)) (1200*k) (x1,x2,x3,x4,x5,())) l.length Big.nat ⟨0,_,_,_,_,_,_,_,_,_,_,by omega,by omega,rfl,⟨by simp,by simp,by simp,by simp,by simp,by simp⟩⟩ fun m s ⟨k,c1,c2,c3,c4,c5,x1,x2,x3,x4,x5,hk,hm,hs,hz⟩ nx hnx=>?_
 subst hs
 dsimp only
 refine Tt.ite (fun c=>?_) (fun c=>?_)
 ·have c:=of_decide_eq_true c
  have hlt:k<l.length:=by omega
  have hrl:=hr _ (List.getElem_mem hlt)
  have hrs:=zsh hlt
  refine Tt.bs _ (atN hlt) (Tt.b1 ?_)
  generalize l[k]=t at hrl hrs ⊢
  refine Tt.bind (Tt.call (zzp _ hrl) Big.nat.fst) fun la hla=>?_
  refine Tt.bind (Tt.call (z0t _ hrl) Big.nat.fst) fun se hse=>?_
  refine Tt.loop (fun m s=>∃(j:Nat) (x1':List (Arr 4 Int)) (x2':List Int) (x3':List Bool) (x4':List (List Int)),j≤se.length∧m=se.length-j∧s=(l,(k:Int),t.2.1,(x1.length:Int),la,(l.length:Int),(k:Int),se,(se.length:Int),(j:Int),c1,c2,c3,c4,c5,x1',x2',x3',x4',x5)∧zg1 (zar (l.take k)+j) (1200*k+j) (x1',x2',x3',x4',x5,())) se.length Big.nat.fst ⟨0,_,_,_,_,by omega,by omega,rfl,hz⟩ fun m s ⟨j,x1',x2',x3',x4',hj,hm,hs,hz⟩ ny hny=>?_
  subst hs
  dsimp only
  have hz1:=hz.s
  have hz2:=hz.o
  have hz3:=hz.l
  have hz4:=hz.f
  have hz5:=hz.fi
  simp only at hz1 hz2 hz3 hz4 hz5
  have hb0:zar (l.take k)≤1000*k:=by
   have:=z9z (l.take k)
   rw[List.length_take] at this
   omega
  refine Tt.ite (fun c=>?_) (fun c=>?_)
  ·have c:=of_decide_eq_true c
   have hlt:j<se.length:=by omega
   refine Tt.bs _ (atN hlt) (Tt.bs _ (V7 (by simp;omega) (by omega)) (Tt.bs _ (V7 (by simp;omega) (by omega)) ?_))
   refine Tt.bind (Tt.call (z9o _ _ (by omega)) Big.nat.fst.fst) fun r _=>?_
   refine Tt.bs _ (V7 (by simp;omega) (by omega)) ?_
   refine Tt.bind (Tt.call (ztp _ hrl _) Big.nat.fst.fst) fun f hf=>?_
   refine Tt.bind (Tt.call (znx _ _ (by omega)) Big.nat.fst.fst) fun f' hf'=>?_
   refine Tt.bs _ (V7 (by simp;omega) (by omega)) (Tt.b1 ?_)
   rw[wI (by omega) (by omega)]
   refine hny (se.length-(j+1)) _ (by omega) ⟨j+1,_,_,_,_,by omega,rfl,rfl,⟨by simp;omega,by simp;omega,by simp;omega,by simp;omega,fun x hx=>?_,by simp only;omega⟩⟩
   rcases List.mem_append.1 hx with h | h
   ·exact hz.fr x h
   ·rw[List.mem_singleton.1 h];omega
  ·refine Tt.bind (Tt.call (zxp _ hrl) Big.nat.fst.fst) fun f hf=>?_
   refine Tt.bind (Tt.call (znx _ _ (by omega)) Big.nat.fst.fst) fun f' hf'=>?_
   refine Tt.bs _ (V7 (by omega) (by omega)) (Tt.b1 ?_)
   rw[wI (by omega) (by omega)]
   exact(hnx (l.length-(k+1)) _ (by omega) ⟨k+1,_,_,_,_,_,x1',x2',x3',x4',x5++f',by omega,rfl,rfl,⟨by simp only;omega,by simp only;omega,by simp only;omega,by simp only;omega,fun x hx=>hz.fr x hx,by simp;omega⟩⟩).fst
 ·have hke:k=l.length:=by have c:=of_decide_eq_false c;omega
  rw[hke,List.take_length] at hz
  exact Tt.pure ⟨hz.s,by have:=hz.o;omega,by have:=hz.l;omega,by have:=hz.f;omega,hz.fr,by have:=hz.fi;omega⟩
end Go.Proofs.YtdllbdlnmjngcaaGreat.T

namespace Go.Proofs.YtdllbdlnmjngcaaGreat.T
open Go Go.RowKit L
set_option linter.unusedVariables false
set_option linter.unusedSimpArgs false
theorem ris_of {l:List Int} (h:∀(i:Nat) (h:i+1<l.length),l[i]<l[i+1]):ve l:=by
 have key:∀(d i:Nat) (hh:i+d+1<l.length),l[i]<l[i+d+1]:=by
  intro d
  induction d with
  | zero=>exact fun i hh=>h i hh
  | succ d ih=>exact fun i hh=>Int.lt_trans (ih i (by omega)) (h (i+d+1) (by omega))
 refine List.pairwise_iff_getElem.2 fun i j hi hj hij=>?_
 have:=key (j-i-1) i (by omega)
 simpa [show i+(j-i-1)+1=j by omega] using this
theorem zzm (l:List Int) (hl:l.length≤1000000):Tn (fun nn=>Zv nn l) (fun b=>b=true→ve l):=by
 unfold Zv
 have ew:T.w64 ((l.length:Int)-1)=(l.length:Int)-1:=wI (by omega) (by omega)
 rw[ew]
 refine Tt.loop (fun m s=>∃ k:Nat,k≤l.length∧m=l.length-k∧s=(l,(l.length:Int)-1,(k:Int))∧∀(i:Nat) (h:i+1<l.length),i<k→l[i]<l[i+1]) l.length Big.nat ⟨0,by omega,by omega,rfl,fun i h1 h2=>by omega⟩ fun m s ⟨k,hk,hm,hs,hi⟩ nx hnx=>?_
 subst hs
 dsimp only
 refine Tt.ite (fun c=>?_) (fun c=>Tt.pure fun _=>ris_of fun i h=>hi i h (by have:=of_decide_eq_false c;omega))
 have c:=of_decide_eq_true c
 have hlt:k+1<l.length:=by omega
 have e1:T.w64 ((k:Int)+1)=((k+1:Nat):Int):=wI (by omega) (by omega)
 refine Tt.bs _ (atN (by omega)) ?_
 rw[e1]
 refine Tt.bs _ (atN hlt) (Tt.ite (fun _=>Tt.pure fun h=>by cases h) fun c2=>Tt.b1 ?_)
 refine hnx (l.length-(k+1)) _ (by omega) ⟨k+1,by omega,rfl,rfl,fun i h1 h2=>?_⟩
 by_cases h:i<k
 ·exact hi i h1 h
 ·have:i=k:=by omega
  subst this
  have:=of_decide_eq_false c2
  omega
theorem jcd {N:Nat} {l:List Int} (hr:ve l) (h:(hp:0<l.length)→0≤l[0]∧l[l.length-1]<(N:Int)):RN N l:=by
 refine⟨hr,fun x hx=>?_⟩
 obtain⟨i,hi,rfl⟩:=List.mem_iff_getElem.1 hx
 obtain⟨h1,h2⟩:=h (by omega)
 have hp:=List.pairwise_iff_getElem.1 hr
 have a1:l[0]≤l[i]:=by
  by_cases e:i=0
  ·subst e;omega
  ·have:=hp 0 i (by omega) hi (by omega);omega
 have a2:l[i]≤l[l.length-1]:=by
  by_cases e:i=l.length-1
  ·subst e;omega
  ·have:=hp i (l.length-1) hi (by omega) (by omega);omega
 omega
theorem zrj (N:Nat) (ls:List (List Int)) (h1:ls.length≤1000000) (h2:∀ x∈ls,x.length≤1000000):Tn (fun nn=>Vm nn (N:Int) ls) (fun b=>b=true→∀ x∈ls,RN N x):=by
 unfold Vm
 refine Tt.loop (fun m s=>∃ k:Nat,k≤ls.length∧m=ls.length-k∧s=((N:Int),ls,(ls.length:Int),(k:Int))∧∀ x∈ls.take k,RN N x) ls.length Big.nat ⟨0,by omega,by omega,rfl,by simp⟩ fun m s ⟨k,hk,hm,hs,hi⟩ nx hnx=>?_
 subst hs
 dsimp only
 refine Tt.ite (fun c=>?_) (fun c=>Tt.pure fun _=>?_)
 rotate_left
 ·have hke:k=ls.length:=by have:=of_decide_eq_false c;omega
  rw[hke,List.take_length] at hi
  exact hi
 have c:=of_decide_eq_true c
 have hlt:k<ls.length:=by omega
 have hxl:=h2 _ (List.getElem_mem hlt)
 refine Tt.bs _ (atN hlt) ?_
 refine Tt.J (fun s=>∃ b,s=((N:Int),ls,(ls.length:Int),(k:Int),b)∧(b=false→RN N ls[k])) (fun ny hny=>?_) fun s ⟨b,hs,hb⟩=>?_
 ·refine Tt.bind (Tt.call (zzm _ hxl) Big.nat.fst) fun r hr=>Tt.b1 ?_
  refine Tt.ite (fun c=>hny _ ⟨_,rfl,fun h=>by cases h⟩) fun c=>Tt.b1 ?_
  have hr:=hr (by simpa using c)
  refine Tt.ite (fun c2=>?_) fun c2=>hny _ ⟨_,rfl,fun h=>jcd hr fun hp=>by have:=of_decide_eq_false c2;omega⟩
  have hp:0<(ls[k]).length:=by have:=of_decide_eq_true c2;omega
  refine Tt.bs _ (atN hp) (Tt.b1 (Tt.ite (fun c3=>hny _ ⟨_,rfl,fun h=>by cases h⟩) fun c3=>?_))
  have c3:=of_decide_eq_false c3
  have ew:T.w64 (((ls[k]).length:Int)-1)=(((ls[k]).length-1:Nat):Int):=by rw[wI (by omega) (by omega)];omega
  rw[ew]
  refine Tt.bs _ (atN (by omega)) (hny _ ⟨_,rfl,fun h=>jcd hr fun hp=>⟨by omega,?_⟩⟩)
  have:=of_decide_eq_false h
  omega
 ·subst hs
  dsimp only
  refine Tt.ite (fun _=>Tt.pure fun h=>by cases h) fun c=>Tt.b1 ?_
  rw[wI (by omega) (by omega)]
  refine hnx (ls.length-(k+1)) _ (by omega) ⟨k+1,by omega,rfl,rfl,fun x hx=>?_⟩
  rw[List.take_succ_eq_append_getElem hlt] at hx
  rcases List.mem_append.1 hx with h | h
  ·exact hi x h
  ·rw[List.mem_singleton.1 h];exact hb c
structure zrs (n:js):Prop where
 o:n.2.1.length=n.1.length
 l:n.2.2.1.length=n.1.length
 f:n.2.2.2.1.length=n.1.length
 fi:RN n.1.length n.2.2.2.2.1
 fo:∀ x∈n.2.2.2.1,RN n.1.length x
theorem zcx (n:js) {N:Nat} (hN:N≤1000) (hz:zg1 N 60000 n):Tn (fun nn=>zj nn n) (fun b=>b=true→zrs n):=by
 have z1:=hz.s
 have z2:=hz.o
 have z3:=hz.l
 have z4:=hz.f
 have z5:=hz.fi
 unfold zj
 refine Tt.b1 ?_
 refine Tt.J (fun s=>∃ b,s=((n.1.length:Int),b,n)∧(b=false→n.2.1.length=n.1.length∧n.2.2.1.length=n.1.length∧n.2.2.2.1.length=n.1.length)) (fun nx hnx=>?_) fun s ⟨b,hs,hb⟩=>?_
 ·refine Tt.b1 (Tt.ite (fun c=>hnx _ ⟨_,rfl,fun h=>by cases h⟩) fun c=>Tt.ite (fun c2=>hnx _ ⟨_,rfl,fun h=>by cases h⟩) fun c2=>hnx _ ⟨_,rfl,fun h=>?_⟩)
  have c:=of_decide_eq_false c
  have c2:=of_decide_eq_false c2
  have c3:=of_decide_eq_false h
  exact⟨by omega,by omega,by omega⟩
 ·subst hs
  dsimp only
  refine Tt.ite (fun _=>Tt.pure fun h=>by cases h) fun c=>?_
  obtain⟨e1,e2,e3⟩:=hb c
  refine Tt.loop (fun m s=>∃ k:Nat,k≤n.2.1.length∧m=n.2.1.length-k∧s=((n.1.length:Int),n.2.1,(n.2.1.length:Int),(k:Int),n)) n.2.1.length Big.nat ⟨0,by omega,by omega,rfl⟩ fun m s ⟨k,hk,hm,hs⟩ nx hnx=>?_
  subst hs
  dsimp only
  refine Tt.ite (fun c=>?_) (fun c=>?_)
  ·have c:=of_decide_eq_true c
   refine Tt.bs _ (atN (by omega)) (Tt.ite (fun _=>Tt.pure fun h=>by cases h) fun _=>Tt.b1 ?_)
   rw[wI (by omega) (by omega)]
   exact hnx (n.2.1.length-(k+1)) _ (by omega) ⟨k+1,by omega,rfl,rfl⟩
  ·refine Tt.J (fun b=>b=true→zrs n) (fun ny hny=>?_) fun s hs=>Tt.pure hs
   refine Tt.bind (Tt.call (zrj n.1.length [n.2.2.2.2.1] (by simp) (fun x hx=>by rw[List.mem_singleton.1 hx];omega)) Big.nat.fst) fun r hr=>?_
   refine Tt.ite (fun c=>?_) fun _=>hny _ fun h=>by cases h
   refine Tt.bind (Tt.call (zrj n.1.length n.2.2.2.1 (by omega) (fun x hx=>by have:=hz.fr x hx;omega)) Big.nat.fst) fun r2 hr2=>?_
   exact hny _ fun h=>⟨e1,e2,e3,hr c _ (by simp),hr2 h⟩
theorem jcn {b:Nat} (h:b<256):zuj .u8 (b:Int) 64=some ((b / 64:Nat):Int):=by
 unfold zuj
 rw[if_neg (by decide),show((b:Int)).tdiv 64=((b / 64:Nat):Int) from (Int.ofNat_tdiv b 64).symm,zac (by omega) (by omega)]
theorem jb6 (b:Nat):zyd .u8 (b:Int) 64=some ((b % 64:Nat):Int):=by
 unfold zyd
 rw[if_neg (by decide),show((b:Int)).tmod 64=((b % 64:Nat):Int) from (Int.ofNat_tmod b 64).symm]
theorem shr_ex (x:Int) (r:Nat):∃ y,zku .u64 x (r:Int)=some y:=⟨_,by unfold zku;rw[if_neg (by omega)]⟩
theorem RN.sub {N:Nat} {a b:List Int} (h:RN N b) (hs:a.Sublist b):RN N a:=⟨List.Pairwise.sublist hs h.r,fun x hx=>h.b x (hs.subset hx)⟩
theorem zm9 (n:js) (hN:n.1.length≤1000) (l:List Int) (hl:RN n.1.length l) (b:Nat) (hb:b<256):Tn (fun nn=>Yr nn n l (b:Int)) (RN n.1.length):=by
 have hll:=hl.len
 unfold Yr zbi
 refine Tt.loop (fun m s=>∃(k:Nat) (out:List Int),k≤l.length∧m=l.length-k∧s=((b:Int),l,(l.length:Int),(k:Int),n,out)∧out.Sublist (l.take k)) l.length Big.nat ⟨0,_,by omega,by omega,rfl,by simp⟩ fun m s ⟨k,out,hk,hm,hs,ho⟩ nx hnx=>?_
 subst hs
 dsimp only
 refine Tt.ite (fun c=>?_) (fun c=>?_)
 ·have c:=of_decide_eq_true c
  have hlt:k<l.length:=by omega
  have hol:=ho.length_le
  rw[List.length_take] at hol
  have ht:=List.take_succ_eq_append_getElem hlt
  refine Tt.J (fun s=>∃ out',s=((b:Int),l,(l.length:Int),(k:Int),n,out')∧out'.Sublist (l.take (k+1))) (fun ny hny=>?_) fun s ⟨out',hs,ho'⟩=>?_
  ·have hr:=hl.b _ (List.getElem_mem hlt)
   refine Tt.bs _ (atN hlt) (Tt.bs _ (jcn hb) ?_)
   obtain⟨z,hz⟩:∃ z:Nat,l[k]=(z:Int):=⟨(l[k]).toNat,by omega⟩
   rw[hz] at hr ht ⊢
   have hz':z<n.1.length:=by omega
   refine Tt.bs _ (atN hz') ?_
   obtain⟨x,hx⟩:=at4 n.1[z] (k:=b / 64) (by omega)
   obtain⟨y,hy⟩:=shr_ex x (b % 64)
   refine Tt.bs _ hx (Tt.bs _ (jb6 b) (Tt.bs _ hy ?_))
   refine Tt.ite (fun c=>?_) fun c=>hny _ ⟨_,rfl,by rw[ht];exact ho.trans (List.sublist_append_left _ _)⟩
   refine Tt.bs _ (V7 (by simp;omega) (by omega)) (hny _ ⟨_,rfl,?_⟩)
   rw[ht]
   exact ho.append (List.Sublist.refl _)
  ·subst hs
   refine Tt.b1 ?_
   dsimp only
   rw[wI (by omega) (by omega)]
   exact hnx (l.length-(k+1)) _ (by omega) ⟨k+1,_,by omega,rfl,rfl,ho'⟩
 ·exact Tt.pure (hl.sub (ho.trans (List.take_sublist _ _)))
theorem z4j (n:js) {N:Nat} (hN:N≤1000) (hz:zg1 N 60000 n) (hok:zrs n) (b:Nat) (hb:b<256):Tn (fun nn=>Vk nn n (b:Int)) (RN n.1.length):=by
 have z1:=hz.s
 unfold Vk
 refine Tt.bind (Tt.call (zcx n hN hz) Big.nat) fun r _=>?_
 refine Tt.ite (fun _=>Tt.pure (RN.nil _)) fun _=>?_
 exact Tt.bind (Tt.call (zm9 n (by omega) _ hok.fi b hb) Big.nat) fun r hr=>Tt.pure hr
theorem zuq (n:js) {N:Nat} (hN:N≤1000) (hz:zg1 N 60000 n) (hok:zrs n) (l:List Int) (hl:l.length≤1000000) (b:Nat) (hb:b<256):Tn (fun nn=>zj8 nn n l (b:Int)) (RN n.1.length):=by
 have z1:=hz.s
 have z4:=hz.f
 unfold zj8 zjh
 refine Tt.loop (fun m s=>∃(k:Nat) (al:List Int),k≤l.length∧m=l.length-k∧s=((b:Int),al,l,(l.length:Int),(k:Int),n)∧RN n.1.length al) l.length Big.nat ⟨0,_,by omega,by omega,rfl,RN.nil _⟩ fun m s ⟨k,al,hk,hm,hs,ha⟩ nx hnx=>?_
 subst hs
 dsimp only
 refine Tt.ite (fun c=>?_) (fun c=>Tt.bind (Tt.call (zm9 n (by omega) _ ha b hb) Big.nat.fst) fun r hr=>Tt.pure hr)
 have c:=of_decide_eq_true c
 have hlt:k<l.length:=by omega
 refine Tt.J (fun s=>∃ al',s=((b:Int),al',l,(l.length:Int),(k:Int),n)∧RN n.1.length al') (fun ny hny=>?_) fun s ⟨al',hs,ha'⟩=>?_
 ·refine Tt.bs _ (atN hlt) ?_
  refine Tt.J (fun s=>∃ bb,s=((b:Int),al,l[k],l,(l.length:Int),(k:Int),bb,n)∧(bb=true→0≤l[k]∧l[k]<(n.2.2.2.1.length:Int))) (fun nz hnz=>?_) fun s ⟨bb,hs,hbb⟩=>?_
  ·refine Tt.b1 (Tt.ite (fun c=>hnz _ ⟨_,rfl,fun h=>⟨of_decide_eq_true c,of_decide_eq_true h⟩⟩) fun c=>hnz _ ⟨_,rfl,fun h=>by cases h⟩)
  ·subst hs
   dsimp only
   refine Tt.ite (fun c=>?_) fun c=>hny _ ⟨_,rfl,ha⟩
   obtain⟨h0,h1⟩:=hbb c
   obtain⟨z,hz⟩:∃ z:Nat,l[k]=(z:Int):=⟨(l[k]).toNat,by omega⟩
   rw[hz] at h1 ⊢
   have hz':z<n.2.2.2.1.length:=by omega
   refine Tt.bs _ (atN hz') (Tt.bind (Tt.call (zfs (by omega) ha (hok.fo _ (List.getElem_mem hz'))) Big.nat.fst) fun u hu=>?_)
   exact hny _ ⟨_,rfl,hu.1⟩
 ·subst hs
  refine Tt.b1 ?_
  dsimp only
  rw[wI (by omega) (by omega)]
  exact hnx (l.length-(k+1)) _ (by omega) ⟨k+1,_,by omega,rfl,rfl,ha'⟩
theorem z5y (n:js) {N:Nat} (hN:N≤1000) (hz:zg1 N 60000 n) (hok:zrs n) (l:List Int) (hl:l.length≤1000000) (b:Nat) (hb:b<256):Tn (fun nn=>Yy nn n l (b:Int)) (RN n.1.length):=by
 unfold Yy
 refine Tt.bind (Tt.call (zcx n hN hz) Big.nat) fun r _=>?_
 refine Tt.ite (fun _=>Tt.pure (RN.nil _)) fun _=>?_
 exact Tt.bind (Tt.call (zuq n hN hz hok l hl b hb) Big.nat) fun r hr=>Tt.pure hr
theorem z4t (n:js) {N:Nat} (hN:N≤1000) (hz:zg1 N 60000 n) (hok:zrs n) (l:List Int) (hl:l.length≤1000000):Tn (fun nn=>Zp nn n l) (fun _=>True):=by
 unfold Zp
 refine Tt.bind (Tt.call (zcx n hN hz) Big.nat) fun r _=>?_
 refine Tt.ite (fun _=>Tt.pure trivial) fun _=>?_
 refine Tt.loop (fun m s=>∃(k:Nat) (t:Int),k≤l.length∧m=l.length-k∧s=(t,l,(l.length:Int),(k:Int),n)) l.length Big.nat ⟨0,_,by omega,by omega,rfl⟩ fun m s ⟨k,t,hk,hm,hs⟩ nx hnx=>?_
 subst hs
 dsimp only
 refine Tt.ite (fun c=>?_) (fun c=>Tt.pure trivial)
 have c:=of_decide_eq_true c
 have hlt:k<l.length:=by omega
 refine Tt.J (fun s=>∃ t,s=(t,l,(l.length:Int),(k:Int),n)) (fun ny hny=>?_) fun s ⟨t,hs⟩=>?_
 ·refine Tt.bs _ (atN hlt) ?_
  refine Tt.J (fun s=>∃ bb,s=(t,l[k],l,(l.length:Int),(k:Int),bb,n)∧(bb=false→0≤l[k]∧l[k]<(n.1.length:Int))) (fun nz hnz=>?_) fun s ⟨bb,hs,hbb⟩=>?_
  ·refine Tt.b1 (Tt.ite (fun c=>hnz _ ⟨_,rfl,fun h=>by cases h⟩) fun c=>Tt.ite (fun c2=>hnz _ ⟨_,rfl,fun h=>by cases h⟩) fun c2=>?_)
   have c:=of_decide_eq_false c
   have c2:=of_decide_eq_false c2
   have e1:=hok.o
   have e2:=hok.l
   have hr:0≤l[k]∧l[k]<(n.1.length:Int):=by omega
   obtain⟨z,hz⟩:∃ z:Nat,l[k]=(z:Int):=⟨(l[k]).toNat,by omega⟩
   have ha:atL n.2.2.1 l[k]=some (n.2.2.1[z]'(by omega)):=by rw[hz];exact atN (by omega)
   exact Tt.bs _ ha (hnz _ ⟨_,rfl,fun h=>hr⟩)
  ·subst hs
   dsimp only
   refine Tt.ite (fun c=>hny _ ⟨_,rfl⟩) fun c=>?_
   have hr:=hbb c
   have e1:=hok.o
   obtain⟨z,hz⟩:∃ z:Nat,l[k]=(z:Int):=⟨(l[k]).toNat,by omega⟩
   have ha:atL n.2.1 l[k]=some (n.2.1[z]'(by omega)):=by rw[hz];exact atN (by omega)
   refine Tt.J (fun s=>∃ t,s=(t,l[k],l,(l.length:Int),(k:Int),n)) (fun nz hnz=>?_) fun s ⟨t,hs⟩=>?_
   ·exact Tt.ite (fun c=>Tt.bs _ ha (hnz _ ⟨_,rfl⟩)) fun c=>hnz _ ⟨_,rfl⟩
   ·subst hs
    exact Tt.bs _ ha (Tt.b1 (hny _ ⟨_,rfl⟩))
 ·subst hs
  refine Tt.b1 ?_
  dsimp only
  rw[wI (by omega) (by omega)]
  exact hnx (l.length-(k+1)) _ (by omega) ⟨k+1,_,by omega,rfl,rfl⟩
end Go.Proofs.YtdllbdlnmjngcaaGreat.T

namespace Go.Proofs.YtdllbdlnmjngcaaGreat.T
open Go Go.RowKit L
set_option linter.unusedVariables false
set_option linter.unusedSimpArgs false
theorem z8y (s:Arr 4 Int) (b:Nat) (hb:b<256):Tn (fun nn=>zcn nn s (b:Int)) (fun _=>True):=by
 unfold zcn
 obtain⟨x,hx⟩:=at4 s (k:=b / 64) (by omega)
 refine Tt.bs _ (jcn hb) (Tt.bs _ (zn (by omega)) (Tt.bs _ hx (Tt.bs _ (jb6 b) ?_)))
 exact Tt.bs _ (show z0b .u64 1 ((b % 64:Nat):Int)=some _ by unfold z0b;rw[if_neg (by omega)]) (Tt.pure trivial)
section
variable {α β : Type} {eqb : α → α → Bool}
theorem zpc:∀ {m:List (α×β×Unit)} {k:α} {v:β},Qx eqb m k=none→zau eqb m k v=m++[(k,v,())]
 | [],_,_,_=>rfl
 | e :: r,k,v,h=>by
  unfold Qx at h
  unfold zau
  cases hc:eqb k e.1
  ·rw[hc] at h
   simp only[List.cons_append,zpc h]
  ·rw[hc] at h;cases h
theorem zsq {k:α} {v:β} (hk:eqb k k=true):∀ {m:List (α×β×Unit)},Qx eqb (zau eqb m k v) k=some v
 | []=>by unfold zau Qx;rw[hk]
 | e :: r=>by
  unfold zau
  cases hc:eqb k e.1
  ·unfold Qx
   rw[hc]
   exact zsq hk
  ·unfold Qx
   rw[hk]
theorem zrk:∀ {m:List (α×β×Unit)} {k:α} {v:β},Qx eqb m k=some v→∃(j:Nat) (e:α×β×Unit),m[j]? = some e∧e.2.1=v
 | [],_,_,h=>by cases h
 | e :: r,k,v,h=>by
  unfold Qx at h
  cases hc:eqb k e.1
  ·rw[hc] at h
   obtain⟨j,e',h1,h2⟩:=zrk h
   exact⟨j+1,e',by simpa using h1,h2⟩
  ·rw[hc] at h
   cases h
   exact⟨0,e,rfl,rfl⟩
end
theorem jba (k:yq):zb9 k k=true:=by simp[zb9,ztj]
theorem jay {n:Nat} {α:Type} (a:Arr n α) {k:Nat} (h:k<n) (x:α):∃ a',zqw a (k:Int) x=some a'∧a'.l=a.l.set k x:=by
 refine⟨⟨a.l.set k x,by rw[List.length_set,a.h]⟩,?_,rfl⟩
 unfold zqw
 simp[h]
structure ClsN (a:Arr 256 Int) (n:Nat):Prop where
 h1:1≤n
 h2:n≤256
 lt:∀(b:Nat) (x:Int),a.l[b]? = some x→∃ j:Nat,j<n∧x=j
 on:∀ j:Nat,j<n→∃ b:Nat,a.l[b]? = some (j:Int)
theorem ClsN.zero:ClsN ⟨List.replicate 256 0,List.length_replicate⟩ 1:=
 ⟨by omega,by omega,fun b x h=>⟨0,by omega,by rw[List.getElem?_replicate] at h;split at h<;>cases h;rfl⟩,fun j hj=>⟨0,by show(List.replicate 256 (0:Int))[0]? = some _;rw[List.getElem?_replicate,if_pos (by decide)];congr 1;omega⟩⟩
structure SplI (k:Nat) (a:Arr 256 Int) (m:List (yq×Int×Unit)):Prop where
 v:∀(j:Nat) (e:yq×Int×Unit),m[j]? = some e→e.2.1=j
 l:m.length≤k
 p:0<k→0<m.length
 lt:∀(b:Nat) (x:Int),b<k→a.l[b]? = some x→∃ j:Nat,j<m.length∧x=j
 on:∀ j:Nat,j<m.length→∃ b:Nat,b<k∧a.l[b]? = some (j:Int)
theorem SplI.step {k:Nat} {a a':Arr 256 Int} {m m':List (yq×Int×Unit)} (h:SplI k a m) (hk:k<256) {j:Nat} (ha:a'.l=a.l.set k (j:Int)) (hm:m'=m∧j<m.length∨∃ x,m'=m++[(x,(m.length:Int),())]∧j=m.length):SplI (k+1) a' m':=by
 have hl:=a.h
 have hg:a'.l[k]? = some (j:Int):=by rw[ha,List.getElem?_set_self (by omega)]
 have hn:∀ b,b≠k→a'.l[b]? = a.l[b]?:=fun b hb=>by rw[ha,List.getElem?_set_ne (by omega)]
 have hj:j<m'.length∧m.length≤m'.length∧m'.length≤m.length+1:=by
  rcases hm with ⟨e,h2⟩ | ⟨x,e,h2⟩
  ·subst e;omega
  ·subst e;simp;omega
 refine⟨fun i e he=>?_,by have:=h.l;omega,fun _=>by omega,fun b x hb hx=>?_,fun i hi=>?_⟩
 ·rcases hm with ⟨e1,h2⟩ | ⟨x,e1,h2⟩
  ·subst e1;exact h.v i e he
  ·subst e1
   by_cases hi:i<m.length
   ·rw[List.getElem?_append_left hi] at he;exact h.v i e he
   ·rw[List.getElem?_append_right (by omega)] at he
    have:i-m.length=0:=by
     cases hd:i-m.length with
     | zero=>rfl
     | succ d=>rw[hd] at he;simp at he
    rw[this] at he
    simp only[List.getElem?_cons_zero,Option.some.injEq] at he
    subst he
    simp only
    omega
 ·by_cases hbk:b=k
  ·subst hbk;rw[hg] at hx;cases hx;exact⟨j,by omega,rfl⟩
  ·rw[hn b hbk] at hx
   obtain⟨i,h1,h2⟩:=h.lt b x (by omega) hx
   exact⟨i,by omega,h2⟩
 ·by_cases hij:i=j
  ·subst hij;exact⟨k,by omega,hg⟩
  ·have him:i<m.length:=by
    rcases hm with ⟨e1,h2⟩ | ⟨x,e1,h2⟩
    ·subst e1;exact hi
    ·subst e1;simp at hi;omega
   obtain⟨b,h1,h2⟩:=h.on i him
   exact⟨b,by omega,by rw[hn b (by omega)];exact h2⟩
theorem zry (a:Arr 256 Int) (s:Arr 4 Int):Tn (fun nn=>Vh nn a s) (fun r=>∃ n,ClsN r n):=by
 unfold Vh
 refine Tt.loop (fun j t=>∃(k:Nat) (a':Arr 256 Int) (m:List (yq×Int×Unit)),k≤256∧j=256-k∧t=((k:Int),a',s,⟨List.replicate 256 0,List.length_replicate⟩,m)∧SplI k a' m) 256 Big.nat ⟨0,_,_,by omega,by omega,rfl,⟨fun j e h=>by simp at h,by simp,by omega,fun b x h=>by omega,fun j h=>by simp at h⟩⟩ fun j t ⟨k,a',m,hk,hj,ht,hi⟩ nx hnx=>?_
 subst ht
 dsimp only
 refine Tt.ite (fun c=>?_) (fun c=>Tt.pure ?_)
 ·have c:=of_decide_eq_true c
  have hlt:k<256:=by omega
  have hal:=a'.h
  have hwu:wr .u8 (k:Int)=(k:Int):=zac (by omega) (by omega)
  refine Tt.bs _ (zn hlt) (Tt.bs _ (atN (by omega)) ?_)
  rw[hwu]
  refine Tt.bind (Tt.call (z8y s k hlt) Big.nat.fst) fun r _=>?_
  generalize hkey:((a'.l[k]'(by omega),r,()):yq)=key
  have hml:=hi.l
  refine Tt.J (fun t=>∃(m':List (yq×Int×Unit)) (j:Nat),t=((k:Int),(k:Int),a',s,⟨List.replicate 256 0,List.length_replicate⟩,m',key)∧Qx zb9 m' key=some (j:Int)∧(m'=m∧j<m.length∨∃ x,m'=m++[(x,(m.length:Int),())]∧j=m.length)) (fun ny hny=>?_) fun t ⟨m',j,ht,hg,hm⟩=>?_
  ·refine Tt.b1 ?_
   cases hg:Qx zb9 m key with
   | none=>
    refine Tt.tt rfl (Tt.b1 (Tt.b1 (hny _ ⟨_,m.length,rfl,?_,Or.inr ⟨key,?_,rfl⟩⟩)))
    ·have hw:wr .u8 (m.length:Int)=(m.length:Int):=zac (by omega) (by omega)
     rw[hw];exact zsq (jba key)
    ·have hw:wr .u8 (m.length:Int)=(m.length:Int):=zac (by omega) (by omega)
     rw[hw];exact zpc hg
   | some v=>
    obtain⟨i,e,h1,h2⟩:=zrk hg
    have h3:=hi.v i e h1
    have h4:i<m.length:=by
     have:=List.getElem?_eq_some_iff.1 h1
     exact this.1
    refine Tt.ff rfl (hny _ ⟨m,i,rfl,?_,Or.inl ⟨rfl,h4⟩⟩)
    rw[hg,← h2,h3]
  ·subst ht
   dsimp only
   rw[hg]
   obtain⟨a2,e1,e2⟩:=jay a' hlt (j:Int)
   refine Tt.b1 (Tt.bs _ (zn hlt) (Tt.bs _ e1 (Tt.b1 ?_)))
   rw[wI (by omega) (by omega)]
   exact hnx (256-(k+1)) _ (by omega) ⟨k+1,a2,m',by omega,rfl,rfl,hi.step hlt e2 hm⟩
 ·have c:=of_decide_eq_false c
  have hke:k=256:=by omega
  subst hke
  refine⟨m.length,hi.p (by omega),hi.l,fun b x hx=>hi.lt b x ?_ hx,fun j hj=>?_⟩
  ·have:=List.getElem?_eq_some_iff.1 hx
   have h2:=a'.h
   have h3:=this.1
   omega
  ·obtain⟨b,h1,h2⟩:=hi.on j hj
   exact⟨b,h2⟩
theorem z5c (a:Arr 256 Int) {n:Nat} (h:ClsN a n):Tn (fun nn=>zl nn a) (fun r=>r=(n:Int)):=by
 have hl:=a.h
 have hn:=h.h2
 unfold zl
 refine Tt.loop (fun j t=>∃(k w:Nat),k≤256∧j=256-k∧t=((w:Int),a,(k:Int))∧w≤n∧∀(b:Nat) (x:Int),b<k→a.l[b]? = some x→x<(w:Int)) 256 Big.nat ⟨0,0,by omega,by omega,rfl,by omega,fun b x h=>by omega⟩ fun j t ⟨k,w,hk,hj,ht,hw,hi⟩ nx hnx=>?_
 subst ht
 dsimp only
 refine Tt.ite (fun c=>?_) (fun c=>Tt.pure ?_)
 ·have c:=of_decide_eq_true c
  have hlt:k<256:=by omega
  refine Tt.bs _ (atN (by omega)) ?_
  obtain⟨i,h1,h2⟩:=h.lt k (a.l[k]'(by omega)) (by simp[hl,hlt])
  have e1:wr .i64 (a.l[k]'(by omega))=(i:Int):=by rw[h2];exact zdt (by omega) (by omega)
  have e2:max (w:Int) (T.w64 (wr .i64 (a.l[k]'(by omega))+1))=((max w (i+1):Nat):Int):=by
   rw[e1,wI (by omega) (by omega)];omega
  rw[e2]
  refine Tt.b1 (Tt.b1 ?_)
  rw[wI (by omega) (by omega)]
  refine hnx (256-(k+1)) _ (by omega) ⟨k+1,_,by omega,rfl,rfl,by omega,fun b x hb hx=>?_⟩
  by_cases hbk:b=k
  ·subst hbk
   rw[List.getElem?_eq_getElem (by omega)] at hx
   have:=Option.some.inj hx
   omega
  ·have:=hi b x (by omega) hx
   omega
 ·have c:=of_decide_eq_false c
  have h1:=h.h1
  obtain⟨b,hb⟩:=h.on (n-1) (by omega)
  have h3:=(List.getElem?_eq_some_iff.1 hb).1
  have:=hi b _ (by omega) hb
  omega
theorem ja7 (l:List (Arr 4 Int)) (hl:l.length≤1000000):Tn (fun nn=>zem nn l) (fun r=>∃ n:Nat,ClsN r.1 n∧r.2.1=(n:Int)):=by
 unfold zem
 refine Tt.loop (fun j t=>∃(k:Nat) (a:Arr 256 Int),k≤l.length∧j=l.length-k∧t=(l,(l.length:Int),(k:Int),⟨List.replicate 256 0,List.length_replicate⟩,a)∧∃ n,ClsN a n) l.length Big.nat ⟨0,_,by omega,by omega,rfl,1,ClsN.zero⟩ fun j t ⟨k,a,hk,hj,ht,n,ha⟩ nx hnx=>?_
 subst ht
 dsimp only
 refine Tt.ite (fun c=>?_) (fun c=>?_)
 ·have c:=of_decide_eq_true c
  have hlt:k<l.length:=by omega
  refine Tt.bs _ (atN hlt) (Tt.bind (Tt.call (zry a _) Big.nat.fst) fun a2 h2=>Tt.b1 ?_)
  rw[wI (by omega) (by omega)]
  exact hnx (l.length-(k+1)) _ (by omega) ⟨k+1,_,by omega,rfl,rfl,h2⟩
 ·exact Tt.bind (Tt.call (z5c a ha) Big.nat.fst) fun w hw=>Tt.pure ⟨n,ha,hw⟩
theorem z3p (a:Arr 256 Int) {n:Nat} (h:ClsN a n) (c:Nat) (hc:c<n):Tn (fun nn=>Vq nn a (c:Int)) (fun r=>∃ b:Nat,b<256∧atL r 0=some (b:Int)):=by
 have hl:=a.h
 have hn:=h.h2
 unfold Vq
 refine Tt.loop (fun j t=>∃(k:Nat) (out:List Int),k≤256∧j=256-k∧t=((c:Int),(k:Int),a,out)∧out.length≤k∧(∀ x∈out,∃ b:Nat,b<256∧x=(b:Int))∧((∃ b:Nat,b<k∧a.l[b]? = some (c:Int))→0<out.length)) 256 Big.nat ⟨0,_,by omega,by omega,rfl,by simp,by simp,fun⟨b,h,_⟩=>by omega⟩ fun j t ⟨k,out,hk,hj,ht,ho,hx,hp⟩ nx hnx=>?_
 subst ht
 dsimp only
 refine Tt.ite (fun c1=>?_) (fun c1=>Tt.pure ?_)
 ·have c1:=of_decide_eq_true c1
  have hlt:k<256:=by omega
  refine Tt.J (fun t=>∃ out',t=((c:Int),(k:Int),a,out')∧out'.length≤k+1∧(∀ x∈out',∃ b:Nat,b<256∧x=(b:Int))∧((∃ b:Nat,b<k+1∧a.l[b]? = some (c:Int))→0<out'.length)) (fun ny hny=>?_) fun t ⟨out',ht,h1,h2,h3⟩=>?_
  ·refine Tt.bs _ (zn hlt) (Tt.bs _ (atN (by omega)) ?_)
   obtain⟨i,h1,h2⟩:=h.lt k (a.l[k]'(by omega)) (by simp[hl,hlt])
   have e1:wr .i64 (a.l[k]'(by omega))=(i:Int):=by rw[h2];exact zdt (by omega) (by omega)
   rw[e1]
   refine Tt.ite (fun c2=>?_) fun c2=>hny _ ⟨_,rfl,by omega,hx,fun⟨b,hb,hb2⟩=>?_⟩
   ·have hw:wr .u8 (k:Int)=(k:Int):=zac (by omega) (by omega)
    rw[hw]
    refine Tt.bs _ (V7 (by simp;omega) (by omega)) (hny _ ⟨_,rfl,by simp;omega,fun x hxx=>?_,fun _=>by simp⟩)
    rcases List.mem_append.1 hxx with h | h
    ·exact hx x h
    ·exact⟨k,hlt,List.mem_singleton.1 h⟩
   ·refine hp ⟨b,?_,hb2⟩
    have:b≠k:=fun e=>by
     subst e
     rw[List.getElem?_eq_getElem (by omega)] at hb2
     have:=Option.some.inj hb2
     have c2:=of_decide_eq_false c2
     omega
    omega
  ·subst ht
   refine Tt.b1 ?_
   dsimp only
   rw[wI (by omega) (by omega)]
   exact hnx (256-(k+1)) _ (by omega) ⟨k+1,_,by omega,rfl,rfl,h1,h2,h3⟩
 ·have c1:=of_decide_eq_false c1
  obtain⟨b,hb⟩:=h.on c hc
  have h3:=(List.getElem?_eq_some_iff.1 hb).1
  have:=hp ⟨b,by omega,hb⟩
  cases out with
  | nil=>simp at this
  | cons x r=>
   obtain⟨b',h1,h2⟩:=hx x (by simp)
   exact⟨b',h1,by rw[h2];rfl⟩
theorem jbd (l:List Int) (hl:l.length≤1000):Tn (fun nn=>V5 nn l) (fun _=>True):=by
 unfold V5
 refine Tt.loop (fun j t=>∃(k:Nat) (out:List Int),k≤l.length∧j=l.length-k∧t=(l,(l.length:Int),(k:Int),out)∧out.length=8*k) l.length Big.nat ⟨0,_,by omega,by omega,rfl,by simp⟩ fun j t ⟨k,out,hk,hj,ht,ho⟩ nx hnx=>?_
 subst ht
 dsimp only
 refine Tt.ite (fun c=>?_) (fun c=>?_)
 ·have c:=of_decide_eq_true c
  have hlt:k<l.length:=by omega
  refine Tt.bs _ (atN hlt) ?_
  refine Tt.loop (fun m t=>∃(i:Nat) (out:List Int),i≤8∧m=8-i∧t=(l[k],(56-8*i:Int),l,(l.length:Int),(k:Int),out)∧out.length=8*k+i) 8 Big.nat.fst ⟨0,_,by omega,by omega,rfl,by omega⟩ fun m t ⟨i,out,hi,hm,ht,ho⟩ ny hny=>?_
  subst ht
  dsimp only
  refine Tt.ite (fun c=>?_) (fun c=>?_)
  ·have c:=of_decide_eq_true c
   refine Tt.bs _ (show zku .u64 (wr .u64 l[k]) (56-8*i:Int)=some _ by unfold zku;rw[if_neg (by omega)]) ?_
   refine Tt.bs _ (V7 (by simp;omega) (by omega)) (Tt.b1 ?_)
   rw[wI (by omega) (by omega)]
   exact hny (8-(i+1)) _ (by omega) ⟨i+1,_,by omega,rfl,by congr 2;omega,by simp;omega⟩
  ·have c:=of_decide_eq_false c
   refine Tt.b1 ?_
   rw[wI (by omega) (by omega)]
   exact(hnx (l.length-(k+1)) _ (by omega) ⟨k+1,_,by omega,rfl,rfl,by omega⟩).fst
 ·exact Tt.bs _ rfl (Tt.pure trivial)
end Go.Proofs.YtdllbdlnmjngcaaGreat.T

namespace Go.Proofs.YtdllbdlnmjngcaaGreat.T
open Go Go.RowKit L
set_option linter.unusedVariables false
set_option linter.unusedSimpArgs false
structure DSz (d:D_api_Dfa):Prop where
 c:∃ n,ClsN d.1 n
 w:0≤d.2.1∧d.2.1≤256
 n:d.2.2.1.length≤300
 l:d.2.2.2.1.length≤300
 r:∀ x∈d.2.2.1,x.length≤256
theorem DSz.zero:DSz (⟨List.replicate 256 0,List.length_replicate⟩,0,[],[],()):=⟨⟨1,ClsN.zero⟩,by simp,by simp,by simp,by simp⟩
structure DBI (N w M q:Nat) (next:List (List Int)) (label:List Int) (all:List (List Int)):Prop where
 a:all.length≤M
 qa:q≤all.length
 r:∀ x∈all,RN N x
 n:next.length=q
 l:label.length=q
 rw:∀ x∈next,x.length=w
abbrev Wh:=List ((List UInt8)×Int×Unit)
abbrev DBS:=Int×Int×Int×Int×js×(Arr 256 Int)×Int×(Arr 256 Int)×Int×(List Int)×(List (List Int))×(List Int)×(List (List Int))×(List Int)×(List (List Int))×Wh
def DBP (n:js) (Z a:Arr 256 Int) (M q w c:Nat) (next:List (List Int)) (label:List Int) (s:DBS):Prop:=
 ∃(row:List Int) (all:List (List Int)) (wh:Wh),s=((M:Int),(q:Int),(w:Int),(c:Int),n,Z,0,a,(w:Int),row,[],[],next,label,all,wh)∧row.length=w∧all.length≤M+1∧q<all.length∧∀ x∈all,RN n.1.length x
theorem z2o {ι:Type} {D:Fi ι} {φ:ι→Nat} {β:Type} {Q:β→Prop} (hφ:Big D φ) {n:js} {Z a:Arr 256 Int} {M q w c:Nat} {next:List (List Int)} {label:List Int} (hM:M≤200) (hc:c<w) (hN:n.1.length≤1000) {row:List Int} {all:List (List Int)} {wh:Wh} (hr:row.length=w) (h1:all.length≤M) (h2:q<all.length) (h3:∀ x∈all,RN n.1.length x)
  {nx:ι→DBS→Option β} (hnx:Nx D Q (DBP n Z a M q w c next label) nx) {x17:List Int} (hx:RN n.1.length x17) :
  Tt D (fun i=>ifB (decide ((x17.length:Int)=0)) (ja (qz row.length (c:Int)) fun x18=>ja (Zg row x18 (-1)) fun x19=>nx i ((M:Int),(q:Int),(w:Int),(c:Int),n,Z,0,a,(w:Int),x19,[],[],next,label,all,wh)) (ja (V5 (φ i) x17) fun x20=>ja (some (Qx zw9 wh x20)) fun x21=>J (fun(x22:Int×(List ((List UInt8)×Int×Unit))×(List (List Int)))=>ja (qz row.length (c:Int)) fun x24=>ja (Zg row x24 x22.1) fun x25=>nx i ((M:Int),(q:Int),(w:Int),(c:Int),n,Z,0,a,(w:Int),x25,[],[],next,label,x22.2.2,x22.2.1)) fun x23=>ifB (!x21.isSome) (ja (some (all.length:Int)) fun x26=>ja (some (zau zw9 wh x20 x26)) fun x27=>ja (apO 24 all [x17]) fun x28=>x23 (x26,x27,x28)) (x23 (gD 0 x21,wh,all)))) Q:=by
 have hxl:=hx.len
 refine Tt.ite (fun _=>Tt.bs _ (zn (by omega)) (Tt.bs _ (zgn _ (by omega)) (hnx _ ⟨_,_,_,rfl,by simp[hr],by omega,h2,h3⟩))) fun _=>?_
 refine Tt.bind (Tt.call (jbd _ (by omega)) hφ) fun key _=>Tt.b1 ?_
 refine Tt.J (fun s=>∃(v:Int) (wh:Wh) (all:List (List Int)),s=(v,wh,all)∧all.length≤M+1∧q<all.length∧∀ x∈all,RN n.1.length x) (fun ny hny=>?_) fun s ⟨v,wh,all,hs,h1,h2,h3⟩=>?_
 ·refine Tt.ite (fun _=>Tt.b1 (Tt.b1 (Tt.bs _ (V7 (by simp;omega) (by omega)) (hny _ ⟨_,_,_,rfl,by simp;omega,by simp;omega,fun x hx'=>?_⟩)))) fun _=>hny _ ⟨_,_,_,rfl,by omega,h2,h3⟩
  rcases List.mem_append.1 hx' with h | h
  ·exact h3 x h
  ·rw[List.mem_singleton.1 h];exact hx
 ·subst hs
  exact Tt.bs _ (zn (by omega)) (Tt.bs _ (zgn _ (by omega)) (hnx _ ⟨_,_,_,rfl,by simp[hr],h1,h2,h3⟩))
theorem z1m (n:js) {N:Nat} (hN:N≤1000) (hz:zg1 N 60000 n) (z:Int) (hzz:z≤200):Tn (fun nn=>zbe nn n z) (fun r=>DSz r.1):=by
 have z1:=hz.s
 unfold zbe
 refine Tt.bind (Tt.call (zcx n hN hz) Big.nat) fun r hr=>?_
 refine Tt.ite (fun _=>Tt.pure DSz.zero) fun c=>?_
 have hok:=hr (by simpa using c)
 refine Tt.J (fun s=>∃ b,s=(z,b,n,⟨List.replicate 256 0,List.length_replicate⟩,0,[],[])∧(b=false→1≤z)) (fun nx hnx=>?_) fun s ⟨b,hs,hb⟩=>?_
 ·exact Tt.b1 (Tt.ite (fun c=>hnx _ ⟨_,rfl,fun h=>by cases h⟩) fun c=>hnx _ ⟨_,rfl,fun _=>by have:=of_decide_eq_false c;omega⟩)
 subst hs
 dsimp only
 refine Tt.ite (fun _=>Tt.pure DSz.zero) fun c=>?_
 have h1:=hb c
 obtain⟨M,rfl⟩:∃ M:Nat,z=(M:Int):=⟨z.toNat,by omega⟩
 refine Tt.bind (Tt.call (ja7 n.1 (by omega)) Big.nat) fun qq ⟨w,hcl,hw⟩=>?_
 obtain⟨a,w',u⟩:=qq
 simp only at hcl hw
 subst hw
 have hw2:=hcl.h2
 have hZ:=ClsN.zero
 generalize (⟨List.replicate 256 0,List.length_replicate⟩:Arr 256 Int)=Z at hZ ⊢
 refine Tt.loop (fun m s=>∃(q:Nat) (next:List (List Int)) (label:List Int) (all:List (List Int)) (wh:Wh),m=M-q∧s=((M:Int),(q:Int),n,Z,0,a,(w:Int),[],[],next,label,all,wh)∧DBI n.1.length w M q next label all) M Big.nat ⟨0,_,_,_,_,by omega,rfl,⟨by simp;omega,by simp,fun x hx=>by rw[List.mem_singleton.1 hx];exact RN.nil _,rfl,rfl,by simp⟩⟩ fun m s ⟨q,next,label,all,wh,hm,hs,hi⟩ nx hnx=>?_
 subst hs
 dsimp only
 have i1:=hi.a
 have i2:=hi.qa
 have i3:=hi.n
 have i4:=hi.l
 refine Tt.ite (fun c=>?_) (fun c=>Tt.pure ⟨⟨w,hcl⟩,by simp only;omega,by simp only;omega,by simp only;omega,fun x hx=>by rw[hi.rw x hx];omega⟩)
 have c:=of_decide_eq_true c
 refine Tt.bs _ (mkN (n:=w) (by omega) (by omega)) ?_
 simp only[List.length_replicate]
 refine Tt.loop (fun m s=>∃(c:Nat) (row:List Int) (all:List (List Int)) (wh:Wh),m=w-c∧c≤w∧s=((M:Int),(q:Int),(w:Int),(c:Int),n,Z,0,a,(w:Int),row,[],[],next,label,all,wh)∧row.length=w∧all.length≤M∧q<all.length∧∀ x∈all,RN n.1.length x) w Big.nat.fst ⟨0,_,_,_,by omega,by omega,rfl,by simp,i1,by omega,hi.r⟩ fun m s ⟨c,row,all,wh,hm,hc,hs,j1,j2,j3,j4⟩ ny hny=>?_
 subst hs
 dsimp only
 refine Tt.ite (fun c1=>?_) (fun c1=>?_)
 ·have c1:=of_decide_eq_true c1
  refine Tt.bind (Tt.call (z3p a hcl c (by omega)) Big.nat.fst.fst) fun bs ⟨b,hb,hbs⟩=>?_
  refine Tt.bs _ hbs ?_
  refine Tt.J (DBP n Z a M q w c next label) (fun nz hnz=>?_) fun s ⟨row,all,wh,hs,k1,k2,k3,k4⟩=>?_
  ·refine Tt.ite (fun c2=>?_) (fun c2=>?_)
   ·refine Tt.J (DBP n Z a M q w c next label) (fun nu hnu=>?_) fun s ⟨row,all,wh,hs,k1,k2,k3,k4⟩=>?_
    ·refine Tt.bind (Tt.call (z4j n hN hz hok b hb) Big.nat.fst.fst) fun r hr=>?_
     exact z2o Big.nat.fst.fst (by omega) (by omega) (by omega) j1 j2 j3 j4 hnu hr
    ·subst hs
     exact hnz _ ⟨_,_,_,rfl,k1,k2,k3,k4⟩
   ·refine Tt.J (DBP n Z a M q w c next label) (fun nu hnu=>?_) fun s ⟨row,all,wh,hs,k1,k2,k3,k4⟩=>?_
    ·have hq:=j4 _ (List.getElem_mem j3)
     have hql:=hq.len
     refine Tt.bs _ (zn j3) (Tt.bs _ (atN j3) ?_)
     refine Tt.bind (Tt.call (z5y n hN hz hok _ (by omega) b hb) Big.nat.fst.fst) fun r hr=>?_
     exact z2o Big.nat.fst.fst (by omega) (by omega) (by omega) j1 j2 j3 j4 hnu hr
    ·subst hs
     exact hnz _ ⟨_,_,_,rfl,k1,k2,k3,k4⟩
  ·subst hs
   dsimp only
   refine Tt.ite (fun _=>Tt.pure ?_) fun c2=>Tt.b1 ?_
   ·exact⟨⟨1,hZ⟩,by simp,by simp,by simp,by simp⟩
   have c2:=of_decide_eq_false c2
   rw[wI (by omega) (by omega)]
   exact hny (w-(c+1)) _ (by omega) ⟨c+1,_,_,_,rfl,by omega,rfl,k1,by omega,k3,k4⟩
 ·have hq:=j4 _ (List.getElem_mem j3)
  have hql:=hq.len
  refine Tt.bs _ (V7 (by simp;omega) (by omega)) (Tt.bs _ (zn j3) (Tt.bs _ (atN j3) ?_))
  refine Tt.bind (Tt.call (z4t n hN hz hok _ (by omega)) Big.nat.fst.fst) fun t _=>?_
  refine Tt.bs _ (V7 (by simp;omega) (by omega)) (Tt.b1 ?_)
  rw[wI (by omega) (by omega)]
  refine(hnx (M-(q+1)) _ (by omega) ⟨q+1,_,_,_,_,rfl,rfl,⟨j2,by omega,j4,by simp;omega,by simp;omega,fun x hx=>?_⟩⟩).fst
  rcases List.mem_append.1 hx with h | h
  ·exact hi.rw x h
  ·rw[List.mem_singleton.1 h];exact j1
end Go.Proofs.YtdllbdlnmjngcaaGreat.T

namespace Go.Proofs.YtdllbdlnmjngcaaGreat.T
open Go Go.RowKit L
set_option linter.unusedVariables false
set_option linter.unusedSimpArgs false
theorem z08 (a:Arr 256 Int):Tn (fun nn=>zl nn a) (fun r=>True):=by
 have hl:=a.h
 unfold zl
 refine Tt.loop (fun j t=>∃(k:Nat) (w:Int),k≤256∧j=256-k∧t=(w,a,(k:Int))) 256 Big.nat ⟨0,0,by omega,by omega,rfl⟩ fun j t ⟨k,w,hk,hj,ht⟩ nx hnx=>?_
 subst ht
 dsimp only
 refine Tt.ite (fun c=>?_) (fun c=>Tt.pure trivial)
 have c:=of_decide_eq_true c
 refine Tt.bs _ (atN (by omega)) (Tt.b1 (Tt.b1 ?_))
 rw[wI (z:=(k:Int)+1) (by omega) (by omega)]
 exact hnx (256-(k+1)) _ (by omega) ⟨k+1,_,by omega,rfl,rfl⟩
theorem z1a (a:Arr 256 Int):Tn (fun nn=>Zo nn a) (fun r=>True):=by
 unfold Zo
 exact Tt.bind (Tt.call (zry a _) Big.nat) fun r _=>Tt.pure trivial
structure DRt (d:D_api_Dfa):Prop where
 n0:0<d.2.2.1.length
 lab:d.2.2.2.1.length=d.2.2.1.length
 row:∀ x∈d.2.2.1,(x.length:Int)=d.2.1
 nx:∀ x∈d.2.2.1,∀ y∈x, -1≤y∧y<(d.2.2.1.length:Int)
theorem zrd {α:Type} {l:List α} {k:Nat} (h:k<l.length) {P:α→Prop} (h1:∀ x∈l.take k,P x) (h2:P l[k]):∀ x∈l.take (k+1),P x:=fun x hx=>by
 rw[List.take_succ_eq_append_getElem h] at hx
 rcases List.mem_append.1 hx with h | h
 ·exact h1 x h
 ·rw[List.mem_singleton.1 h];exact h2
theorem dRight_tot (d:D_api_Dfa) (hd:DSz d):Tn (fun nn=>p_dfa_Right nn d) (fun b=>b=true→DRt d):=by
 have s1:=hd.n
 have s2:=hd.l
 unfold p_dfa_Right
 refine Tt.b1 ?_
 refine Tt.J (fun s=>∃ b,s=((d.2.2.1.length:Int),b,d)∧(b=false→0<d.2.2.1.length∧d.2.2.2.1.length=d.2.2.1.length)) (fun nx hnx=>?_) fun s ⟨b,hs,hb⟩=>?_
 ·refine Tt.b1 (Tt.ite (fun c=>hnx _ ⟨_,rfl,fun h=>by cases h⟩) fun c=>Tt.ite (fun c=>hnx _ ⟨_,rfl,fun h=>by cases h⟩) fun c2=>?_)
  refine Tt.bind (Tt.call (z1a _) Big.nat) fun r _=>Tt.ite (fun c=>hnx _ ⟨_,rfl,fun h=>by cases h⟩) fun c3=>?_
  refine Tt.bind (Tt.call (z08 _) Big.nat) fun r _=>hnx _ ⟨_,rfl,fun _=>?_⟩
  have c:=of_decide_eq_false c
  have c2:=of_decide_eq_false c2
  omega
 subst hs
 dsimp only
 refine Tt.ite (fun _=>Tt.pure fun h=>by cases h) fun c=>?_
 obtain⟨e1,e2⟩:=hb c
 refine Tt.J (fun b=>b=true→DRt d) (fun nx hnx=>?_) fun s hs=>Tt.pure hs
 refine Tt.loop (fun m s=>∃ k:Nat,k≤d.2.2.1.length∧m=d.2.2.1.length-k∧s=((d.2.2.1.length:Int),true,d.2.2.1,(d.2.2.1.length:Int),(k:Int),d)∧∀ x∈d.2.2.1.take k,(x.length:Int)=d.2.1∧∀ y∈x, -1≤y∧y<(d.2.2.1.length:Int)) d.2.2.1.length Big.nat ⟨0,by omega,by omega,rfl,by simp⟩ fun m s ⟨k,hk,hm,hs,hi⟩ ny hny=>?_
 subst hs
 dsimp only
 refine Tt.ite (fun c=>?_) (fun c=>hnx.fst _ fun _=>?_)
 ·have c:=of_decide_eq_true c
  have hlt:k<d.2.2.1.length:=by omega
  have hrl:=hd.r _ (List.getElem_mem hlt)
  refine Tt.bs _ (atN hlt) ?_
  refine Tt.J (fun s=>∃ b,s=((d.2.2.1.length:Int),true,d.2.2.1[k],d.2.2.1,(d.2.2.1.length:Int),(k:Int),b,d)∧(b=false→((d.2.2.1[k]).length:Int)=d.2.1)) (fun nz hnz=>?_) fun s ⟨b,hs,hb⟩=>?_
  ·refine Tt.b1 (Tt.ite (fun c=>hnz _ ⟨_,rfl,fun h=>by cases h⟩) fun c=>?_)
   have c:=of_decide_eq_false c
   exact Tt.bs _ (atN (by omega)) (hnz _ ⟨_,rfl,fun _=>by omega⟩)
  ·subst hs
   dsimp only
   refine Tt.ite (fun _=>hnx.fst _ fun h=>by cases h) fun c=>?_
   have hrw:=hb c
   refine Tt.loop (fun m s=>∃ j:Nat,j≤(d.2.2.1[k]).length∧m=(d.2.2.1[k]).length-j∧s=((d.2.2.1.length:Int),true,d.2.2.1,(d.2.2.1.length:Int),(k:Int),d.2.2.1[k],((d.2.2.1[k]).length:Int),(j:Int),d)∧∀ y∈(d.2.2.1[k]).take j, -1≤y∧y<(d.2.2.1.length:Int)) (d.2.2.1[k]).length Big.nat.fst ⟨0,by omega,by omega,rfl,by simp⟩ fun m s ⟨j,hj,hm,hs,hij⟩ nz hnz=>?_
   subst hs
   dsimp only
   refine Tt.ite (fun c=>?_) (fun c=>?_)
   ·have c:=of_decide_eq_true c
    have hlt2:j<(d.2.2.1[k]).length:=by omega
    refine Tt.bs _ (atN hlt2) ?_
    refine Tt.J (fun s=>∃ b,s=((d.2.2.1.length:Int),true,d.2.2.1,(d.2.2.1.length:Int),(k:Int),d.2.2.1[k],((d.2.2.1[k]).length:Int),(j:Int),b,d)∧(b=false → -1≤(d.2.2.1[k])[j]∧(d.2.2.1[k])[j]<(d.2.2.1.length:Int))) (fun nu hnu=>?_) fun s ⟨b,hs,hb⟩=>?_
    ·refine Tt.b1 (Tt.ite (fun c=>hnu _ ⟨_,rfl,fun h=>by cases h⟩) fun c=>hnu _ ⟨_,rfl,fun h=>?_⟩)
     have c:=of_decide_eq_false c
     have c2:=of_decide_eq_false h
     omega
    ·subst hs
     dsimp only
     refine Tt.ite (fun _=>hnx.fst.fst _ fun h=>by cases h) fun c=>Tt.b1 ?_
     rw[wI (by omega) (by omega)]
     exact hnz ((d.2.2.1[k]).length-(j+1)) _ (by omega) ⟨j+1,by omega,rfl,rfl,zrd hlt2 hij (hb c)⟩
   ·have c:=of_decide_eq_false c
    have hje:j=(d.2.2.1[k]).length:=by omega
    rw[hje,List.take_length] at hij
    refine Tt.b1 ?_
    rw[wI (by omega) (by omega)]
    exact(hny (d.2.2.1.length-(k+1)) _ (by omega) ⟨k+1,by omega,rfl,rfl,zrd hlt hi ⟨hrw,hij⟩⟩).fst
 ·have c:=of_decide_eq_false c
  have hke:k=d.2.2.1.length:=by omega
  rw[hke,List.take_length] at hi
  exact⟨e1,e2,fun x hx=>(hi x hx).1,fun x hx=>(hi x hx).2⟩
end Go.Proofs.YtdllbdlnmjngcaaGreat.T

namespace Go.Proofs.YtdllbdlnmjngcaaGreat
open Go Go.RowKit L
set_option linter.unusedVariables false
set_option linter.unusedSimpArgs false
structure MOk (d:jz):Prop where
 n0:0<d.jv.length
 lab:d.yx.length=d.jv.length
 w:0≤d.Zz∧d.Zz≤256
 row:∀ i:Int,0≤i→i<d.jv.length→((at' d.jv i).length:Int)=d.Zz
 nx:∀ i c:Int,0≤i→i<d.jv.length→0≤c→c<d.Zz → -1≤at' (at' d.jv i) c∧at' (at' d.jv i) c<d.jv.length
theorem zfx (d:jz) (hd:T.DSz (zsa d)):Tot (Qw d) (fun b=>b=true→MOk d):=by
 obtain⟨r,⟨N,h1⟩,h2⟩:=T.dRight_tot _ hd
 refine⟨r,N,h1,fun hr=>?_⟩
 have h:=h2 hr
 refine⟨h.n0,h.lab,hd.w,fun i h0 hi=>h.row _ (zdz h0 hi),fun i c h0 hi hc hc2=>?_⟩
 have hr:=h.row _ (zdz h0 hi)
 exact h.nx _ (zdz h0 hi) _ (zdz hc (by show c<((at' d.jv i).length:Int);rw[show((at' d.jv i).length:Int)=d.Zz from hr];exact hc2))
def nxt (d:jz) (i:Nat) (c:Int):Int:=at' (at' d.jv i) c
def dE (d:jz) (i j:Nat):Prop:=i<d.jv.length∧∃ c:Int,0≤c∧c<d.Zz∧nxt d i c=j
def lblI (d:jz) (i:Nat):Int:=at' d.yx i
theorem zj5 {α:Type} [Inhabited α] {l:List α} {k:Nat} (h:k<l.length) (p:α→Bool):(l.take (k+1)).filter p=if p (at' l (k:Int)) then (l.take k).filter p++[at' l (k:Int)] else (l.take k).filter p:=by
 rw[List.take_succ_eq_append_getElem h,zgb h,List.filter_append]
 by_cases hp:p l[k]<;>simp[hp]
theorem zuq (d:jz) (hm:MOk d) (i:Nat) (hi:i<d.jv.length):Tot (Ya d i) (· = (at' d.jv i).filter fun x=>decide (0≤x)):=by
 unfold Ya
 have hw:=hm.w
 have hr:=hm.row i (by omega) (by omega)
 repeat (first | with_reducible (refine Tot.bp ?_) | with_reducible (refine Tot.bb ?_) | (refine Tot.ct ?_ ?_;focus (first | with_reducible rfl | (simp (disch:=omega) only [qv,qu,bl_];done))) | (refine Tot.cf ?_ ?_;focus (first | with_reducible rfl | (simp (disch:=omega) only [qv,qu,bl_];done))) | with_reducible (refine Tot.bc ?_) | ((first | refine Tot.rdx ?_ ?_ | refine Tot.apx ?_ ?_ | refine Tot.mkx ?_ ?_);focus (first | omega | (simp;done) | (simp;omega))))
 refine Tot.part (· = (at' d.jv i).filter fun x=>decide (0≤x)) ?_ fun a ha=>Tot.pure ha
 refine Tot.forC (fun s=>s.1) (at' d.jv i).length (fun k (s:Int×List Int)=>s.1=(k:Int)∧s.2=((at' d.jv i).take k).filter fun x=>decide (0≤x)) (fun k s h=>h.1) ?_ ?_ ⟨rfl,by simp⟩
 ·rintro k ⟨_,l⟩ hk ⟨rfl,h⟩
  simp only at h
  have hl:l.length≤k:=by rw[h];exact Nat.le_trans (List.length_filter_le ..) (by simp;omega)
  have hs:=zj5 hk (fun x=>decide (0≤x))
  rw[← h] at hs
  repeat (first | with_reducible (refine Tot.bp ?_) | with_reducible (refine Tot.bb ?_) | (refine Tot.ct ?_ ?_;focus (first | with_reducible rfl | (simp (disch:=omega) only [qv,qu,bl_];done))) | (refine Tot.cf ?_ ?_;focus (first | with_reducible rfl | (simp (disch:=omega) only [qv,qu,bl_];done))) | with_reducible (refine Tot.bc ?_) | ((first | refine Tot.rdx ?_ ?_ | refine Tot.apx ?_ ?_ | refine Tot.mkx ?_ ?_);focus (first | omega | (simp;done) | (simp;omega))))
  refine Tot.cond (fun hb=>?_) fun hb=>?_
  ·repeat (first | with_reducible (refine Tot.bp ?_) | with_reducible (refine Tot.bb ?_) | (refine Tot.ct ?_ ?_;focus (first | with_reducible rfl | (simp (disch:=omega) only [qv,qu,bl_];done))) | (refine Tot.cf ?_ ?_;focus (first | with_reducible rfl | (simp (disch:=omega) only [qv,qu,bl_];done))) | with_reducible (refine Tot.bc ?_) | ((first | refine Tot.rdx ?_ ?_ | refine Tot.apx ?_ ?_ | refine Tot.mkx ?_ ?_);focus (first | omega | (simp;done) | (simp;omega))))
   rw[hb,if_pos rfl] at hs
   exact Tot.pure ⟨za1 (by omega),hs.symm⟩
  ·rw[hb] at hs
   exact Tot.pure ⟨za1 (by omega),hs.symm⟩
 ·rintro⟨_,l⟩ ⟨rfl,h⟩
  repeat (first | with_reducible (refine Tot.bp ?_) | with_reducible (refine Tot.bb ?_) | (refine Tot.ct ?_ ?_;focus (first | with_reducible rfl | (simp (disch:=omega) only [qv,qu,bl_];done))) | (refine Tot.cf ?_ ?_;focus (first | with_reducible rfl | (simp (disch:=omega) only [qv,qu,bl_];done))) | with_reducible (refine Tot.bc ?_) | ((first | refine Tot.rdx ?_ ?_ | refine Tot.apx ?_ ?_ | refine Tot.mkx ?_ ?_);focus (first | omega | (simp;done) | (simp;omega))))
  rw[List.take_length] at h
  exact Tot.pure h
theorem z2d {d:jz} (hm:MOk d) {i:Nat} (hi:i<d.jv.length) {x:Int}:x∈at' d.jv i↔∃ c:Int,0≤c∧c<d.Zz∧nxt d i c=x:=by
 have hr:=hm.row i (by omega) (by omega)
 constructor
 ·intro h
  obtain⟨c,hc,rfl⟩:=List.getElem_of_mem h
  exact⟨c,by omega,by omega,by unfold nxt;rw[zgb hc]⟩
 ·rintro⟨c,h0,h1,rfl⟩
  exact zdz h0 (by omega)
theorem zwb (d:jz) (hm:MOk d) (i:Nat) (hi:i<d.jv.length):((at' d.jv i).filter fun x=>decide (0≤x)).length≤256∧(∀ x∈(at' d.jv i).filter fun x=>decide (0≤x),0≤x∧x<d.jv.length)∧∀ j:Nat,(j:Int)∈((at' d.jv i).filter fun x=>decide (0≤x))↔dE d i j:=by
 have hw:=hm.w
 have hr:=hm.row i (by omega) (by omega)
 refine⟨Nat.le_trans (List.length_filter_le ..) (by omega),fun x hx=>?_,fun j=>?_⟩
 ·obtain⟨h1,h2⟩:=List.mem_filter.1 hx
  obtain⟨c,h3,h4,rfl⟩:=(z2d hm hi).1 h1
  have:=hm.nx i c (by omega) (by omega) h3 h4
  simp at h2
  exact⟨h2,this.2⟩
 ·rw[List.mem_filter,z2d hm hi]
  unfold dE
  simp[hi]
theorem zmj (d:jz) (hd:T.DSz (zsa d)) (b:Bool) (hb:Tot (Qw d) (· = b)):Tot (Jn d) (fun r=>b=false∧r=[]∨b=true∧r.length=d.jv.length):=by
 have hn:d.jv.length≤300:=hd.n
 unfold Jn
 obtain⟨b',N',hb1,hb2⟩:=zfx d hd
 have hR:b=true→MOk d:=by
  obtain⟨c,N,h1,h2⟩:=hb
  have e:=(h1 (max N N') (by omega)).symm.trans (hb1 (max N N') (by omega))
  have e:=Option.some.inj e
  intro h;exact hb2 (e▸h2▸h)
 refine Tot.bindE hb ?_
 cases b
 ·repeat (first | with_reducible (refine Tot.bp ?_) | with_reducible (refine Tot.bb ?_) | (refine Tot.ct ?_ ?_;focus (first | with_reducible rfl | (simp (disch:=omega) only [qv,qu,bl_];done))) | (refine Tot.cf ?_ ?_;focus (first | with_reducible rfl | (simp (disch:=omega) only [qv,qu,bl_];done))) | with_reducible (refine Tot.bc ?_) | ((first | refine Tot.rdx ?_ ?_ | refine Tot.apx ?_ ?_ | refine Tot.mkx ?_ ?_);focus (first | omega | (simp;done) | (simp;omega))))
  exact Tot.pure (.inl ⟨rfl,rfl⟩)
 have hm:=hR rfl
 have:=hm.n0
 repeat (first | with_reducible (refine Tot.bp ?_) | with_reducible (refine Tot.bb ?_) | (refine Tot.ct ?_ ?_;focus (first | with_reducible rfl | (simp (disch:=omega) only [qv,qu,bl_];done))) | (refine Tot.cf ?_ ?_;focus (first | with_reducible rfl | (simp (disch:=omega) only [qv,qu,bl_];done))) | with_reducible (refine Tot.bc ?_) | ((first | refine Tot.rdx ?_ ?_ | refine Tot.apx ?_ ?_ | refine Tot.mkx ?_ ?_);focus (first | omega | (simp;done) | (simp;omega))))
 refine Tot.part (· = zuh d.jv.length (dE d) (fun i=>i=0)) ?_ (fun a ha=>Tot.pure (.inr ⟨rfl,by rw[ha,zn5]⟩))
 have h:=zoz d.jv.length [0] (fun y=>ze y d) (dE d) (by omega) (by simp) (fun x hx=>by simp at hx;subst hx;omega) (fun i hi=>by
  unfold ze
  refine Tot.bindE (zuq d hm i hi) (Tot.pure ?_)
  obtain⟨h1,h2,h3⟩:=zwb d hm i hi
  exact⟨by omega,h2,h3⟩)
 refine h.mono fun a ha=>?_
 rw[ha]
 congr 1
 funext i
 simp
theorem jby {α:Type} [Inhabited α] {l:List α} {z:Int} {j:Nat} {v:α} (h0:0≤z) (h1:z<l.length):at' (l.set z.toNat v) (j:Int)=if (j:Int)=z then v else at' l (j:Int):=by
 by_cases h:(j:Int)=z
 ·rw[if_pos h,h];exact jam h0 h1
 ·rw[if_neg h];exact at_ne h0 (by omega) (fun e=>h e.symm)
theorem at_rep {α:Type} [Inhabited α] {n j:Nat} {v:α} (h:j<n):at' (List.replicate n v) (j:Int)=v:=by
 rw[zgb (by simpa using h)];simp
theorem zq5 (d:jz) (hd:T.DSz (zsa d)) (b:Bool) (hb:Tot (Qw d) (· = b)):Tot (Vb d) (fun r=>b=false∧r=[]∨b=true∧r.length=d.jv.length):=by
 have hn:d.jv.length≤300:=hd.n
 unfold Vb
 obtain⟨b',N',hb1,hb2⟩:=zfx d hd
 have hR:b=true→MOk d:=by
  obtain⟨c,N,h1,h2⟩:=hb
  have e:=(h1 (max N N') (by omega)).symm.trans (hb1 (max N N') (by omega))
  have e:=Option.some.inj e
  intro h;exact hb2 (e▸h2▸h)
 refine Tot.bindE hb ?_
 cases b
 ·repeat (first | with_reducible (refine Tot.bp ?_) | with_reducible (refine Tot.bb ?_) | (refine Tot.ct ?_ ?_;focus (first | with_reducible rfl | (simp (disch:=omega) only [qv,qu,bl_];done))) | (refine Tot.cf ?_ ?_;focus (first | with_reducible rfl | (simp (disch:=omega) only [qv,qu,bl_];done))) | with_reducible (refine Tot.bc ?_) | ((first | refine Tot.rdx ?_ ?_ | refine Tot.apx ?_ ?_ | refine Tot.mkx ?_ ?_);focus (first | omega | (simp;done) | (simp;omega))))
  exact Tot.pure (.inl ⟨rfl,rfl⟩)
 have hm:=hR rfl
 have hn0:=hm.n0
 have hlab:=hm.lab
 have hw:=hm.w
 repeat (first | with_reducible (refine Tot.bp ?_) | with_reducible (refine Tot.bb ?_) | (refine Tot.ct ?_ ?_;focus (first | with_reducible rfl | (simp (disch:=omega) only [qv,qu,bl_];done))) | (refine Tot.cf ?_ ?_;focus (first | with_reducible rfl | (simp (disch:=omega) only [qv,qu,bl_];done))) | with_reducible (refine Tot.bc ?_) | ((first | refine Tot.rdx ?_ ?_ | refine Tot.apx ?_ ?_ | refine Tot.mkx ?_ ?_);focus (first | omega | (simp;done) | (simp;omega))))
 generalize hA:List.replicate (d.jv.length:Int).toNat ([]:List Int)=A
 have hA1:A.length=d.jv.length:=by rw[← hA];simp
 have hA2:∀ j:Nat,j<d.jv.length→at' A (j:Int)=[]:=fun j hj=>by rw[← hA];exact at_rep (by simpa using hj)
 refine Tot.part (fun(r:List Int×List (List Int))=>r.1.length≤d.jv.length∧(∀ x∈r.1,0≤x)∧(∀ i:Nat,(i:Int)∈r.1↔i<d.jv.length∧0≤lblI d i)∧r.2.length=d.jv.length∧∀ j:Nat,j<d.jv.length→(at' r.2 j).length≤d.jv.length*256∧(∀ x∈at' r.2 j,0≤x)∧∀ i:Nat,(i:Int)∈at' r.2 j↔dE d i j) ?_ ?_
 ·refine Tot.forC (fun s=>s.1) d.jv.length (fun k (s:Int×List Int×List (List Int))=>s.1=(k:Int)∧s.2.1.length≤k∧(∀ x∈s.2.1,0≤x)∧(∀ i:Nat,(i:Int)∈s.2.1↔i<k∧0≤lblI d i)∧s.2.2.length=d.jv.length∧∀ j:Nat,j<d.jv.length→(at' s.2.2 j).length≤k*256∧(∀ x∈at' s.2.2 j,0≤x)∧∀ i:Nat,(i:Int)∈at' s.2.2 j↔i<k∧dE d i j) (fun k s h=>h.1) ?_ ?_ ⟨rfl,by simp,by simp,by simp,hA1,fun j hj=>by rw[hA2 j hj];simp⟩
  ·rintro k ⟨_,lab,back⟩ hk ⟨rfl,h1,h2,h3,h4,h5⟩
   simp only at h1 h2 h3 h4 h5
   obtain⟨o1,o2,o3⟩:=zwb d hm k hk
   repeat (first | with_reducible (refine Tot.bp ?_) | with_reducible (refine Tot.bb ?_) | (refine Tot.ct ?_ ?_;focus (first | with_reducible rfl | (simp (disch:=omega) only [qv,qu,bl_];done))) | (refine Tot.cf ?_ ?_;focus (first | with_reducible rfl | (simp (disch:=omega) only [qv,qu,bl_];done))) | with_reducible (refine Tot.bc ?_) | ((first | refine Tot.rdx ?_ ?_ | refine Tot.apx ?_ ?_ | refine Tot.mkx ?_ ?_);focus (first | omega | (simp;done) | (simp;omega))))
   refine Tot.bindE (zuq d hm k hk) ?_
   generalize (at' d.jv k).filter (fun x=>decide (0≤x))=on at o1 o2 o3 ⊢
   refine Tot.bb ?_
   refine Tot.part (fun(b:List (List Int))=>b.length=d.jv.length∧∀ j:Nat,j<d.jv.length→(at' b j).length≤(k+1)*256∧(∀ x∈at' b j,0≤x)∧∀ i:Nat,(i:Int)∈at' b j↔i<k+1∧dE d i j) ?_ ?_
   ·refine Tot.forC (fun s=>s.1) on.length (fun c (s:Int×List (List Int))=>s.1=(c:Int)∧s.2.length=d.jv.length∧∀ j:Nat,j<d.jv.length→(at' s.2 j).length≤k*256+c∧(∀ x∈at' s.2 j,0≤x)∧∀ i:Nat,(i:Int)∈at' s.2 j↔(i<k∧dE d i j)∨(i=k∧(j:Int)∈on.take c)) (fun k s h=>h.1) ?_ ?_ ⟨rfl,h4,fun j hj=>by simpa using h5 j hj⟩
    ·rintro c ⟨_,b⟩ hc ⟨rfl,g1,g2⟩
     simp only at g1 g2
     have hmem:=zdz (l:=on) (z:=(c:Int)) (by omega) (by omega)
     have hy:=o2 _ hmem
     obtain⟨q,hq⟩:=Int.eq_ofNat_of_zero_le hy.1
     have g3:=g2 q (by omega)
     repeat (first | with_reducible (refine Tot.bp ?_) | with_reducible (refine Tot.bb ?_) | (refine Tot.ct ?_ ?_;focus (first | with_reducible rfl | (simp (disch:=omega) only [qv,qu,bl_];done))) | (refine Tot.cf ?_ ?_;focus (first | with_reducible rfl | (simp (disch:=omega) only [qv,qu,bl_];done))) | with_reducible (refine Tot.bc ?_) | ((first | refine Tot.rdx ?_ ?_ | refine Tot.apx ?_ ?_ | refine Tot.mkx ?_ ?_);focus (first | omega | (simp;done) | (simp;omega))))
     rw[hq] at hy ⊢
     repeat (first | with_reducible (refine Tot.bp ?_) | with_reducible (refine Tot.bb ?_) | (refine Tot.ct ?_ ?_;focus (first | with_reducible rfl | (simp (disch:=omega) only [qv,qu,bl_];done))) | (refine Tot.cf ?_ ?_;focus (first | with_reducible rfl | (simp (disch:=omega) only [qv,qu,bl_];done))) | with_reducible (refine Tot.bc ?_) | ((first | refine Tot.rdx ?_ ?_ | refine Tot.apx ?_ ?_ | refine Tot.mkx ?_ ?_);focus (first | omega | (simp;done) | (simp;omega))))
     refine Tot.pure ⟨za1 (by omega),by simp[g1],fun j hj=>?_⟩
     simp only
     rw[jby hy.1 (by omega)]
     by_cases hjq:(j:Int)=q
     ·rw[if_pos hjq]
      have hjq2:j=q:=by omega
      subst hjq2
      refine⟨by simp;omega,fun x hx=>?_,fun i=>?_⟩
      ·rcases List.mem_append.1 hx with h | h
       ·exact g3.2.1 x h
       ·simp at h;omega
      ·rw[List.mem_append,g3.2.2 i,Qk hc,hq]
       simp only[List.mem_singleton]
       constructor
       ·rintro((h | h) | h)
        ·exact .inl h
        ·exact .inr ⟨h.1, .inl h.2⟩
        ·exact .inr ⟨by omega, .inr trivial⟩
       ·rintro(h | ⟨h,h2 | h2⟩)
        ·exact .inl (.inl h)
        ·exact .inl (.inr ⟨h,h2⟩)
        ·exact .inr (by omega)
     ·rw[if_neg hjq]
      have g4:=g2 j hj
      refine⟨by omega,g4.2.1,fun i=>?_⟩
      rw[g4.2.2 i,Qk hc,hq]
      constructor
      ·rintro(h | h)
       ·exact .inl h
       ·exact .inr ⟨h.1, .inl h.2⟩
      ·rintro(h | ⟨h,h2 | h2⟩)
       ·exact .inl h
       ·exact .inr ⟨h,h2⟩
       ·omega
    ·rintro⟨_,b⟩ ⟨rfl,g1,g2⟩
     simp only at g1 g2
     repeat (first | with_reducible (refine Tot.bp ?_) | with_reducible (refine Tot.bb ?_) | (refine Tot.ct ?_ ?_;focus (first | with_reducible rfl | (simp (disch:=omega) only [qv,qu,bl_];done))) | (refine Tot.cf ?_ ?_;focus (first | with_reducible rfl | (simp (disch:=omega) only [qv,qu,bl_];done))) | with_reducible (refine Tot.bc ?_) | ((first | refine Tot.rdx ?_ ?_ | refine Tot.apx ?_ ?_ | refine Tot.mkx ?_ ?_);focus (first | omega | (simp;done) | (simp;omega))))
     refine Tot.pure ⟨g1,fun j hj=>?_⟩
     have g3:=g2 j hj
     refine⟨by omega,g3.2.1,fun i=>?_⟩
     rw[g3.2.2 i,List.take_length,o3 j]
     constructor
     ·rintro(h | h)
      ·exact⟨by omega,h.2⟩
      ·exact⟨by omega,h.1▸h.2⟩
     ·rintro⟨h,h2⟩
      by_cases hik:i=k
      ·subst hik;exact .inr ⟨rfl,h2⟩
      ·exact .inl ⟨by omega,h2⟩
   ·rintro b ⟨g1,g2⟩
    refine Tot.bc ?_
    refine Tot.cond (fun hb=>?_) fun hb=>?_
    ·simp only[decide_eq_true_eq] at hb
     repeat (first | with_reducible (refine Tot.bp ?_) | with_reducible (refine Tot.bb ?_) | (refine Tot.ct ?_ ?_;focus (first | with_reducible rfl | (simp (disch:=omega) only [qv,qu,bl_];done))) | (refine Tot.cf ?_ ?_;focus (first | with_reducible rfl | (simp (disch:=omega) only [qv,qu,bl_];done))) | with_reducible (refine Tot.bc ?_) | ((first | refine Tot.rdx ?_ ?_ | refine Tot.apx ?_ ?_ | refine Tot.mkx ?_ ?_);focus (first | omega | (simp;done) | (simp;omega))))
     refine Tot.pure ⟨za1 (by omega),by simp;omega,?_,?_,g1,g2⟩
     ·intro x hx
      rcases List.mem_append.1 hx with h | h
      ·exact h2 x h
      ·simp at h;omega
     ·intro i
      simp only
      rw[List.mem_append,h3 i,List.mem_singleton]
      constructor
      ·rintro(h | h)
       ·exact⟨by omega,h.2⟩
       ·have:i=k:=by omega
        subst this;exact⟨by omega,hb⟩
      ·rintro⟨h,h2⟩
       by_cases hik:i=k
       ·right;omega
       ·exact .inl ⟨by omega,h2⟩
    ·simp only[decide_eq_false_iff_not] at hb
     refine Tot.pure ⟨za1 (by omega),by simp only;omega,h2,?_,g1,g2⟩
     intro i
     simp only
     rw[h3 i]
     constructor
     ·rintro⟨h,h2⟩;exact⟨by omega,h2⟩
     ·rintro⟨h,h2⟩
      by_cases hik:i=k
      ·subst hik;exact absurd h2 hb
      ·exact⟨by omega,h2⟩
  ·rintro⟨_,lab,back⟩ ⟨rfl,h1,h2,h3,h4,h5⟩
   simp only at h1 h2 h3 h4 h5
   repeat (first | with_reducible (refine Tot.bp ?_) | with_reducible (refine Tot.bb ?_) | (refine Tot.ct ?_ ?_;focus (first | with_reducible rfl | (simp (disch:=omega) only [qv,qu,bl_];done))) | (refine Tot.cf ?_ ?_;focus (first | with_reducible rfl | (simp (disch:=omega) only [qv,qu,bl_];done))) | with_reducible (refine Tot.bc ?_) | ((first | refine Tot.rdx ?_ ?_ | refine Tot.apx ?_ ?_ | refine Tot.mkx ?_ ?_);focus (first | omega | (simp;done) | (simp;omega))))
   refine Tot.pure ⟨h1,h2,h3,h4,fun j hj=>?_⟩
   have:=h5 j hj
   refine⟨this.1,this.2.1,fun i=>?_⟩
   simp only
   rw[this.2.2 i]
   exact⟨fun h=>h.2,fun h=>⟨h.1,h⟩⟩
 ·rintro⟨lab,back⟩ ⟨h1,h2,h3,h4,h5⟩
  simp only at h1 h2 h3 h4 h5
  refine Tot.part (· = zuh d.jv.length (fun i j=>dE d j i) (fun i=>i<d.jv.length∧0≤lblI d i)) ?_ (fun a ha=>Tot.pure (.inr ⟨rfl,by rw[ha,zn5]⟩))
  have h:=zoz d.jv.length lab (fun y=>Jm y back) (fun i j=>dE d j i) (by omega) (by omega) (fun x hx=>by
   have:=h2 x hx
   obtain⟨q,rfl⟩:=Int.eq_ofNat_of_zero_le this
   exact⟨this,by have:=((h3 q).1 hx).1;omega⟩) (fun i hi=>by
   unfold Jm
   repeat (first | with_reducible (refine Tot.bp ?_) | with_reducible (refine Tot.bb ?_) | (refine Tot.ct ?_ ?_;focus (first | with_reducible rfl | (simp (disch:=omega) only [qv,qu,bl_];done))) | (refine Tot.cf ?_ ?_;focus (first | with_reducible rfl | (simp (disch:=omega) only [qv,qu,bl_];done))) | with_reducible (refine Tot.bc ?_) | ((first | refine Tot.rdx ?_ ?_ | refine Tot.apx ?_ ?_ | refine Tot.mkx ?_ ?_);focus (first | omega | (simp;done) | (simp;omega))))
   obtain⟨k1,k2,k3⟩:=h5 i hi
   refine Tot.pure ⟨by omega,fun x hx=>⟨k2 x hx,?_⟩,fun j=>k3 j⟩
   obtain⟨q,rfl⟩:=Int.eq_ofNat_of_zero_le (k2 x hx)
   have:=((k3 q).1 hx).1
   omega)
  refine h.mono fun a ha=>?_
  rw[ha]
  congr 1
  funext i
  rw[h3 i]
end Go.Proofs.YtdllbdlnmjngcaaGreat

namespace Go.Proofs.YtdllbdlnmjngcaaGreat.T
open Go Go.RowKit L
set_option maxRecDepth 100000
theorem jaz (nn:Nat):Qg (nn+300)=some true:=by kernel_rfl
end Go.Proofs.YtdllbdlnmjngcaaGreat.T

namespace Go.Proofs.YtdllbdlnmjngcaaGreat.T
open Go Go.RowKit L
set_option linter.unusedVariables false
set_option linter.unusedSimpArgs false
theorem zhz (d:D_api_Dfa) (hd:DSz d) {b:Bool} (hb:Tn (fun nn=>p_dfa_Right nn d) (· = b)):Tn (fun nn=>Vr nn d) (fun r=>b=false∧r=[]∨b=true∧r.length=d.2.2.1.length):=by
 obtain⟨r,⟨N,h1⟩,h2⟩:=hb
 obtain⟨r,N,h1,h2⟩:=zmj (zmr d) hd b ⟨r,N,h1,h2⟩
 exact⟨r,⟨N,h1⟩,h2⟩
theorem z1j (d:D_api_Dfa) (hd:DSz d) {b:Bool} (hb:Tn (fun nn=>p_dfa_Right nn d) (· = b)):Tn (fun nn=>zcs nn d) (fun r=>b=false∧r=[]∨b=true∧r.length=d.2.2.1.length):=by
 obtain⟨r,⟨N,h1⟩,h2⟩:=hb
 obtain⟨r,N,h1,h2⟩:=zq5 (zmr d) hd b ⟨r,N,h1,h2⟩
 exact⟨r,⟨N,h1⟩,h2⟩
theorem zxm (d:D_api_Dfa) (hd:DSz d):Tn (fun nn=>Qj nn d) (fun r=>r.length≤300):=by
 have s1:=hd.n
 obtain⟨b,hb,hq⟩:=(dRight_tot d hd).val
 unfold Qj
 refine Tt.bind (Tt.call (zhz d hd hb) Big.nat) fun r hr=>?_
 have hr2:r.length≤d.2.2.1.length∧(0<r.length→d.2.2.2.1.length=d.2.2.1.length):=by
  rcases hr with ⟨_,rfl⟩ | ⟨h1,h2⟩
  ·simp
  ·exact⟨by omega,fun _=>(hq h1).lab⟩
 refine Tt.loop (fun m s=>∃(k:Nat) (l:List Int),k≤r.length∧m=r.length-k∧s=(r,(r.length:Int),(k:Int),d,l)∧l.length≤k) r.length Big.nat ⟨0,_,by omega,by omega,rfl,by simp⟩ fun m s ⟨k,l,hk,hm,hs,hl⟩ nx hnx=>?_
 subst hs
 dsimp only
 refine Tt.ite (fun c=>?_) (fun c=>?_)
 ·have c:=of_decide_eq_true c
  have hlt:k<r.length:=by omega
  have hlab:=hr2.2 (by omega)
  have hll:k<d.2.2.2.1.length:=by omega
  refine Tt.J (fun s=>∃ l,s=(r,(r.length:Int),(k:Int),d,l)∧l.length≤k+1) (fun ny hny=>?_) fun s ⟨l,hs,hl⟩=>?_
  ·refine Tt.bs _ (atN hlt) ?_
   refine Tt.J (fun s=>∃ b,s=((k:Int),r,(r.length:Int),(k:Int),b,d,l)) (fun nz hnz=>?_) fun s ⟨b,hs⟩=>?_
   ·exact Tt.ite (fun c=>Tt.bs _ (atN hll) (hnz _ ⟨_,rfl⟩)) fun c=>hnz _ ⟨_,rfl⟩
   ·subst hs
    dsimp only
    refine Tt.ite (fun c=>Tt.bs _ (atN hll) (Tt.bs _ (V7 (by simp;omega) (by omega)) (hny _ ⟨_,rfl,by simp;omega⟩))) fun c=>hny _ ⟨_,rfl,by omega⟩
  ·subst hs
   refine Tt.b1 ?_
   dsimp only
   rw[wI (by omega) (by omega)]
   exact hnx (r.length-(k+1)) _ (by omega) ⟨k+1,_,by omega,rfl,rfl,hl⟩
 ·have hsl:(Vy l).length=l.length:=zgp _
  refine Tt.bs _ (sm7 (by omega)) (Tt.bs _ (sm7 (by omega)) (Tt.pure ?_))
  have:=zls (Vy l)
  omega
theorem z0k (l:List Int) (x:Int) (hl:l.length≤1000000):Tn (fun nn=>vz nn l x) (fun _=>True):=by
 unfold vz
 refine Tt.loop (fun m s=>∃(k:Nat),k≤l.length∧m=l.length-k∧s=(l,x,(l.length:Int),(k:Int))) l.length Big.nat ⟨0,by omega,by omega,rfl⟩ fun m s ⟨k,hk,hm,hs⟩ nx hnx=>?_
 subst hs
 dsimp only
 refine Tt.ite (fun c=>?_) (fun c=>Tt.pure trivial)
 have c:=of_decide_eq_true c
 have hlt:k<l.length:=by omega
 refine Tt.bs _ (atN hlt) (Tt.ite (fun _=>Tt.pure trivial) fun _=>Tt.b1 ?_)
 rw[wI (by omega) (by omega)]
 exact hnx (l.length-(k+1)) _ (by omega) ⟨k+1,by omega,rfl,rfl⟩
theorem z0u (g:jb) (hg:g.1.length≤1000000) (d:D_api_Dfa) (hd:DSz d) (t:List (List Int)):Tn (fun nn=>yi nn (some (g,d,t,()))) (fun _=>True):=by
 unfold yi
 refine Tt.b1 (Tt.bind (Tt.call (zxm d hd) Big.nat) fun r hr=>?_)
 refine Tt.J (fun _=>True) (fun nx hnx=>Tt.b1 ?_) fun s _=>Tt.pure trivial
 refine Tt.loop (fun m s=>∃(k:Nat),k≤g.1.length∧m=g.1.length-k∧s=(13,1,(g.1.length:Int),(k:Int),r,(0,0,0,()))) g.1.length Big.nat ⟨0,by omega,by omega,rfl⟩ fun m s ⟨k,hk,hm,hs⟩ ny hny=>?_
 subst hs
 dsimp only
 refine Tt.ite (fun c=>?_) (fun c=>hnx.fst _ trivial)
 have c:=of_decide_eq_true c
 refine Tt.bind (R:=fun _=>True) ?_ fun b _=>Tt.ite (fun _=>hnx.fst _ trivial) fun _=>Tt.b1 ?_
 ·unfold yl
  exact Tt.bind (Tt.call (z0k r _ (by omega)) Big.nat.fst) fun _ _=>Tt.pure trivial
 ·rw[wI (by omega) (by omega)]
  exact hny (g.1.length-(k+1)) _ (by omega) ⟨k+1,by omega,rfl,rfl⟩
theorem z79 (d:D_api_Dfa) (hd:DSz d):Tn (fun nn=>za7 nn d) (fun _=>True):=by
 have s1:=hd.n
 have s2:=hd.w
 obtain⟨b,hb,hq⟩:=(dRight_tot d hd).val
 unfold za7
 refine Tt.bind (Tt.call hb Big.nat) fun b' hb'=>?_
 subst hb'
 refine Tt.ite (fun _=>Tt.pure trivial) fun c=>?_
 have hbt:b'=true:=by simpa using c
 subst hbt
 have hR:=hq rfl
 refine Tt.bind (Tt.call (zhz d hd hb) Big.nat) fun re hre=>?_
 refine Tt.bind (Tt.call (z1j d hd hb) Big.nat) fun al hal=>?_
 have hre:re.length=d.2.2.1.length:=by rcases hre with ⟨h,_⟩ | ⟨_,h⟩;cases h;exact h
 have hal:al.length=d.2.2.1.length:=by rcases hal with ⟨h,_⟩ | ⟨_,h⟩;cases h;exact h
 refine Tt.b1 (Tt.bs _ (mkN (by omega) (by omega)) ?_)
 simp only[List.length_replicate]
 generalize (⟨List.replicate 256 0,List.length_replicate⟩:Arr 256 Int)=Z
 refine Tt.loop (fun m s=>∃(k:Nat) (nu ke:List Int),k≤d.2.2.1.length∧m=d.2.2.1.length-k∧s=(re,al,(d.2.2.1.length:Int),(k:Int),d,Z,0,nu,ke,[],[])∧nu.length=d.2.2.1.length∧ke.length≤k∧∀ x∈ke,∃ j:Nat,j<d.2.2.1.length∧x=(j:Int)) d.2.2.1.length Big.nat ⟨0,_,_,by omega,by omega,rfl,by simp,by simp,by simp⟩ fun m s ⟨k,nu,ke,hk,hm,hs,h1,h2,h3⟩ nx hnx=>?_
 subst hs
 dsimp only
 refine Tt.ite (fun c=>?_) (fun c=>?_)
 ·have c:=of_decide_eq_true c
  have hlt:k<d.2.2.1.length:=by omega
  refine Tt.J (fun s=>∃(nu ke:List Int),s=(re,al,(d.2.2.1.length:Int),(k:Int),d,Z,0,nu,ke,[],[])∧nu.length=d.2.2.1.length∧ke.length≤k+1∧∀ x∈ke,∃ j:Nat,j<d.2.2.1.length∧x=(j:Int)) (fun ny hny=>?_) fun s ⟨nu,ke,hs,h1,h2,h3⟩=>?_
  ·refine Tt.bs _ (zn (by omega)) (Tt.bs _ (zgn _ (by omega)) ?_)
   have hnl:(nu.set k (-1)).length=d.2.2.1.length:=by simp[h1]
   generalize nu.set k (-1)=nu at hnl ⊢
   refine Tt.J (fun s=>∃ b,s=(re,al,(k:Int),(d.2.2.1.length:Int),(k:Int),b,d,Z,0,nu,ke,[],[])) (fun nz hnz=>?_) fun s ⟨b,hs⟩=>?_
   ·refine Tt.b1 (Tt.ite (fun _=>hnz _ ⟨_,rfl⟩) fun _=>Tt.bs _ (atN (by omega)) (Tt.ite (fun _=>Tt.bs _ (atN (by omega)) (hnz _ ⟨_,rfl⟩)) fun _=>hnz _ ⟨_,rfl⟩))
   ·subst hs
    dsimp only
    refine Tt.ite (fun _=>?_) fun _=>hny _ ⟨_,_,rfl,hnl,by omega,h3⟩
    refine Tt.bs _ (zn (by omega)) (Tt.bs _ (zgn _ (by omega)) (Tt.bs _ (V7 (by simp;omega) (by omega)) (hny _ ⟨_,_,rfl,by simp[hnl],by simp;omega,fun x hx=>?_⟩)))
    rcases List.mem_append.1 hx with h | h
    ·exact h3 x h
    ·exact⟨k,hlt,List.mem_singleton.1 h⟩
  ·subst hs
   refine Tt.b1 ?_
   dsimp only
   rw[wI (by omega) (by omega)]
   exact hnx (d.2.2.1.length-(k+1)) _ (by omega) ⟨k+1,_,_,by omega,rfl,rfl,h1,h2,h3⟩
 obtain⟨W,hW⟩:∃ W:Nat,d.2.1=(W:Int):=⟨d.2.1.toNat,by omega⟩
 refine Tt.loop (fun m s=>∃(i:Nat) (on:List (List Int)) (ol:List Int),i≤ke.length∧m=ke.length-i∧s=((ke.length:Int),(i:Int),d,Z,0,nu,d.1,d.2.1,ke,[],[],on,ol)∧on.length≤i∧ol.length≤i) ke.length Big.nat.fst ⟨0,_,_,by omega,by omega,rfl,by simp,by simp⟩ fun m s ⟨i,on,ol,hi,hm,hs,h4,h5⟩ ny hny=>?_
 subst hs
 dsimp only
 refine Tt.ite (fun c=>?_) (fun c=>Tt.pure trivial)
 have c:=of_decide_eq_true c
 have hlt:i<ke.length:=by omega
 obtain⟨j,hj,ej⟩:=h3 _ (List.getElem_mem hlt)
 have hrow:=hR.row _ (List.getElem_mem hj)
 have hrnx:=hR.nx _ (List.getElem_mem hj)
 have hlab:=hR.lab
 refine Tt.bs _ (zn hlt) (Tt.bs _ (atN hlt) ?_)
 rw[ej,hW]
 refine Tt.bs _ (mkN (n:=W) (by omega) (by omega)) (Tt.bs _ (atN hj) ?_)
 generalize hro:d.2.2.1[j]=row at hrow hrnx
 have hcp:z6p (List.replicate W (0:Int)) row=some (((min (List.replicate W (0:Int)).length row.length:Nat):Int),row):=by
  unfold z6p
  congr 2
  rw[List.length_replicate,List.take_of_length_le (by omega),List.drop_eq_nil_of_le (by simp;omega),List.append_nil]
 refine Tt.bs _ hcp ?_
 refine Tt.loop (fun m s=>∃(q:Nat) (row':List Int),q≤row.length∧m=row.length-q∧s=((j:Int),(ke.length:Int),(i:Int),(row.length:Int),(q:Int),d,Z,0,nu,d.1,(W:Int),row',ke,[],[],on,ol)∧row'.length=row.length∧∀ q',q≤q'→row'[q']? = row[q']?) row.length Big.nat.fst.fst ⟨0,_,by omega,by omega,rfl,rfl,fun _ _=>rfl⟩ fun m s ⟨q,row',hq',hm,hs,h6,h7⟩ nz hnz=>?_
 subst hs
 dsimp only
 refine Tt.ite (fun c=>?_) (fun c=>?_)
 ·have c:=of_decide_eq_true c
  have hql:q<row'.length:=by omega
  have hqr:q<row.length:=by omega
  have hge:row'[q]=row[q]:=by
   have:=h7 q (Nat.le_refl _)
   rw[List.getElem?_eq_getElem hql,List.getElem?_eq_getElem hqr] at this
   exact Option.some.inj this
  have hrg:=hrnx _ (List.getElem_mem hqr)
  refine Tt.J (fun s=>∃ row',s=((j:Int),(ke.length:Int),(i:Int),(row.length:Int),(q:Int),d,Z,0,nu,d.1,(W:Int),row',ke,[],[],on,ol)∧row'.length=row.length∧∀ q',q+1≤q'→row'[q']? = row[q']?) (fun nu' hnu'=>?_) fun s ⟨row',hs,h6,h7⟩=>?_
  ·refine Tt.bs _ (zn hql) (Tt.bs _ (atN hql) ?_)
   rw[hge]
   refine Tt.ite (fun c2=>?_) fun c2=>hnu' _ ⟨_,rfl,h6,fun q' h=>h7 q' (by omega)⟩
   have c2:=of_decide_eq_true c2
   obtain⟨t,et⟩:∃ t:Nat,row[q]=(t:Int):=⟨(row[q]).toNat,by omega⟩
   rw[et] at hrg ⊢
   refine Tt.bs _ (zn (by omega)) (Tt.bs _ (atN (by omega)) (Tt.bs _ (zn hql) (Tt.bs _ (zgn _ hql) (hnu' _ ⟨_,rfl,by simp[h6],fun q' h=>?_⟩))))
   rw[List.getElem?_set_ne (by omega)]
   exact h7 q' (by omega)
  ·subst hs
   refine Tt.b1 ?_
   dsimp only
   rw[wI (by omega) (by omega)]
   exact hnz (row.length-(q+1)) _ (by omega) ⟨q+1,_,by omega,rfl,rfl,h6,h7⟩
 ·refine Tt.bs _ (V7 (by simp;omega) (by omega)) (Tt.bs _ (atN (by omega)) (Tt.bs _ (V7 (by simp;omega) (by omega)) (Tt.b1 ?_)))
  rw[wI (by omega) (by omega)]
  rw[hW] at hny
  exact(hny (ke.length-(i+1)) _ (by omega) ⟨i+1,_,_,by omega,rfl,rfl,by simp;omega,by simp;omega⟩).fst
structure zzh (g:jb):Prop where
 ok:GOk g
 r:GR g
 k:∃ em re al B,Kn g em re al B∧NC g em al B
abbrev zD:D_api_Dfa:=(⟨List.replicate 256 0,List.length_replicate⟩,0,[],[],())
theorem z4c (g:jb) (hg:Vd g) (hs:zar g.1≤120) (ht:g.1.length≤12) (hst:g.2.2.2.2.1≤200):Tn (fun nn=>Vp nn g) (fun r=>r.2.2.1.1=0→zzh g):=by
 unfold Vp
 obtain⟨dd,hdd,hdq⟩:=(znk g hg).val
 refine Tt.J (fun s=>∃(Z:Arr 256 Int) (z1:jk) (g2:jb) (d:D_api_Dfa) (e:jk) (l1:List (List Int)) (l2:List Int) (l3:List (List Int)),s=(g,Z,z1,g2,d,e,l1,l2,l3)∧DSz d∧(e.1=0→zzh g)) (fun nx hnx=>?_) fun s ⟨Z,z1,g2,d,e,l1,l2,l3,hs,h1,h2⟩=>?_
 ·have hno:∀ {Z z1 g2} {d:D_api_Dfa} {e:jk} {l1 l2 l3},DSz d→¬ e.1=0→Tt Fi.nat (fun i=>nx i (g,Z,z1,g2,d,e,l1,l2,l3)) _:=fun h1 h2=>hnx _ ⟨_,_,_,_,_,_,_,_,rfl,h1,fun h=>absurd h h2⟩
  have t1:Tn (fun nn=>Ju nn (some (g,zD,[],()))) (· = dd):=by
   unfold Ju
   exact Tt.b1 (Tt.bind (Tt.call hdd Big.nat) fun r hr=>Tt.pure hr)
  refine Tt.bind (Tt.call t1 Big.nat) fun d1 hd1=>?_
  subst hd1
  refine Tt.ite (fun c=>hno DSz.zero (of_decide_eq_true c)) fun c=>?_
  have c:=of_decide_eq_false c
  have c0:d1.1=0:=by omega
  have hok:=hdq c0
  have hR:GR g:=by
   unfold GR qm
   exact Tt.bind (Tt.call hdd Big.nat) fun r hr=>Tt.pure (by subst hr;exact decide_eq_true c0)
  obtain⟨em,re,al,B,hk⟩:=Kn_of g hg hR hok
  refine Tt.bind (Tt.call (z07 hg hok _) Big.nat) fun d2 _=>?_
  refine Tt.ite (fun c=>hno DSz.zero (of_decide_eq_true c)) fun _=>?_
  refine Tt.bind (Tt.call (z0r hg hR hok _) Big.nat) fun d3 _=>?_
  refine Tt.ite (fun c=>hno DSz.zero (of_decide_eq_true c)) fun _=>?_
  refine Tt.bind (Tt.call (z0i hg hR hok _) Big.nat) fun d4 _=>?_
  refine Tt.ite (fun c=>hno DSz.zero (of_decide_eq_true c)) fun _=>?_
  refine Tt.bind (Tt.call (zz5 hg hR hok hk _) Big.nat) fun d5 h5=>?_
  refine Tt.ite (fun c=>hno DSz.zero (of_decide_eq_true c)) fun c5=>?_
  have c5:=of_decide_eq_false c5
  have hgood:zzh g:=⟨hok,hR,em,re,al,B,hk,h5 (by omega)⟩
  have hyes:∀ {Z z1 g2} {d:D_api_Dfa} {e:jk} {l1 l2 l3},DSz d→Tt Fi.nat (fun i=>nx i (g,Z,z1,g2,d,e,l1,l2,l3)) _:=fun h1=>hnx _ ⟨_,_,_,_,_,_,_,_,rfl,h1,fun _=>hgood⟩
  refine Tt.J (fun s=>∃(Z:Arr 256 Int) (z1:jk) (d:D_api_Dfa) (e:jk) (l1:List (List Int)) (l2:List Int) (l3:List (List Int)),s=(g,Z,z1,g,d,e,l1,l2,l3)∧DSz d) (fun ny hny=>?_) fun s ⟨Z,z1,d,e,l1,l2,l3,hs,h1⟩=>?_
  ·refine Tt.bind (Tt.call (z6f g.1 (by omega) (fun t h=>hg.tn t h)) Big.nat) fun n hn=>?_
   refine Tt.bind (Tt.call (z1m n (N:=zar g.1) (by omega) hn _ hst) Big.nat) fun d hd=>?_
   exact Tt.ite (fun _=>hny _ ⟨_,_,_,_,_,_,_,rfl,DSz.zero⟩) fun _=>hny _ ⟨_,_,_,_,_,_,_,rfl,hd⟩
  ·subst hs
   dsimp only
   refine Tt.ite (fun _=>hyes h1) fun _=>?_
   exact Tt.bind (Tt.call (z0u g (by omega) d h1 _) Big.nat) fun e _=>Tt.ite (fun _=>hyes h1) fun _=>hyes h1
 ·subst hs
  dsimp only
  refine Tt.ite (fun c=>Tt.pure h2) fun c=>?_
  have c:=of_decide_eq_false c
  obtain⟨hok,hR,em,re,al,B,hk,_⟩:=h2 (by omega)
  exact Tt.bind (Tt.call (z1r hg hR hok hk) Big.nat) fun t _=>Tt.bind (Tt.call (z79 d h1) Big.nat) fun m _=>Tt.pure h2
theorem zz0 (g:jb) (hg:z5w g) (hb:GBu g):Tn (fun nn=>yz nn g) (fun r=>r.1=0→zzh g):=by
 have h1:=hb.t
 have h2:=hb.r
 have h3:=hb.p
 have h4:=hb.n
 unfold yz
 refine Tt.bind (Tt.call (z4c g ⟨⟨by omega,by omega,by omega⟩,fun x hx=>?_⟩ hb.n hb.t hb.s) Big.nat) fun r hr=>Tt.pure hr
 have:=zw4 hx
 omega
theorem zko:Tn (fun nn=>Qg nn) (fun b=>b=true):=⟨true,⟨300,fun n hn=>by
 obtain⟨k,rfl⟩:∃ k,n=k+300:=⟨n-300,by omega⟩
 exact jaz k⟩,rfl⟩
theorem zqo (g:jb) (hg:z5w g) (w:List Int):Tn (fun nn=>Jf nn g w) (fun b=>b=true):=by
 unfold Jf
 refine Tt.J (fun s=>∃ b,s=(w,b,g)∧(b=false→zzh g)) (fun nx hnx=>?_) fun s ⟨b,hs,hb⟩=>?_
 ·refine Tt.bind (Tt.call (z3q g hg) Big.nat) fun b hb=>Tt.b1 ?_
  refine Tt.ite (fun c=>hnx _ ⟨_,rfl,fun h=>by cases h⟩) fun c=>?_
  have hb:=hb (by simpa using c)
  refine Tt.ite (fun c=>hnx _ ⟨_,rfl,fun h=>by cases h⟩) fun c=>?_
  refine Tt.ite (fun c=>hnx _ ⟨_,rfl,fun h=>by cases h⟩) fun c=>?_
  refine Tt.bind (Tt.call (zz0 g hg hb) Big.nat) fun r hr=>hnx _ ⟨_,rfl,fun h=>hr ?_⟩
  simp[z21] at h
  exact h.1
 ·subst hs
  dsimp only
  refine Tt.ite (fun _=>Tt.bind (Tt.call zko Big.nat) fun r hr=>Tt.pure hr) fun c=>?_
  obtain⟨hok,hR,em,re,al,B,hk,hn⟩:=hb c
  refine Tt.J (fun b=>b=true) (fun nx hnx=>?_) fun s hs=>Tt.pure hs
  refine Tt.bind (Tt.call (z4p hok hk hn w) Big.nat) fun n hn2=>Tt.b1 ?_
  refine Tt.tt (decide_eq_true hn2) ?_
  exact Tt.bind (Tt.call zko Big.nat) fun r hr=>hnx _ hr
end Go.Proofs.YtdllbdlnmjngcaaGreat.T

namespace Go.Proofs.YtdllbdlnmjngcaaGreat.T
open Go Go.RowKit L
theorem AcceptOne_row (a0:jb) (a1:List Int) (c0:OkD Y_api_Grammar a0) (c1:OkD (.sl (.int .i64)) a1):Tn (fun nn=>Jf nn a0 a1) (fun b=>b=true):=
 zqo a0 ⟨Nat.le_trans c0.1.1 (by decide),Nat.le_trans c0.2.1.1 (by decide),Nat.le_trans c0.2.2.1.1 (by decide)⟩ a1
end Go.Proofs.YtdllbdlnmjngcaaGreat.T
