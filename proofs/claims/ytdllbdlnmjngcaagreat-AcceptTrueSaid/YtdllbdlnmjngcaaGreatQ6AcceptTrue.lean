/-
  Texts of this proof, put together: Qi, Qj, Qk, Ql, Qm, Qn, Qo, Qp, Qq, Pm, Yg, Yh, Yi, Yj, Yn, Pa, Rg, Ri, Qs, Qt, Qv, Qw, Qx, Qy, Qz, Ra, Rj, Kq, Rk, Yp, Yq, Yr, Zh, Tree, Zn, Zr, Zu, Zv, Vb, Vc, Vl, Vm, Vn, Vo, Ve, Vf, Vg, Vh.
-/

import Derived.Test.YtdllbdlnmjngcaaGreatQ5AcceptTrue

namespace Go.Proofs.YtdllbdlnmjngcaaGreat.T
set_option maxRecDepth 100000
set_option maxHeartbeats 8000000
set_option linter.unusedVariables false
set_option linter.unusedSimpArgs false
open Go Go.RowKit L
theorem zpg:∀{a r:List Int},qv a->qv r->(∀x∈a,x∈r)->a.length<=r.length/\(r.length<=a.length->a=r)
 |[],r,_,_,_=>⟨by simp,λh=>by simp at h;simp[h]⟩
 |x::a,[],_,_,h=>by have:=h x (by simp);simp at this
 |x::a,y::r,ha,hr,h=>by
  have ha':=wga.1 ha;have hr':=wga.1 hr;by_cases e:x=y
  ·subst e;have hsub:∀z∈a,z∈r:=λz hz=>by
    rcases wep.1 (h z (by simp[hz]))with h1|h1
    ·have:=ha'.1 z hz;omega
    ·exact h1
   obtain⟨h1,h2⟩:=zpg ha'.2 hr'.2 hsub;exact⟨by simp;omega,λhl=>by rw[h2 (by simpa using hl)]⟩
  ·have hx:x∈r:=by
    rcases wep.1 (h x (by simp))with h1|h1
    ·exact absurd h1 e
    ·exact h1
   have hyx:=hr'.1 x hx;have hsub:∀z∈x::a,z∈r:=λz hz=>by
    rcases wep.1 (h z hz)with h1|h1
    ·rcases wep.1 hz with h2|h2
     ·omega
     ·have:=ha'.1 z h2;omega
    ·exact h1
   obtain⟨h1,_⟩:=zpg ha hr'.2 hsub;exact⟨by simp at h1⊢;omega,λhl=>by simp at h1 hl;omega⟩
termination_by a r=>r.length
def Yw(T:Nat):List (List Int)->Nat
 |[]=>0
 |l::r=>(T-l.length)+Yw T r
theorem zjd{T:Nat}:∀{al:List (List Int)}{k:Nat}{o n:List Int},al[k]?=some o->o.length<n.length->n.length<=T->Yw T (al.set k n)<Yw T al
 |[],k,o,n,h,_,_=>by simp at h
 |l::r,0,o,n,h,h1,h2=>by simp at h;subst h;simp[Yw];omega
 |l::r,k+1,o,n,h,h1,h2=>by
  have:=zjd (al:=r) (k:=k) (by simpa using h) h1 h2;simp[Yw];omega
def fiC(em:List Bool)(al:List (List Int))(p:jf):Prop:=∀t,inF em al t p.2.1->t∈al.getD p.1.toNat []
theorem z80(g:ja)(hg:Qv g)(hR:GR g)(hok:GOk g)(em:List Bool)(hE:Tn (λnn=>vg nn g) (λr=>r=em))(hel:em.length=g.2.1.length):
  Tn (λnn=>zu nn g) (λr=>∃al,r=some (em,al,())/\al.length=g.2.1.length/\(∀l∈al,RN g.1.length l)/\∀p∈g.2.2.1,fiC em al p):=by
 have hp:=hg.p;have ht:=hok.t;unfold zu;refine Tt.bind (Tt.call hR waa) λb hb=>?_;subst hb;refine wap rfl ?_;refine Tt.bind (Tt.call hE waa) λr hr=>?_;subst hr;refine wad (wac _ (mkN hg.r (by omega)) ?_);refine Tt.loop (λm s=>∃(more:Bool)(al:List (List Int)),m=2*Yw g.1.length al+(if more=true then 1 else 0)/\s=(more,g,r,al)/\al.length=g.2.1.length/\(∀l∈al,RN g.1.length l)/\(more=false->∀p∈g.2.2.1,fiC r al p)) (2*Yw g.1.length (List.replicate g.2.1.length [])+1) waa ⟨true,_,rfl,rfl,by simp,λl hl=>by rw[List.eq_of_mem_replicate hl];exact RN.nil _,λh=>by cases h⟩ λm s⟨more,al,hm,hs,hl,hrn,hcl⟩ nx hnx=>?_;subst hs;dsimp only;refine wab (λc=>?_) (λc=>Tt.pure ⟨al,rfl,hl,hrn,hcl c⟩);subst c;rw[if_pos rfl]at hm;refine Tt.loop (λm s=>∃(k:Nat)(more:Bool)(a1:List (List Int)),k<=g.2.2.1.length/\m=g.2.2.1.length-k/\s=(more,g.2.2.1,(g.2.2.1.length:Int),(k:Int),g,r,a1)/\a1.length=g.2.1.length/\(∀l∈a1,RN g.1.length l)/\(more=true->Yw g.1.length a1<Yw g.1.length al)/\(more=false->a1=al/\∀i,i<k->∀p,g.2.2.1[i]?=some p->fiC r al p)) g.2.2.1.length waa.fst ⟨0,false,al,by omega,by omega,rfl,hl,hrn,λh=>(by cases h),λ_=>⟨rfl,λi hi=>by omega⟩⟩ λm2 s⟨k,more,a1,hk,hm2,hs,hl1,hrn1,hmt,hmf⟩ ny hny=>?_;subst hs;dsimp only;refine wab (λc=>?_) (λc=>?_)
 ·have c:=wd3 c;have hlt:k<g.2.2.1.length:=by omega
  have hmem:g.2.2.1[k]∈g.2.2.1:=wec hlt;refine wac _ (atN hlt) ?_;have egp:g.2.2.1[k]?=some g.2.2.1[k]:=wd2 hlt;obtain⟨p,ep⟩:∃p,g.2.2.1[k]=p:=⟨_,rfl⟩
  rw[ep]at hmem egp⊢;obtain⟨l0,l1⟩:=hok.left p hmem;have hit:=hok.items p hmem;have hpl:=hok.len p hmem;obtain⟨q,hq⟩:∃q:Nat,p.1=q:=⟨p.1.toNat,by omega⟩
  have hql:q<a1.length:=by omega
  refine Tt.J (λs=>∃(more:Bool)(a1:List (List Int)),s=(more,g.2.2.1,(g.2.2.1.length:Int),(k:Int),g,r,a1)/\a1.length=g.2.1.length/\(∀l∈a1,RN g.1.length l)/\(more=true->Yw g.1.length a1<Yw g.1.length al)/\(more=false->a1=al/\∀i,i<k+1->∀p,g.2.2.1[i]?=some p->fiC r al p)) (λnz hnz=>?_) (λs⟨more,a1,hs,hl1,hrn1,hmt,hmf⟩=>?_)
  ·rw[hq];have hq1:RN g.1.length a1[q]:=hrn1 _ (wec hql);refine wac _ (ye hql) (wac _ (atN hql) ?_);refine Tt.bind (Tt.call (z8v g hok r a1 hel hl1 hrn1 p.2.1 (by omega) hit) waa.fst.fst) λf⟨f1,f2⟩=>?_;refine Tt.bind (Tt.call (zb2 (n:=g.1.length) (by omega) hq1 f1) waa.fst.fst) λu⟨u1,u2⟩=>?_;refine wac _ (ye hql) (wac _ (atN hql) (wac _ (ye hql) (wac _ (zbz u hql) ?_)));have hrn2:∀l∈a1.set q u,RN g.1.length l:=λl h=>by
    rcases wf4 h with h|h
    ·exact hrn1 l h
    ·rw[h];exact u1
   have hl2:(a1.set q u).length=g.2.1.length:=by rw[wfz];exact hl1
   obtain⟨s1,s2⟩:=zpg hq1.r u1.r λx hx=>(u2 x).2 (.inl hx);refine wab (λc=>hnz _ ⟨true,_,rfl,hl2,hrn2,λ_=>?_,λh=>by cases h⟩) (λc=>?_)
   ·have c:=wd3 c;have:=zjd (T:=g.1.length) (al:=a1) (k:=q) (o:=a1[q]) (n:=u) (wd2 hql) (by omega) u1.len;cases hmo:more with
    |true=>have:=hmt hmo;omega
    |false=>have:=(hmf hmo).1;subst this;omega
   ·have c:=wd4 c;have e:=s2 (by omega);have es:a1.set q u=a1:=by rw[<- e];exact List.set_getElem_self hql
    rw[es];refine hnz _ ⟨more,a1,rfl,hl1,hrn1,hmt,λhmo=>?_⟩;obtain⟨e1,e2⟩:=hmf hmo;refine⟨e1,λi hi x hx=>?_⟩;by_cases hik:i<k
    ·exact e2 i hik x hx
    ·have:i=k:=by omega
     subst this;rw[egp]at hx;cases hx;intro t htin;rw[hq,wem];have h1:t∈u:=(u2 t).2 (.inr ((f2 t).2 (e1▸htin)));rw[<- e]at h1;have:al.getD q []=a1[q]:=by rw[<- e1];simp[List.getD,hql]
     rw[this];exact h1
  ·subst hs;dsimp only;refine wad ?_;rw[wI (by omega) (by omega)];exact hny (g.2.2.1.length-(k+1)) _ (by omega) ⟨k+1,more,a1,by omega,rfl,by simp,hl1,hrn1,hmt,hmf⟩
 ·have c:=wd4 c;cases hmo:more with
  |true=>
   have:=hmt hmo;exact Tt.fst (hnx (2*Yw g.1.length a1+1) _ (by omega) ⟨true,a1,rfl,rfl,hl1,hrn1,λh=>by cases h⟩)
  |false=>
   obtain⟨e1,e2⟩:=hmf hmo;subst e1;exact Tt.fst (hnx (2*Yw g.1.length a1) _ (by omega) ⟨false,a1,rfl,rfl,hl1,hrn1,λ_ p hp=>by
    obtain⟨i,hi⟩:=wes hp;exact e2 i (by have:=(wd5.1 hi).1;omega) p hi⟩)
theorem z7u(g:ja)(hg:Qv g)(its:List je)(hl:its.length<=1000000)(hit:∀x∈its,zai g x):Tn (λnn=>Z2 nn g its) (λb=>b=true):=by
 have h1:=hg.t;have h2:=hg.r;unfold Z2;refine Tt.loop (λm s=>∃k:Nat,k<=its.length/\m=its.length-k/\s=(its,(its.length:Int),(k:Int),g)) its.length waa ⟨0,by omega,by omega,rfl⟩ λm s⟨k,hk,hm,hs⟩ nx hnx=>?_;subst hs;dsimp only;refine wab (λc=>?_) (λc=>Tt.pure rfl);have c:=wd3 c;have hlt:k<its.length:=by omega
 have hxm:its[k]∈its:=wec hlt;refine wac _ (atN hlt) ?_;obtain⟨x,ex⟩:∃x,its[k]=x:=⟨_,rfl⟩
 rw[ex]at hxm⊢;obtain⟨i1,i2⟩:=hit x hxm;refine Tt.J (λs=>s=((if x.1=true then(g.2.1.length:Int)else g.1.length),its,(its.length:Int),(k:Int),g,x)) (λny hny=>?_) (λs hs=>?_)
 ·exact wab (λc=>hny _ (by rw[c];rfl)) (λc=>hny _ (by rw[c];rfl))
 ·subst hs;dsimp only;refine Tt.J (λs=>s=(its,(its.length:Int),(k:Int),false,g)) (λnz hnz=>?_) (λs hs=>?_)
  ·refine wad (wap (wf5 (by omega)) (hnz _ ?_));rw[wf5 (by omega)]
  ·subst hs;dsimp only;refine wap rfl (wad ?_);rw[wI (by omega) (by omega)];exact hnx (its.length-(k+1)) _ (by omega) ⟨k+1,by omega,rfl,by simp⟩
theorem z1l(g:ja)(hg:Qv g)(hok:GOk g)(em:List Bool)(al:List (List Int))(hel:em.length=g.2.1.length)(hl:al.length=g.2.1.length)(hrn:∀l∈al,RN g.1.length l)(hK:Tn (λnn=>zu nn g) (λr=>r=some (em,al,())))
  (its:List je) (hil:its.length<=1000) (hit:∀x∈its,zai g x):Tn (λnn=>zja nn g its) (λr=>RN g.1.length r/\∀t,t∈r↔inF em al t its):=by
 unfold zja zi1;refine Tt.bind (Tt.call hK waa) λr hr=>?_;subst hr;refine Tt.J (λs=>s=(its,some (em,al,()),false)) (λnx hnx=>?_) (λs hs=>?_)
 ·refine wap rfl (Tt.bind (Tt.call (z7u g hg its (by omega) hit) waa) λb hb=>?_);subst hb;exact hnx _ rfl
 ·subst hs;dsimp only;refine wap rfl (Tt.bind (Tt.call (z8v g hok em al hel hl hrn its hil hit) waa) λr hr=>Tt.pure hr)
theorem jce(g:ja)(hok:GOk g)(em:List Bool)(hE:Tn (λnn=>vg nn g) (λr=>r=em))(hel:em.length=g.2.1.length)(its:List je)(hil:its.length<=1000)(hit:∀x∈its,zai g x):
  Tn (λnn=>zc9 nn g its) (λb=>b=true↔∀x∈its,x.1=true/\em[x.2.1.toNat]?=some true):=by
 unfold zc9;refine Tt.bind (Tt.call hE waa) λr hr=>?_;subst hr;have hst:=hok.start;have hnil:z8y r=some false:=by
  cases r with
  |nil=>simp at hel;omega
  |cons a l=>rfl
 refine wac _ hnil (wap rfl ?_);refine Tt.loop (λm s=>∃k:Nat,k<=its.length/\m=its.length-k/\s=(r,its,(its.length:Int),(k:Int))/\∀i,i<k->∀x,its[i]?=some x->x.1=true/\r[x.2.1.toNat]?=some true) its.length waa ⟨0,by omega,by omega,rfl,λi hi=>by omega⟩ λm s⟨k,hk,hm,hs,hall⟩ nx hnx=>?_;subst hs;dsimp only;refine wab (λc=>?_) (λc=>Tt.pure ⟨λ_ x hx=>?_,λ_=>rfl⟩)
 ·have c:=wd3 c;have hlt:k<its.length:=by omega
  have hxm:its[k]∈its:=wec hlt;refine wac _ (atN hlt) ?_;have egx:its[k]?=some its[k]:=wd2 hlt;obtain⟨x,ex⟩:∃x,its[k]=x:=⟨_,rfl⟩
  rw[ex]at hxm egx⊢;obtain⟨i1,i2⟩:=hit x hxm;refine Tt.J (λs=>∃f,s=(r,its,(its.length:Int),(k:Int),f)/\(f=true->¬(x.1=true/\r[x.2.1.toNat]?=some true))/\(f=false->x.1=true/\r[x.2.1.toNat]?=some true)) (λny hny=>?_) (λs⟨f,hs,h1,h2⟩=>?_)
  ·refine wad (wab (λc=>hny _ ⟨true,rfl,λ_ h=>?_,λh=>by cases h⟩) (λc=>?_))
   ·rw[h.1]at c;cases c
   ·have cx:x.1=true:=by simpa using c
    rw[if_pos cx]at i2;have hle:x.2.1.toNat<r.length:=by omega
    refine wap (wf5 (by omega)) (wap (wf5 (by omega)) ?_);refine wac _ (Yr i1 (wd2 hle)) (hny _ ⟨_,rfl,λh=>?_,λh=>?_⟩)
    ·rw[wd2 hle];simp at h;simp[h]
    ·rw[wd2 hle];simp at h;simp[h,cx]
  ·subst hs;dsimp only;refine wab (λcf=>Tt.pure ⟨λh=>(by cases h),λh=>absurd (h x hxm) (h1 cf)⟩) (λcf=>wad ?_);rw[wI (by omega) (by omega)];refine hnx (its.length-(k+1)) _ (by omega) ⟨k+1,by omega,rfl,by simp,λi hi y hy=>?_⟩;by_cases hik:i<k
   ·exact hall i hik y hy
   ·have:i=k:=by omega
    subst this;rw[egx]at hy;cases hy;exact h2 cf
 ·have c:=wd4 c;obtain⟨i,hi⟩:=wes hx;exact hall i (by have:=(wd5.1 hi).1;omega) x hi
theorem zxr(g:ja)(hok:GOk g)(em:List Bool)(al:List (List Int))(hl:al.length=g.2.1.length)(hK:Tn (λnn=>zu nn g) (λr=>r=some (em,al,()))):
  Tn (λnn=>zak nn g) (λr=>r=al):=by
 have hr:=hok.r;unfold zak;refine Tt.bind (Tt.call hK waa) λr hr=>?_;subst hr;refine wap rfl (wad (wad ?_));dsimp only;refine wac _ (mkN (by omega) (by omega)) (wad ?_);refine wac _ rfl (Tt.pure ?_);simp
theorem jdj(g:ja)(hR:GR g):Tn (λnn=>zbi nn g) (λr=>r=g.1.length):=by
 unfold zbi;refine Tt.bind (Tt.call hR waa) λb hb=>?_;subst hb;exact wap rfl (Tt.pure rfl)
def reC(r:List Bool)(p:jf):Prop:=r[p.1.toNat]?=some true->∀x∈p.2.1,x.1=true->r[x.2.1.toNat]?=some true
theorem zy7{r:List Bool}{i q:Nat}(h:r[i]?=some true):(r.set q true)[i]?=some true:=by
 rw[wev];have:=(wd5.1 h).1;split
 ·rename_i e;subst e;simp[this]
 ·exact h
theorem zzq(g:ja)(hg:Qv g)(hR:GR g)(hok:GOk g):Tn (λnn=>vq nn g) (λr=>r.length=g.2.1.length/\r[g.2.2.2.1.toNat]?=some true/\∀p∈g.2.2.1,reC r p):=by
 unfold vq;refine Tt.bind (Tt.call hR waa) λb hb=>?_;subst hb;refine wap rfl ?_;have hp:=hg.p;refine wad (wac _ (mkN hg.r (by omega)) ?_);obtain⟨st,hst⟩:∃st:Nat,g.2.2.2.1=st:=⟨g.2.2.2.1.toNat,by have:=hok.start;omega⟩
 have hs1:=hok.start.2;rw[hst];have hsl:st<(List.replicate g.2.1.length false).length:=by simp;omega
 refine wac _ (ye hsl) (wac _ (zbz true hsl) ?_);rw[wem];refine Tt.loop (λm s=>∃(more:Bool)(r:List Bool),m=2*q6 r+(if more=true then 1 else 0)/\s=(g.2.2.1,more,r)/\r.length=g.2.1.length/\r[st]?=some true/\(more=false->∀p∈g.2.2.1,reC r p)) (2*q6 ((List.replicate g.2.1.length false).set st true)+1) waa ⟨true,_,rfl,rfl,by simp,by rw[wev];simp at hsl;simp[hsl],λh=>by cases h⟩ λm s⟨more,r,hm,hs,hl,hrs,hcl⟩ nx hnx=>?_;subst hs;dsimp only;refine wab (λc=>?_) (λc=>Tt.pure ⟨hl,hrs,hcl c⟩);subst c;rw[if_pos rfl]at hm;refine Tt.loop (λm s=>∃(k:Nat)(more:Bool)(r1:List Bool),k<=g.2.2.1.length/\m=g.2.2.1.length-k/\s=(g.2.2.1,more,g.2.2.1,(g.2.2.1.length:Int),(k:Int),r1)/\r1.length=g.2.1.length/\r1[st]?=some true/\(more=true->q6 r1<q6 r)/\(more=false->r1=r/\∀i,i<k->∀p,g.2.2.1[i]?=some p->reC r p)) g.2.2.1.length waa.fst ⟨0,false,r,by omega,by omega,rfl,hl,hrs,λh=>(by cases h),λ_=>⟨rfl,λi hi=>by omega⟩⟩ λm2 s⟨k,more,r1,hk,hm2,hs,hl1,hrs1,ht,hf⟩ ny hny=>?_;subst hs;dsimp only;refine wab (λc=>?_) (λc=>?_)
 ·have c:=wd3 c;have hlt:k<g.2.2.1.length:=by omega
  have hmem:g.2.2.1[k]∈g.2.2.1:=wec hlt;refine wac _ (atN hlt) ?_;have egp:g.2.2.1[k]?=some g.2.2.1[k]:=wd2 hlt;obtain⟨p,ep⟩:∃p,g.2.2.1[k]=p:=⟨_,rfl⟩
  rw[ep]at hmem egp⊢;obtain⟨l0,l1⟩:=hok.left p hmem;have hit:=hok.items p hmem;have hpl:=hok.len p hmem;obtain⟨q,hq⟩:∃q:Nat,p.1=q:=⟨p.1.toNat,by omega⟩
  refine Tt.J (λs=>∃(more:Bool)(r1:List Bool),s=(g.2.2.1,more,g.2.2.1,(g.2.2.1.length:Int),(k:Int),r1)/\r1.length=g.2.1.length/\r1[st]?=some true/\(more=true->q6 r1<q6 r)/\(more=false->r1=r/\∀i,i<k+1->∀p,g.2.2.1[i]?=some p->reC r p)) (λnz hnz=>?_) (λs⟨more,r1,hs,hl1,hrs1,ht,hf⟩=>?_)
  ·refine Tt.loop (λm s=>∃(i:Nat)(news:Bool)(r2:List Bool),i<=p.2.1.length/\m=p.2.1.length-i/\s=(news,p.2.1,(p.2.1.length:Int),(i:Int),r2,p)/\r2.length=g.2.1.length/\r2[st]?=some true/\(news=true->q6 r2<q6 r1)/\(news=false->r2=r1/\(r1[q]?=some true->∀j,j<i->∀x,p.2.1[j]?=some x->x.1=true->r1[x.2.1.toNat]?=some true))) p.2.1.length waa.fst.fst ⟨0,false,r1,by omega,by omega,rfl,hl1,hrs1,λh=>(by cases h),λ_=>⟨rfl,λ_ j hj=>by omega⟩⟩ λm3 s⟨i,news,r2,hi,hm3,hs,hl2,hrs2,ht2,hf2⟩ nw hnw=>?_;subst hs;dsimp only;have hql:q<r2.length:=by omega
   refine wab (λc=>?_) (λc=>?_)
   ·have c:=wd3 c;have hil:i<p.2.1.length:=by omega
    have hxm:p.2.1[i]∈p.2.1:=wec hil;have egx:p.2.1[i]?=some p.2.1[i]:=wd2 hil;refine Tt.J (λs=>∃(news:Bool)(r2:List Bool),s=(news,p.2.1,(p.2.1.length:Int),(i:Int),r2,p)/\r2.length=g.2.1.length/\r2[st]?=some true/\(news=true->q6 r2<q6 r1)/\(news=false->r2=r1/\(r1[q]?=some true->∀j,j<i+1->∀x,p.2.1[j]?=some x->x.1=true->r1[x.2.1.toNat]?=some true))) (λnv hnv=>?_) (λs⟨news,r2,hs,hl2,hrs2,ht2,hf2⟩=>?_)
    ·refine wac _ (atN hil) ?_;obtain⟨x,ex⟩:∃x,p.2.1[i]=x:=⟨_,rfl⟩
     rw[ex]at hxm egx⊢;obtain⟨i1,i2⟩:=hit x hxm;have keep:(r2[q]?=some true->x.1=true->r2[x.2.1.toNat]?=some true)->(news=false->r2=r1/\(r1[q]?=some true->∀j,j<i+1->∀x,p.2.1[j]?=some x->x.1=true->r1[x.2.1.toNat]?=some true)):=λhe hnf=>by
      obtain⟨e1,e2⟩:=hf2 hnf;refine⟨e1,λhrq j hj y hy hy1=>?_⟩;by_cases hji:j<i
      ·exact e2 hrq j hji y hy hy1
      ·have:j=i:=by omega
       subst this;rw[egx]at hy;cases hy;rw[<- e1]at hrq⊢;exact he hrq hy1
     refine Tt.J (λs=>∃b:Bool,s=(news,p.2.1,(p.2.1.length:Int),(i:Int),b,r2,p,x)/\(b=true->x.1=true/\r2[x.2.1.toNat]?=some false)/\(b=false->r2[q]?=some true->x.1=true->r2[x.2.1.toNat]?=some true)) (λnu hnu=>?_) (λs⟨b,hs,hb1,hb2⟩=>?_)
     ·rw[hq];refine wac _ (ye hql) (wac _ (atN hql) ?_);refine wab (λc=>?_) (λc=>hnu _ ⟨false,rfl,λh=>(by cases h),λ_ h=>?_⟩)
      ·refine wab (λcx=>?_) (λcx=>hnu _ ⟨false,rfl,λh=>(by cases h),λ_ _ h=>?_⟩)
       ·rw[if_pos cx]at i2;obtain⟨z,hz⟩:∃z:Nat,x.2.1=z:=⟨x.2.1.toNat,by omega⟩
        have hzl:z<r2.length:=by omega
        rw[hz];refine wac _ (ye hzl) (wac _ (atN hzl) (hnu _ ⟨_,rfl,λh=>⟨cx,?_⟩,λh _ _=>?_⟩))
        ·rw[hz,wem,wd2 hzl];simp at h;rw[h]
        ·rw[hz,wem,wd2 hzl];simp at h;rw[h]
       ·rw[cx]at h;cases h
      ·rw[wd2 hql,c]at h;cases h
     ·subst hs;dsimp only;refine wab (λcb=>?_) (λcb=>hnv _ ⟨news,r2,rfl,hl2,hrs2,ht2,keep (hb2 cb)⟩);obtain⟨b1,b2⟩:=hb1 cb;obtain⟨z,hz⟩:∃z:Nat,x.2.1=z:=⟨x.2.1.toNat,by omega⟩
      rw[hz,wem]at b2;have hzl:=(wd5.1 b2).1;rw[hz];refine wac _ (ye hzl) (wac _ (zbz true hzl) (hnv _ ⟨true,_,rfl,by simpa using hl2,zy7 hrs2,λ_=>?_,λh=>by cases h⟩));have:=Z8 b2;cases hno:news with
      |true=>have:=ht2 hno;omega
      |false=>have:=(hf2 hno).1;subst this;omega
    ·subst hs;dsimp only;refine wad ?_;rw[wI (by omega) (by omega)];exact hnw (p.2.1.length-(i+1)) _ (by omega) ⟨i+1,news,r2,by omega,rfl,by simp,hl2,hrs2,ht2,hf2⟩
   ·have c:=wd4 c;refine wab (λcn=>hnz.fst _ ⟨true,r2,rfl,hl2,hrs2,λ_=>?_,λh=>by cases h⟩) (λcn=>?_)
    ·have:=ht2 cn;cases hmo:more with
     |true=>have:=ht hmo;omega
     |false=>have:=(hf hmo).1;subst this;omega
    ·obtain⟨e1,e2⟩:=hf2 cn;subst e1;refine hnz.fst _ ⟨more,r2,rfl,hl2,hrs2,ht,λhmf=>?_⟩;obtain⟨e3,e4⟩:=hf hmf;refine⟨e3,λj hj y hy=>?_⟩;by_cases hjk:j<k
     ·exact e4 j hjk y hy
     ·have:j=k:=by omega
      subst this;rw[egp]at hy;cases hy;intro hrq x hx hx1;obtain⟨u,hu⟩:=wes hx;rw[hq,wem]at hrq;rw[<- e3]at hrq⊢;exact e2 hrq u (by have:=(wd5.1 hu).1;omega) x hu hx1
  ·subst hs;dsimp only;refine wad ?_;rw[wI (by omega) (by omega)];exact hny (g.2.2.1.length-(k+1)) _ (by omega) ⟨k+1,more,r1,by omega,rfl,by simp,hl1,hrs1,ht,hf⟩
 ·have c:=wd4 c;cases hmo:more with
  |true=>
   have:=ht hmo;exact Tt.fst (hnx (2*q6 r1+1) _ (by omega) ⟨true,r1,rfl,rfl,hl1,hrs1,λh=>by cases h⟩)
  |false=>
   obtain⟨e1,e2⟩:=hf hmo;subst e1;exact Tt.fst (hnx (2*q6 r1) _ (by omega) ⟨false,r1,rfl,rfl,hl1,hrs1,λ_ p hp=>by
    obtain⟨i,hi⟩:=wes hp;exact e2 i (by have:=(wd5.1 hi).1;omega) p hi⟩)
theorem RN.up{n m:Nat}{l:List Int}(h:RN n l)(hm:n<=m):RN m l:=⟨h.r,λx hx=>by have:=h.b x hx;omega⟩
theorem RN.one{n:Nat}{x:Int}(h0:0<=x)(h1:x<n):RN n [x]:=⟨by simp[qv],λy hy=>by simp at hy;subst hy;exact⟨h0,h1⟩⟩
theorem zie{n:Nat}{a b:List Int}(hn:n<=1000)(ha:RN n a)(hb:RN n b):Tn (λnn=>zr nn a b) (λr=>RN n r/\∀x,x∈r↔x∈a\/x∈b):=zb2 hn ha hb
def inT(em:List Bool)(al:List (List Int))(B:List Int)(t:Int):List je->Prop
 |[]=>t∈B
 |x::l=>if x.1=true then t∈al.getD x.2.1.toNat []\/(em.getD x.2.1.toNat false=true/\inT em al B t l)else t=x.2.1
def foC(em:List Bool)(al B:List (List Int))(p:jf):Prop:=∀j x,p.2.1[j]?=some x->x.1=true->∀t,inT em al (B.getD p.1.toNat []) t (p.2.1.drop (j+1))->t∈B.getD x.2.1.toNat []
theorem z92{B:List (List Int)}{z st:Nat}{u:List Int}{t:Int}(hz:z<B.length)(h:∀x∈B[z],x∈u)(ht:t∈B.getD st []):t∈(B.set z u).getD st []:=by
 simp only[List.getD,wev];split
 ·rename_i e;subst e;simp only[hz,if_true,wfd];simp only[List.getD,wd2 hz,wfd]at ht;exact h t ht
 ·simpa [List.getD]using ht
theorem ztr(g:ja)(hg:Qv g)(hR:GR g)(hok:GOk g)(em re:List Bool)(al:List (List Int))(hE:Tn (λnn=>vg nn g) (λr=>r=em))(hel:em.length=g.2.1.length)(hl:al.length=g.2.1.length)(hrn:∀l∈al,RN g.1.length l)(hA:Tn (λnn=>zak nn g) (λr=>r=al))(hRe:Tn (λnn=>vq nn g) (λr=>r=re))(hrl:re.length=g.2.1.length):
  Tn (λnn=>Vb nn g) (λB=>B.length=g.2.1.length/\(∀l∈B,RN (g.1.length+1) l)/\(g.1.length:Int)∈B.getD g.2.2.2.1.toNat []/\∀p∈g.2.2.1,re[p.1.toNat]?=some true->foC em al B p):=by
 unfold Vb;refine Tt.bind (Tt.call hR waa) λb hb=>?_;subst hb;refine wap rfl ?_;have hp:=hg.p;have htk:=hok.t;refine Tt.bind (Tt.call hA waa) λr hr=>?_;subst hr;refine Tt.bind (Tt.call hE waa) λe he=>?_;subst he;refine Tt.bind (Tt.call hRe waa) λw hw=>?_;subst hw;refine wad (wac _ (mkN hg.r (by omega)) ?_);refine Tt.bind (Tt.call (jdj g hR) waa) λen hen=>?_;subst hen;obtain⟨st,hst⟩:∃st:Nat,g.2.2.2.1=st:=⟨g.2.2.2.1.toNat,by have:=hok.start;omega⟩
 have hs1:=hok.start.2;rw[hst];have hsl:st<(List.replicate g.2.1.length ([]:List Int)).length:=by simp;omega
 refine wac _ (ye hsl) (wac _ (zbz _ hsl) ?_);rw[wem];obtain⟨T,hT⟩:∃T,g.1.length+1=T:=⟨_,rfl⟩
 rw[hT];refine Tt.loop (λm s=>∃(more:Bool)(B:List (List Int)),m=2*Yw T B+(if more=true then 1 else 0)/\s=(more,g,r,e,w,B)/\B.length=g.2.1.length/\(∀l∈B,RN T l)/\(g.1.length:Int)∈B.getD st []/\(more=false->∀p∈g.2.2.1,w[p.1.toNat]?=some true->foC e r B p)) (2*Yw T ((List.replicate g.2.1.length []).set st [(g.1.length:Int)])+1) waa ⟨true,_,rfl,rfl,by simp,λl hl=>?_,?_,λh=>by cases h⟩ λm s⟨more,B,hm,hs,hBl,hBr,hBe,hcl⟩ nx hnx=>?_
 ·rcases wf4 hl with h|h
  ·rw[List.eq_of_mem_replicate h];exact RN.nil _
  ·rw[h];exact RN.one (by omega) (by omega)
 ·simp only[List.getD,wev];simp at hsl;simp[hsl]
 subst hs;dsimp only;refine wab (λc=>?_) (λc=>Tt.pure ⟨hBl,hBr,hBe,hcl c⟩);subst c;rw[if_pos rfl]at hm;refine Tt.loop (λm s=>∃(k:Nat)(more:Bool)(B1:List (List Int)),k<=g.2.2.1.length/\m=g.2.2.1.length-k/\s=(more,g.2.2.1,(g.2.2.1.length:Int),(k:Int),g,r,e,w,B1)/\B1.length=g.2.1.length/\(∀l∈B1,RN T l)/\(g.1.length:Int)∈B1.getD st []/\(more=true->Yw T B1<Yw T B)/\(more=false->B1=B/\∀i,i<k->∀p,g.2.2.1[i]?=some p->w[p.1.toNat]?=some true->foC e r B p)) g.2.2.1.length waa.fst ⟨0,false,B,by omega,by omega,rfl,hBl,hBr,hBe,λh=>(by cases h),λ_=>⟨rfl,λi hi=>by omega⟩⟩ λm2 s⟨k,more,B1,hk,hm2,hs,hl1,hr1,he1,ht,hf⟩ ny hny=>?_;subst hs;dsimp only;refine wab (λc=>?_) (λc=>?_)
 ·have c:=wd3 c;have hlt:k<g.2.2.1.length:=by omega
  have hmem:g.2.2.1[k]∈g.2.2.1:=wec hlt;have egp:g.2.2.1[k]?=some g.2.2.1[k]:=wd2 hlt;refine Tt.J (λs=>∃(more:Bool)(B1:List (List Int)),s=(more,g.2.2.1,(g.2.2.1.length:Int),(k:Int),g,r,e,w,B1)/\B1.length=g.2.1.length/\(∀l∈B1,RN T l)/\(g.1.length:Int)∈B1.getD st []/\(more=true->Yw T B1<Yw T B)/\(more=false->B1=B/\∀i,i<k+1->∀p,g.2.2.1[i]?=some p->w[p.1.toNat]?=some true->foC e r B p)) (λnz hnz=>?_) (λs⟨more,B1,hs,hl1,hr1,he1,ht,hf⟩=>?_)
  ·refine wac _ (atN hlt) ?_;obtain⟨p,ep⟩:∃p,g.2.2.1[k]=p:=⟨_,rfl⟩
   rw[ep]at hmem egp⊢;obtain⟨l0,l1⟩:=hok.left p hmem;have hit:=hok.items p hmem;have hpl:=hok.len p hmem;obtain⟨q,hq⟩:∃q:Nat,p.1=q:=⟨p.1.toNat,by omega⟩
   have hqw:q<w.length:=by omega
   have hql:q<B1.length:=by omega
   refine Tt.J (λs=>∃(news:Bool)(B2:List (List Int)),s=(more,g.2.2.1,(g.2.2.1.length:Int),(k:Int),news,g,r,e,w,B2)/\B2.length=g.2.1.length/\(∀l∈B2,RN T l)/\(g.1.length:Int)∈B2.getD st []/\(news=true->Yw T B2<Yw T B1)/\(news=false->B2=B1/\(w[q]?=some true->foC e r B1 p))) (λnw hnw=>?_) (λs⟨news,B2,hs,hl2,hr2,he2,ht2,hf2⟩=>?_)
   ·rw[hq];refine wac _ (atN hqw) ?_;refine wab (λcw=>?_) (λcw=>hnw _ ⟨false,B1,rfl,hl1,hr1,he1,λh=>(by cases h),λ_=>⟨rfl,λh=>?_⟩⟩)
    ·refine wac _ (ye hql) (wac _ (atN hql) (wad ?_));rw[wI (by omega) (by omega)];refine Tt.loop (λm s=>∃(i:Nat)(tail:List Int)(news:Bool)(B2:List (List Int)),i<=p.2.1.length/\m=i/\s=(tail,(i:Int)-1,r,e,w,B2,p,news)/\RN T tail/\(∀t,t∈tail↔inT e r B1[q] t (p.2.1.drop i))/\B2.length=g.2.1.length/\(∀l∈B2,RN T l)/\(g.1.length:Int)∈B2.getD st []/\(news=true->Yw T B2<Yw T B1)/\(news=false->B2=B1/\∀j,i<=j->∀x,p.2.1[j]?=some x->x.1=true->∀t,inT e r B1[q] t (p.2.1.drop (j+1))->t∈B1.getD x.2.1.toNat [])) p.2.1.length waa.fst.fst ⟨p.2.1.length,B1[q],false,B1,by omega,rfl,rfl,hr1 _ (wec hql),λt=>by rw[wf2];rfl,hl1,hr1,he1,λh=>(by cases h),λ_=>⟨rfl,λj hj x hx=>by rw[wfv (by omega)]at hx;cases hx⟩⟩ λm3 s⟨i,tail,news,B2,hi,hm3,hs,htr,htm,hl2,hr2,he2,ht2,hf2⟩ nv hnv=>?_;subst hs;dsimp only;refine wab (λc=>?_) (λc=>?_)
     ·have c:=wd3 c;obtain⟨i,rfl⟩:∃i',i=i'+1:=⟨i-1,by omega⟩
      have ei:((i+1:Nat):Int)-1=(i:Int):=by omega
      rw[ei];have hil:i<p.2.1.length:=by omega
      have hxm:p.2.1[i]∈p.2.1:=wec hil;have egx:p.2.1[i]?=some p.2.1[i]:=wd2 hil;have hdr:p.2.1.drop i=p.2.1[i]::p.2.1.drop (i+1):=we7 hil;refine Tt.J (λs=>∃(tail:List Int)(news:Bool)(B2:List (List Int)),s=(tail,(i:Int),r,e,w,B2,p,news)/\RN T tail/\(∀t,t∈tail↔inT e r B1[q] t (p.2.1.drop i))/\B2.length=g.2.1.length/\(∀l∈B2,RN T l)/\(g.1.length:Int)∈B2.getD st []/\(news=true->Yw T B2<Yw T B1)/\(news=false->B2=B1/\∀j,i<=j->∀x,p.2.1[j]?=some x->x.1=true->∀t,inT e r B1[q] t (p.2.1.drop (j+1))->t∈B1.getD x.2.1.toNat [])) (λnu hnu=>?_) (λs⟨tail,news,B2,hs,htr,htm,hl2,hr2,he2,ht2,hf2⟩=>?_)
      ·refine wac _ (atN hil) ?_;obtain⟨x,ex⟩:∃x,p.2.1[i]=x:=⟨_,rfl⟩
       rw[ex]at hxm egx hdr⊢;obtain⟨i1,i2⟩:=hit x hxm;refine wab (λcx=>?_) (λcx=>?_)
       ·have cx:x.1=false:=by simpa using cx
        rw[cx]at i2;simp only[we4,if_false]at i2;refine hnu _ ⟨_,news,B2,rfl,RN.one i1 (by omega),λt=>?_,hl2,hr2,he2,ht2,λhn=>?_⟩
        ·rw[hdr];simp[inT,cx]
        ·obtain⟨e1,e2⟩:=hf2 hn;refine⟨e1,λj hj y hy hy1=>?_⟩;by_cases hji:i+1<=j
         ·exact e2 j hji y hy hy1
         ·have:j=i:=by omega
          subst this;rw[egx]at hy;cases hy;rw[cx]at hy1;cases hy1
       ·have cx:x.1=true:=by simpa using cx
        rw[if_pos cx]at i2;obtain⟨z,hz⟩:∃z:Nat,x.2.1=z:=⟨x.2.1.toNat,by omega⟩
        have hzl:z<B2.length:=by omega
        have hze:z<e.length:=by omega
        have hzr:z<r.length:=by omega
        rw[hz];refine wac _ (ye hzl) (wac _ (atN hzl) ?_);have hBz:RN T B2[z]:=hr2 _ (wec hzl);have hrz:RN T r[z]:=(hrn _ (wec hzr)).up (by omega);refine Tt.bind (Tt.call (zie (n:=T) (by omega) hBz htr) waa.fst.fst.fst) λu⟨u1,u2⟩=>?_;obtain⟨s1,s2⟩:=zpg hBz.r u1.r λy hy=>(u2 y).2 (.inl hy);have hl3:(B2.set z u).length=g.2.1.length:=by rw[wfz];exact hl2
        have hr3:∀l∈B2.set z u,RN T l:=λl h=>by
         rcases wf4 h with h|h
         ·exact hr2 l h
         ·rw[h];exact u1
        have he3:(g.1.length:Int)∈(B2.set z u).getD st []:=z92 hzl (λy hy=>(u2 y).2 (.inl hy)) he2;refine Tt.J (λs=>∃(news:Bool),s=((z:Int),u,r,e,w,B2,news)/\(news=true->Yw T (B2.set z u)<Yw T B1)/\(news=false->B2.set z u=B1/\B2=B1/\B2[z]=u/\∀j,i+1<=j->∀x,p.2.1[j]?=some x->x.1=true->∀t,inT e r B1[q] t (p.2.1.drop (j+1))->t∈B1.getD x.2.1.toNat [])) (λnt hnt=>?_) (λs⟨news,hs,ht3,hf3⟩=>?_)
        ·refine wab (λcn=>hnt _ ⟨true,rfl,λ_=>?_,λh=>by cases h⟩) (λcn=>?_)
         ·have h1:=ht2 cn;by_cases hlu:B2[z].length<u.length
          ·have:=zjd (T:=T) (al:=B2) (k:=z) (o:=B2[z]) (n:=u) (wd2 hzl) hlu u1.len;omega
          ·have e1:=s2 (by omega);have es:B2.set z u=B2:=by rw[<- e1];exact List.set_getElem_self hzl
           rw[es];exact h1
         ·obtain⟨e1,e2⟩:=hf2 cn;refine wac _ (ye hzl) (wac _ (atN hzl) (hnt _ ⟨_,rfl,λh=>?_,λh=>?_⟩))
          ·have h:=wd3 h;have:=zjd (T:=T) (al:=B2) (k:=z) (o:=B2[z]) (n:=u) (wd2 hzl) (by omega) u1.len;rw[e1]at this⊢;omega
          ·have h:=wd4 h;have e3:=s2 (by omega);have es:B2.set z u=B2:=by rw[<- e3];exact List.set_getElem_self hzl
           exact⟨es.trans e1,e1,e3,e2⟩
        ·subst hs;dsimp only;have hdone:(news=false->B2.set z u=B1/\∀j,i<=j->∀x,p.2.1[j]?=some x->x.1=true->∀t,inT e r B1[q] t (p.2.1.drop (j+1))->t∈B1.getD x.2.1.toNat []):=λhn=>by
          obtain⟨e1,e2,e3,e4⟩:=hf3 hn;refine⟨e1,λj hj y hy hy1 t hin=>?_⟩;by_cases hji:i+1<=j
          ·exact e4 j hji y hy hy1 t hin
          ·have:j=i:=by omega
           subst this;rw[egx]at hy;cases hy;rw[hz,wem];have hzl':z<B1.length:=by rw[<- e2];exact hzl
           have h1:t∈u:=(u2 t).2 (.inr ((htm t).2 hin));have h2:B1.getD z []=u:=by rw[<- e2,<- e3];simp[List.getD,hzl]
           rw[h2];exact h1
         refine wac _ (ye hzl) (wac _ (zbz u hzl) (wac _ (atN hze) ?_));refine wab (λce=>?_) (λce=>?_)
         ·refine wac _ (atN hzr) ?_;refine Tt.bind (Tt.call (zie (n:=T) (by omega) htr hrz) waa.fst.fst.fst) λv⟨v1,v2⟩=>?_;refine hnu _ ⟨v,news,_,rfl,v1,λt=>?_,hl3,hr3,he3,ht3,hdone⟩;rw[v2,htm,hdr];simp only[inT,cx,if_true,hz,wem,List.getD,wd2 hze,wd2 hzr,wfd,ce,true_and];exact or_comm
         ·refine wac _ (atN hzr) ?_;refine hnu _ ⟨_,news,_,rfl,hrz,λt=>?_,hl3,hr3,he3,ht3,hdone⟩;rw[hdr];simp only[inT,cx,if_true,hz,wem,List.getD,wd2 hze,wd2 hzr,wfd,ce,we4,false_and,or_false]
      ·subst hs;dsimp only;refine wad ?_;rw[wI (by omega) (by omega)];exact hnv i _ (by omega) ⟨i,tail,news,B2,by omega,rfl,rfl,htr,htm,hl2,hr2,he2,ht2,hf2⟩
     ·have c:=wd4 c;have:i=0:=by omega
      subst this;refine hnw.fst _ ⟨news,B2,rfl,hl2,hr2,he2,ht2,λhn=>?_⟩;obtain⟨e1,e2⟩:=hf2 hn;refine⟨e1,λ_ j x hx hx1 t hin=>e2 j (by omega) x hx hx1 t ?_⟩;have:B1.getD p.1.toNat []=B1[q]:=by rw[hq];simp[List.getD,hql]
      rwa [this]at hin
    ·rw[wd2 hqw,cw]at h;cases h
   ·subst hs;dsimp only;refine wab (λcn=>hnz _ ⟨true,B2,rfl,hl2,hr2,he2,λ_=>?_,λh=>by cases h⟩) (λcn=>?_)
    ·have:=ht2 cn;cases hmo:more with
     |true=>have:=ht hmo;omega
     |false=>have:=(hf hmo).1;subst this;omega
    ·obtain⟨e1,e2⟩:=hf2 cn;subst e1;refine hnz _ ⟨more,B2,rfl,hl2,hr2,he2,ht,λhmf=>?_⟩;obtain⟨e3,e4⟩:=hf hmf;refine⟨e3,λj hj y hy=>?_⟩;by_cases hjk:j<k
     ·exact e4 j hjk y hy
     ·have:j=k:=by omega
      subst this;rw[egp]at hy;cases hy;rw[hq,wem,<- e3];exact e2
  ·subst hs;dsimp only;refine wad ?_;rw[wI (by omega) (by omega)];exact hny (g.2.2.1.length-(k+1)) _ (by omega) ⟨k+1,more,B1,by omega,rfl,by simp,hl1,hr1,he1,ht,hf⟩
 ·have c:=wd4 c;cases hmo:more with
  |true=>
   have:=ht hmo;exact Tt.fst (hnx (2*Yw T B1+1) _ (by omega) ⟨true,B1,rfl,rfl,hl1,hr1,he1,λh=>by cases h⟩)
  |false=>
   obtain⟨e1,e2⟩:=hf hmo;subst e1;exact Tt.fst (hnx (2*Yw T B1) _ (by omega) ⟨false,B1,rfl,rfl,hl1,hr1,he1,λ_ p hp=>by
    obtain⟨i,hi⟩:=wes hp;exact e2 i (by have:=(wd5.1 hi).1;omega) p hi⟩)
theorem zev{em:List Bool}{al:List (List Int)}{B:List Int}{t:Int}:∀{its:List je},inT em al B t its↔inF em al t its\/((∀x∈its,x.1=true/\em[x.2.1.toNat]?=some true)/\t∈B)
 |[]=>by simp[inT,inF]
 |x::l=>by
  have ih:=zev (em:=em) (al:=al) (B:=B) (t:=t) (its:=l);have he:em.getD x.2.1.toNat false=true↔em[x.2.1.toNat]?=some true:=by
   simp only[List.getD];cases em[x.2.1.toNat]? with
   |none=>simp
   |some b=>simp
  cases hx:x.1 with
  |false=>
   simp only[inT,inF,hx,we4,if_false];constructor
   ·exact .inl
   ·rintro(h|⟨h,_⟩)
    ·exact h
    ·have:=(h x (by simp)).1;rw[hx]at this;cases this
  |true=>
   simp only[inT,inF,hx,if_true,he,ih,wep,forall_eq_or_imp,true_and];constructor
   ·rintro(h|⟨h1,h2|⟨h2,h3⟩⟩)
    ·exact .inl (.inl h)
    ·exact .inl (.inr ⟨h1,h2⟩)
    ·exact .inr ⟨⟨h1,h2⟩,h3⟩
   ·rintro((h|⟨h1,h2⟩)|⟨⟨h1,h2⟩,h3⟩)
    ·exact .inl h
    ·exact .inr ⟨h1,.inl h2⟩
    ·exact .inr ⟨h1,.inr ⟨h2,h3⟩⟩
theorem z1k(g:ja)(hg:Qv g)(hok:GOk g)(em:List Bool)(al B:List (List Int))(hE:Tn (λnn=>vg nn g) (λr=>r=em))(hel:em.length=g.2.1.length)(hl:al.length=g.2.1.length)(hrn:∀l∈al,RN g.1.length l)(hK:Tn (λnn=>zu nn g) (λr=>r=some (em,al,())))(hBl:B.length=g.2.1.length)(hBr:∀l∈B,RN (g.1.length+1) l)
  (p:jf) (hp:p∈g.2.2.1):Tn (λnn=>zm nn g B p) (λr=>RN (g.1.length+1) r/\∀t,t∈r↔inT em al (B.getD p.1.toNat []) t p.2.1):=by
 have ht:=hok.t;have hpl:=hok.len p hp;have hit:=hok.items p hp;obtain⟨l0,l1⟩:=hok.left p hp;unfold zm;refine Tt.bind (Tt.call (z1l g hg hok em al hel hl hrn hK p.2.1 (by omega) hit) waa) λr⟨r1,r2⟩=>?_;refine Tt.J (λr=>RN (g.1.length+1) r/\∀t,t∈r↔inT em al (B.getD p.1.toNat []) t p.2.1) (λnx hnx=>?_) (λs hs=>Tt.pure hs);refine Tt.bind (Tt.call (jce g hok em hE hel p.2.1 (by omega) hit) waa) λv hv=>?_;refine wab (λc=>?_) (λc=>hnx _ ⟨r1.up (by omega),λt=>?_⟩)
 ·have hbl:p.1.toNat<B.length:=by omega
  refine wac _ (Yr l0 (wd2 hbl)) ?_;refine Tt.bind (Tt.call (zb2 (n:=g.1.length+1) (by omega) (r1.up (by omega)) (hBr _ (wec hbl))) waa) λu⟨u1,u2⟩=>hnx _ ⟨u1,λt=>?_⟩;rw[u2,r2,zev];have:B.getD p.1.toNat []=B[p.1.toNat]:=by simp[List.getD,hbl]
  rw[this];have:=hv.1 c;constructor
  ·rintro(h|h)
   ·exact .inl h
   ·exact .inr ⟨this,h⟩
  ·rintro(h|⟨_,h⟩)
   ·exact .inl h
   ·exact .inr h
 ·rw[r2,zev];constructor
  ·exact .inl
  ·rintro(h|⟨h,_⟩)
   ·exact h
   ·have:=hv.2 h;rw[c]at this;cases this
theorem zze{α β:Type}{p:Nat->α->Option β}{R:α->β->Prop}:∀{l:List α},(∀a∈l,Tn (λnn=>p nn a) (R a))->Tn (λnn=>z2j (p nn) l) (λ(r:List β)=>r.length=l.length/\∀(i:Nat)(a:α),l[i]?=some a->∃b,r[i]?=some b/\R a b)
 |[],_=>Tt.pure ⟨rfl,λi a h=>by simp at h⟩
 |a::l,h=>by
  refine Tt.bind (h a (by simp)) λb hb=>?_;refine Tt.bind (zze (p:=p) (R:=R) (l:=l) λx hx=>h x (by simp[hx])) λr⟨r1,r2⟩=>Tt.pure ⟨by simp[r1],λi x hx=>?_⟩;cases i with
  |zero=>simp at hx;subst hx;exact⟨b,rfl,hb⟩
  |succ i=>simpa using r2 i x (by simpa using hx)
theorem zwq{a b:Int×Int}:plq a b=true↔a=b:=⟨jfx a b,λh=>by subst h;simp[plq,ple]⟩
theorem zsf{k:Int×Int}:∀{ks:List (Int×Int)},kIx plq k ks=none->k∉ks
 |[],_=>by simp
 |e::es,h=>by
  unfold kIx at h;split at h
  ·cases h
  ·rename_i he;have:=zsf (Option.map_eq_none_iff.1 h);intro hm;rcases wep.1 hm with h1|h1
   ·exact he (zwq.2 h1)
   ·exact this h1
structure zzh(C:Int×Int->Int->Prop)(c:Nat)(m:PM):Prop where
 nd:(m.map (·.1)).Nodup
 ne:∀e∈m,e.2≠[]
 len:∀e∈m,e.2.length<=c
 says:∀e∈m,∀i∈e.2,C e.1 i
def zh3(m:PM)(a:Int×Int)(i:Int):Prop:=∃e∈m,e.1=a/\i∈e.2
theorem add_ok{C:Int×Int->Int->Prop}{c:Nat}{m:PM}{a:Int×Int}{v:Int}(h:zzh C c m)(hc:c<=1000000)(hv:C a v):∃m',zqj plq 8 m a v=some m'/\zzh C (c+1) m'/\zh3 m' a v/\∀b i,zh3 m b i->zh3 m' b i:=by
 unfold zqj;cases hk:kIx plq a (m.map (·.1))with
 |none=>
  have hn:=zsf hk;rw[z13 (by simp) (by simp)];refine⟨m++[(a,[v])],rfl,⟨?_,?_,?_,?_⟩,⟨(a,[v]),by simp,rfl,by simp⟩,?_⟩
  ·rw[wfl,List.nodup_append];refine⟨h.nd,by simp,λx hx y hy=>?_⟩;simp at hy;subst hy;intro e;subst e;exact hn hx
  ·intro e he;rcases wej.1 he with h1|h1
   ·exact h.ne e h1
   ·simp at h1;subst h1;simp
  ·intro e he;rcases wej.1 he with h1|h1
   ·have:=h.len e h1;omega
   ·simp at h1;subst h1;simp
  ·intro e he;rcases wej.1 he with h1|h1
   ·exact h.says e h1
   ·simp at h1;subst h1;intro i hi;simp at hi;subst hi;exact hv
  ·rintro b i ⟨e,he,e1,e2⟩;exact⟨e,by simp[he],e1,e2⟩
 |some j=>
  obtain⟨x,hx,he⟩:=zgo hk;have he:=zwq.1 he;subst he;rw[web]at hx;obtain⟨e,hj,hxe⟩:=wee.1 hx;have hem:=wd7 hj;have hjl:=(wd5.1 hj).1;have hl:=h.len e hem;simp only[hj];rw[z13 (by simp;omega) (by simp;omega)];refine⟨m.set j (e.1,e.2++[v]),rfl,⟨?_,?_,?_,?_⟩,⟨(e.1,e.2++[v]),wd7 (i:=j) (by rw[wev];simp[hjl]),hxe,by simp⟩,?_⟩
  ·have:(m.set j (e.1,e.2++[v])).map (·.1)=m.map (·.1):=by
    rw[List.map_set];apply wfj;intro i;rw[wev];split
    ·rename_i e2;subst e2;simp only[wey,hjl,if_true];rw[web,hj];rfl
    ·rfl
   rw[this];exact h.nd
  ·intro y hy;rcases wf4 hy with h1|h1
   ·exact h.ne y h1
   ·subst h1;simp
  ·intro y hy;rcases wf4 hy with h1|h1
   ·have:=h.len y h1;omega
   ·subst h1;simp;omega
  ·intro y hy;rcases wf4 hy with h1|h1
   ·exact h.says y h1
   ·subst h1;intro i hi;rcases wej.1 hi with h2|h2
    ·exact h.says e hem i h2
    ·simp at h2;subst h2;simp only;rw[hxe];exact hv
  ·rintro b i ⟨y,hy,y1,y2⟩;obtain⟨n,hn⟩:=wes hy;by_cases hnj:j=n
   ·subst hnj;rw[hj]at hn;cases hn;exact⟨(e.1,e.2++[v]),wd7 (i:=j) (by rw[wev];simp[hjl]),y1,by simp[y2]⟩
   ·exact⟨y,wd7 (i:=n) (by rw[wev,if_neg hnj];exact hn),y1,y2⟩
theorem zvy{C:Int×Int->Int->Prop}{i left:Int}:∀{ts:List Int}{c:Nat}{m:PM},zzh C c m->c+ts.length<=1000000->(∀t∈ts,C (left,t) i)->∃m',zij i left ts m=some m'/\zzh C (c+ts.length) m'/\(∀t∈ts,zh3 m' (left,t) i)/\∀b j,zh3 m b j->zh3 m' b j
 |[],c,m,h,_,_=>⟨m,rfl,h,by simp,λ_ _ h=>h⟩
 |t::ts,c,m,h,hc,hC=>by
  simp only[we2]at hc;obtain⟨m1,h1,h2,h3,h4⟩:=add_ok (a:=(left,t)) (v:=i) h (by omega) (hC t (by simp));obtain⟨m2,k1,k2,k3,k4⟩:=zvy (ts:=ts) h2 (by omega) λx hx=>hC x (by simp[hx]);refine⟨m2,by simp only[zij,h1,wfp,k1],by rw[show c+(t::ts).length=c+1+ts.length by simp;omega];exact k2,λx hx=>?_,λb j hb=>k4 b j (h4 b j hb)⟩;rcases wep.1 hx with e|e
  ·subst e;exact k4 _ _ h3
  ·exact k3 x e
theorem zvh{C:Int×Int->Int->Prop}{pr:Nat->List Int}{W:Nat}(hW:∀i,(pr i).length<=W):∀{ls:List Int}{i c:Nat}{m:PM},zzh C c m->c+W*ls.length<=1000000->(∀k l,ls[k]?=some l->∀t∈pr (i+k),C (l,t) ((i+k:Nat):Int))->∃m',zex pr i ls m=some m'/\zzh C (c+W*ls.length) m'/\(∀k l,ls[k]?=some l->∀t∈pr (i+k),zh3 m' (l,t) ((i+k:Nat):Int))/\∀b j,zh3 m b j->zh3 m' b j
 |[],i,c,m,h,_,_=>⟨m,rfl,h,by simp,λ_ _ h=>h⟩
 |a::ls,i,c,m,h,hc,hC=>by
  have hw:=hW i;simp only[we2,Nat.mul_add,wgu]at hc;obtain⟨m1,h1,h2,h3,h4⟩:=zvy (i:=(i:Int)) (left:=a) (ts:=pr i) h (by omega) λt ht=>by simpa using hC 0 a rfl t (by simpa using ht)
  have h2':zzh C (c+W) m1:=⟨h2.nd,h2.ne,λe he=>by have:=h2.len e he;omega,h2.says⟩
  obtain⟨m2,k1,k2,k3,k4⟩:=zvh hW (ls:=ls) (i:=i+1) h2' (by omega) λk l hk t ht=>by
   have:=hC (k+1) l (by simpa using hk) t (by simpa [wgj,wf9 1 k]using ht);simpa [wgj,wf9 1 k]using this
  refine⟨m2,by simp only[zex,h1,wfp,k1],⟨k2.nd,k2.ne,λe he=>by have:=k2.len e he;simp only[we2,Nat.mul_add,wgu];omega,k2.says⟩,λk l hk t ht=>?_,λb j hb=>k4 b j (h4 b j hb)⟩;cases k with
  |zero=>
   simp at hk;subst hk;exact k4 _ _ (by simpa using h3 t (by simpa using ht))
  |succ k=>
   have:=k3 k l (by simpa using hk) t (by simpa [wgj,wf9 1 k]using ht);simpa [wgj,wf9 1 k]using this
theorem Tt.val{ι α:Type}{D:Fi ι}{f:ι->Option α}{Q:α->Prop}(h:Tt D f Q):∃r,Tt D f (λx=>x=r)/\Q r:=let ⟨r,h1,h2⟩:=h;⟨r,⟨r,h1,rfl⟩,h2⟩
structure Kn(g:ja)(em re:List Bool)(al B:List (List Int)):Prop where
 hE:Tn (λnn=>vg nn g) (λr=>r=em)
 hel:em.length=g.2.1.length
 emc:∀p∈g.2.2.1,emC em p
 hRe:Tn (λnn=>vq nn g) (λr=>r=re)
 hrl:re.length=g.2.1.length
 rest:re[g.2.2.2.1.toNat]?=some true
 recl:∀p∈g.2.2.1,reC re p
 hK:Tn (λnn=>zu nn g) (λr=>r=some (em,al,()))
 hl:al.length=g.2.1.length
 hrn:∀l∈al,RN g.1.length l
 fic:∀p∈g.2.2.1,fiC em al p
 hF:Tn (λnn=>Vb nn g) (λr=>r=B)
 hBl:B.length=g.2.1.length
 hBr:∀l∈B,RN (g.1.length+1) l
 hBe:(g.1.length:Int)∈B.getD g.2.2.2.1.toNat []
 foc:∀p∈g.2.2.1,re[p.1.toNat]?=some true->foC em al B p
theorem jft(g:ja)(hg:Qv g)(hR:GR g)(hok:GOk g):∃em re al B,Kn g em re al B:=by
 obtain⟨em,hE,hel,emc⟩:=(z7g g hg hR hok).val;obtain⟨re,hRe,hrl,rest,rec⟩:=(zzq g hg hR hok).val;obtain⟨k,hK,al,rfl,hl,hrn,fic⟩:=(z80 g hg hR hok em hE hel).val;obtain⟨B,hF,hBl,hBr,hBe,foc⟩:=(ztr g hg hR hok em re al hE hel hl hrn (zxr g hok em al hl hK) hRe hrl).val;exact⟨em,re,al,B,hE,hel,emc,hRe,hrl,rest,rec,hK,hl,hrn,fic,hF,hBl,hBr,hBe,foc⟩
def plC(g:ja)(em:List Bool)(al B:List (List Int))(a:Int×Int)(i:Int):Prop:=∃(k:Nat)(p:jf),i=(k:Int)/\g.2.2.1[k]?=some p/\a.1=p.1/\0<=a.2/\a.2<(g.1.length:Int)+1/\inT em al (B.getD p.1.toNat []) a.2 p.2.1
structure jbz(g:ja)(em:List Bool)(al B:List (List Int))(m:PM):Prop where
 pm:zzh (plC g em al B) 1000000 m
 has:∀(k:Nat)(p:jf),g.2.2.1[k]?=some p->∀t,inT em al (B.getD p.1.toNat []) t p.2.1->zh3 m (p.1,t) (k:Int)
theorem zur{g:ja}{em re:List Bool}{al B:List (List Int)}(hg:Qv g)(hok:GOk g)(hk:Kn g em re al B):Tn (λnn=>zno nn g) (jbz g em al B):=by
 have ht:=hok.t;have hp:=hok.p;unfold zno;refine Tt.bind (Tt.call hk.hF waa) λb hb=>?_;subst hb;refine Tt.bind (Tt.call (zze (p:=λnn p=>zm nn g b p) (R:=λp r=>RN (g.1.length+1) r/\∀t,t∈r↔inT em al (b.getD p.1.toNat []) t p.2.1) λp hp=>z1k g hg hok em al b hk.hE hk.hel hk.hl hk.hrn hk.hK hk.hBl hk.hBr p hp) waa) λrows⟨r1,r2⟩=>?_;have hrow:∀l∈rows,RN (g.1.length+1) l:=λl hl=>by
  obtain⟨i,hi⟩:=wes hl;have hil:=(wd5.1 hi).1;obtain⟨b,e1,e2,_⟩:=r2 i _ (wd2 (by omega));rw[hi]at e1;cases e1;exact e2
 refine waq ?_ ?_
 ·rw[wd8,we0];exact⟨wfb (by omega),λl hl=>wfb (by have:=(hrow l hl).len;omega)⟩
 have hget:∀(k:Nat)(p:jf),g.2.2.1[k]?=some p->RN (g.1.length+1) (rows.getD k [])/\∀t,t∈rows.getD k []↔inT em al (b.getD p.1.toNat []) t p.2.1:=λk p hp=>by
  obtain⟨r,e1,e2,e3⟩:=r2 k p hp;simp only[List.getD,e1,wfd];exact⟨e2,e3⟩
 obtain⟨m,h1,h2,h3,_⟩:=zvh (C:=plC g em al b) (pr:=λi=>rows.getD i []) (W:=65) (λi=>by
  simp only[List.getD];cases hi:rows[i]? with
  |none=>simp
  |some l=>have:=(hrow l (wd7 hi)).len;simp only[wfd];omega) (ls:=g.2.2.1.map (·.1)) (i:=0) (c:=0) (m:=[]) ⟨by simp,by simp,by simp,by simp⟩ (by simp;omega) (λk l hl t ht=>by
   rw[web]at hl;obtain⟨p,hp,rfl⟩:=wee.1 hl;rw[wfa]at ht⊢;obtain⟨e1,e2⟩:=hget k p hp;have:=e1.b t ht;exact⟨k,p,rfl,hp,rfl,this.1,by have:=this.2;simp only;omega,(e2 t).1 ht⟩)
 simp only[h1];refine Tt.pure (Q:=jbz g em al b) ⟨⟨h2.nd,h2.ne,λe he=>?_,h2.says⟩,λk p hp t ht=>?_⟩
 ·have:=h2.len e he;simp at this;omega
 ·have:=h3 k p.1 (by rw[web,hp];rfl) t (by rw[wfa];exact((hget k p hp).2 t).2 ht);rwa [wfa]at this
def NC(g:ja)(em:List Bool)(al B:List (List Int)):Prop:=∀(k k':Nat)(p p':jf),g.2.2.1[k]?=some p->g.2.2.1[k']?=some p'->p.1=p'.1->∀t,inT em al (B.getD p.1.toNat []) t p.2.1->inT em al (B.getD p'.1.toNat []) t p'.2.1->k=k'
theorem zlr{α β:Type}{f:α->β}:∀{l:List α},(l.map f).Nodup->∀{x y:α},x∈l->y∈l->f x=f y->x=y
 |[],_,x,y,hx,_,_=>by cases hx
 |a::l,h,x,y,hx,hy,e=>by
  rw[wen,List.nodup_cons]at h;rcases wep.1 hx with h1|h1
  ·rcases wep.1 hy with h2|h2
   ·rw[h1,h2]
   ·exact absurd (by rw[<- h1,e];exact wef.2 ⟨y,h2,rfl⟩) h.1
  ·rcases wep.1 hy with h2|h2
   ·exact absurd (by rw[<- h2,<- e];exact wef.2 ⟨x,h1,rfl⟩) h.1
   ·exact zlr h.2 h1 h2 e
theorem nc_of{g:ja}{em:List Bool}{al B:List (List Int)}{m:PM}(h:jbz g em al B m)(hc:(jx m).2=false):NC g em al B:=by
 intro k k' p p' hp hp' e t h1 h2;obtain⟨x,x1,x2,x3⟩:=h.has k p hp t h1;obtain⟨y,y1,y2,y3⟩:=h.has k' p' hp' t h2;have hxy:=zlr h.pm.nd x1 y1 (by rw[x2,y2,e]);subst hxy;rcases zg3 m with⟨_,h5⟩|⟨h5,_⟩
 ·have:=h5 x x1
  match hx:x.2 with
  |[]=>rw[hx]at x3;cases x3
  |[a]=>
   rw[hx]at x3 y3;simp at x3 y3;omega
  |a::b::l=>rw[hx]at this;simp at this;omega
 ·rw[hc]at h5;cases h5
theorem z32{g:ja}{em:List Bool}{al B:List (List Int)}{m:PM}(h:jbz g em al B m):∃r,zi8 m=some r/\(r.1.1=0->NC g em al B):=by
 unfold zi8;cases hc:(jx m).2 with
 |false=>exact⟨_,rfl,λ_=>nc_of h hc⟩
 |true=>
  rcases zg3 m with⟨h5,_⟩|⟨_,⟨e,h6,h7,h8⟩,_⟩
  ·rw[h5]at hc;cases hc
  ·have:∃z,zjz m (jx m).1=some z:=by
    unfold zjz;cases hk:kIx plq (jx m).1 (m.map (·.1))with
    |none=>exact absurd (by rw[<- h7];exact wef.2 ⟨e,h6,rfl⟩) (zsf hk)
    |some j=>
     obtain⟨x,hx,he⟩:=zgo hk;have he:=zwq.1 he;rw[web]at hx;obtain⟨e',hj,hxe⟩:=wee.1 hx;have:=zlr h.pm.nd (wd7 hj) h6 (by rw[h7,he];exact hxe);subst this;simp only[wfp,hj];exact⟨_,wd2 h8⟩
   obtain⟨z,hz⟩:=this;exact⟨_,by rw[hz];rfl,λh=>by cases h⟩
theorem z74{g:ja}{em re:List Bool}{al B:List (List Int)}(hg:Qv g)(hR:GR g)(hok:GOk g)(hk:Kn g em re al B):Tn (λnn=>y6 nn g) (λr=>r.1.1=0->NC g em al B):=by
 have hp:=hok.p;unfold y6;refine Tt.bind (Tt.call hR waa) λb hb=>?_;subst hb;refine waq (wfb (by omega)) (waq rfl ?_);refine Tt.bind (Tt.call (zur hg hok hk) waa) λm hm=>?_;obtain⟨r,h1,h2⟩:=z32 hm;exact wac r h1 (Tt.pure h2)
theorem z7o{g:ja}{em:List Bool}{al B:List (List Int)}{m:PM}(hok:GOk g)(h:jbz g em al B m):zqf g m=true:=by
 have ht:=hok.t;have hr:=hok.r;unfold zqf;simp only[wd8,we0,wed];refine⟨by omega,by omega,λe he=>?_,h.pm.nd⟩;have hne:=h.pm.ne e he;obtain⟨i,l,hl⟩:∃i l,e.2=i::l:=by
  cases hh:e.2 with
  |nil=>exact absurd hh hne
  |cons i l=>exact⟨i,l,rfl⟩
 obtain⟨k,p,_,hp,h1,h2,h3,_⟩:=h.pm.says e he i (by simp[hl]);obtain⟨l0,l1⟩:=hok.left p (wd7 hp);exact⟨by omega,by omega,h2,h3,hne⟩
theorem z2e{g:ja}{em re:List Bool}{al B:List (List Int)}(hg:Qv g)(hR:GR g)(hok:GOk g)(hk:Kn g em re al B):Tn (λnn=>J7 nn g) (λ_=>True):=by
 have hp:=hok.p;unfold J7;refine Tt.bind (Tt.call hR waa) λb hb=>?_;subst hb;refine waq (wfb (by omega)) (waq rfl ?_);refine Tt.bind (Tt.call (zur hg hok hk) waa) λm hm=>?_;exact wab (λ_=>Tt.pure trivial) λ_=>waq (z7o hok hm) (Tt.pure trivial)
section
variable{ι:Type}{D:Fi ι}{φ:ι → Nat}
def wcj:Fi (Nat×Nat) where
 ev P:=∃N,∀a b,N<=a->N<=b->P (a,b)
 mono:=λh⟨N,hN⟩=>⟨N,λa b ha hb=>h _ (hN a b ha hb)⟩
 and:=λ⟨N,hN⟩ ⟨M,hM⟩=>⟨max N M,λa b ha hb=>⟨hN a b (by omega) (by omega),hM a b (by omega) (by omega)⟩⟩
 top:=⟨0,λ_ _ _ _=>trivial⟩
theorem wdo:Big wcj λi=>i.1:=λN=>⟨N,λa b ha hb=>ha⟩
theorem jbt{α:Type}{q b:Nat×Nat->Option α}{Q:α->Prop}(h:Tt wcj b Q)(he:∀n m,q (n,m+1)=b (n,m)):Tt wcj q Q:=by
 obtain⟨r,⟨N,hN⟩,h2⟩:=h;refine⟨r,⟨N+1,λa c ha hc=>?_⟩,h2⟩;obtain⟨c,rfl⟩:∃c',c=c'+1:=⟨c-1,by omega⟩
 rw[he];exact hN a c (by omega) (by omega)
theorem z93{α:Type}{q:Nat×Nat->Option α}{Q:α->Prop}(h:Tt wcj q Q):Tn (λn=>q (n,n)) Q:=by
 obtain⟨r,⟨N,hN⟩,h2⟩:=h;exact⟨r,⟨N,λn hn=>hN n n hn hn⟩,h2⟩
end
theorem z3d(g:ja)(x:je)(r:List Bool)(hr:r.length=g.2.1.length)(hx:zai g x):Tn (λnn=>Qm nn x r) (λb=>b=true↔(x.1=true->r[x.2.1.toNat]?=some true)):=by
 unfold Qm;refine Tt.J (λb=>b=true↔(x.1=true->r[x.2.1.toNat]?=some true)) (λnx hnx=>?_) (λs hs=>Tt.pure hs);refine wad (wab (λc=>hnx _ ?_) (λc=>?_))
 ·have c:x.1=false:=by simpa using c
  simp[c]
 have c:x.1=true:=by simpa using c
 obtain⟨h1,h2⟩:=hx;rw[if_pos c]at h2;have hl:x.2.1.toNat<r.length:=by omega
 refine wac _ (Yr h1 (wd2 hl)) (hnx _ ?_);rw[wd2 hl];simp[c]
end Go.Proofs.YtdllbdlnmjngcaaGreat.T
namespace Go.Proofs.YtdllbdlnmjngcaaGreat
set_option maxRecDepth 100000
set_option maxHeartbeats 8000000
set_option linter.unusedVariables false
set_option linter.unusedSimpArgs false
open Go Go.RowKit L
inductive Rch(E:Nat->Nat->Prop)(S:Nat->Prop):Nat->Prop
 |base {i:Nat}:S i->Rch E S i
 |step {i j:Nat}:Rch E S i->E i j->Rch E S j
def onB(l:List Bool)(i:Nat):Prop:=l[i]?=some true
theorem onB_lt{l:List Bool}{i:Nat}(h:onB l i):i<l.length:=(wd5.1 h).1
theorem z4g{l:List Bool}{i j:Nat}(hi:i<l.length):onB (l.set i true) j↔i=j\/onB l j:=by
 unfold onB;by_cases h:i=j
 ·subst h;simp[List.getElem?_set_self hi]
 ·rw[List.getElem?_set_ne h];simp[h]
theorem jfk{n i:Nat}:¬onB (List.replicate n false) i:=by
 unfold onB;intro h;obtain⟨h1,h2⟩:=wd5.1 h;simp at h2
def zfv(l:List Bool):Nat:=l.count false
theorem z4h(l:List Bool):zfv l<=l.length:=List.count_le_length
theorem zvu(b:Bool)(l:List Bool):zfv (b::l)=zfv l+(if b then 0 else 1):=by
 unfold zfv;cases b<;>simp
theorem zy1:∀{l:List Bool}{i:Nat},l[i]?=some false->zfv (l.set i true)+1=zfv l
 |[],i,h=>by simp at h
 |b::l,0,h=>by
  simp at h;subst h;simp[zvu]
 |b::l,i+1,h=>by
  simp only[wgd]at h;have:=zy1 h;simp only[List.set_cons_succ,zvu];omega
def LeB(a b:List Bool):Prop:=a.length=b.length/\∀i,onB a i->onB b i
theorem LeB.refl(a:List Bool):LeB a a:=⟨rfl,λ_ h=>h⟩
theorem LeB.trans{a b c:List Bool}(h:LeB a b)(h2:LeB b c):LeB a c:=⟨h.1.trans h2.1,λi hi=>h2.2 i (h.2 i hi)⟩
theorem LeB.set{a:List Bool}{i:Nat}(hi:i<a.length):LeB a (a.set i true):=⟨by simp,λj hj=>(z4g hi).2 (.inr hj)⟩
theorem ext_on{a b:List Bool}(hl:a.length=b.length)(h:∀i,onB a i↔onB b i):a=b:=by
 refine whb hl λi h1 h2=>?_;have:=h i;unfold onB at this;rw[wd2 h1,wd2 h2]at this;cases e1:a[i]<;>cases e2:b[i]<;>simp[e1,e2]at this<;>rfl
noncomputable def zqv(n:Nat)(E:Nat->Nat->Prop)(S:Nat->Prop):List Bool:=by
 classical exact(List.range n).map λi=>decide (Rch E S i)
theorem zpv(n:Nat)(E:Nat->Nat->Prop)(S:Nat->Prop):(zqv n E S).length=n:=by unfold zqv;simp
theorem z5j{n:Nat}{E:Nat->Nat->Prop}{S:Nat->Prop}{i:Nat}:onB (zqv n E S) i↔i<n/\Rch E S i:=by
 classical
 unfold onB zqv;by_cases h:i<n
 ·simp[h]
 ·simp[h]
theorem je7{n:Nat}{E:Nat->Nat->Prop}{S:Nat->Prop}{l:List Bool}(hl:l.length=n)(hs:∀i,onB l i->Rch E S i)(h1:∀i,S i->onB l i)(h2:∀i j,onB l i->E i j->onB l j):l=zqv n E S:=by
 refine ext_on (by rw[hl,zpv]) λi=>⟨λh=>z5j.2 ⟨hl▸onB_lt h,hs i h⟩,λh=>?_⟩
 have:=(z5j.1 h).2;clear h;induction this with
 |base h=>exact h1 _ h
 |step _ h ih=>exact h2 _ _ ih h
end Go.Proofs.YtdllbdlnmjngcaaGreat
namespace Go.Proofs.YtdllbdlnmjngcaaGreat.T
set_option maxRecDepth 100000
set_option maxHeartbeats 8000000
set_option linter.unusedVariables false
set_option linter.unusedSimpArgs false
open Go Go.RowKit L
inductive ReG(g:ja):Nat->Prop
 |start:ReG g g.2.2.2.1.toNat
 |step {p:jf}{x:je}:p∈g.2.2.1->ReG g p.1.toNat->x∈p.2.1->x.1=true->ReG g x.2.1.toNat
structure ROk(g:ja)(st:Nat)(r:List Bool):Prop where
 a:r[st]?=some true
 b:∀i,r[i]?=some true->ReG g i
theorem ROk.set{g:ja}{st:Nat}{r:List Bool}(h:ROk g st r){p:jf}{x:je}(hp:p∈g.2.2.1)(hl:r[p.1.toNat]?=some true)(hx:x∈p.2.1)(h1:x.1=true){z:Nat}(hz:z=x.2.1.toNat):ROk g st (r.set z true):=by
 refine⟨zy7 h.a,λi hi=>?_⟩;rw[wev]at hi;split at hi
 ·rename_i e;subst e;subst hz;exact .step hp (h.b _ hl) hx h1
 ·exact h.b i hi
theorem z1u(g:ja)(hg:Qv g)(hR:GR g)(hok:GOk g):Tn (λnn=>vq nn g) (λr=>r.length=g.2.1.length/\r[g.2.2.2.1.toNat]?=some true/\(∀p∈g.2.2.1,reC r p)/\∀i,r[i]?=some true->ReG g i):=by
 unfold vq;refine Tt.bind (Tt.call hR waa) λb hb=>?_;subst hb;refine wap rfl ?_;have hp:=hg.p;refine wad (wac _ (mkN hg.r (by omega)) ?_);obtain⟨st,hst⟩:∃st:Nat,g.2.2.2.1=st:=⟨g.2.2.2.1.toNat,by have:=hok.start;omega⟩
 have hs1:=hok.start.2;rw[hst];have hsl:st<(List.replicate g.2.1.length false).length:=by simp;omega
 refine wac _ (ye hsl) (wac _ (zbz true hsl) ?_);rw[wem];have h0:∀i,((List.replicate g.2.1.length false).set st true)[i]?=some true->ReG g i:=λi h=>by
  rw[wev]at h;split at h
  ·rename_i e;subst e;have:=ReG.start (g:=g);rwa [hst,wem]at this
  ·rw[wfw]at h;split at h<;>cases h
 refine Tt.loop (λm s=>∃(more:Bool)(r:List Bool),m=2*q6 r+(if more=true then 1 else 0)/\s=(g.2.2.1,more,r)/\r.length=g.2.1.length/\ROk g st r/\(more=false->∀p∈g.2.2.1,reC r p)) (2*q6 ((List.replicate g.2.1.length false).set st true)+1) waa ⟨true,_,rfl,rfl,by simp,⟨by rw[wev];simp at hsl;simp[hsl],λi h=>h0 i h⟩,λh=>by cases h⟩ λm s⟨more,r,hm,hs,hl,hrs,hcl⟩ nx hnx=>?_;subst hs;dsimp only;refine wab (λc=>?_) (λc=>Tt.pure ⟨hl,hrs.a,hcl c,hrs.b⟩);subst c;rw[if_pos rfl]at hm;refine Tt.loop (λm s=>∃(k:Nat)(more:Bool)(r1:List Bool),k<=g.2.2.1.length/\m=g.2.2.1.length-k/\s=(g.2.2.1,more,g.2.2.1,(g.2.2.1.length:Int),(k:Int),r1)/\r1.length=g.2.1.length/\ROk g st r1/\(more=true->q6 r1<q6 r)/\(more=false->r1=r/\∀i,i<k->∀p,g.2.2.1[i]?=some p->reC r p)) g.2.2.1.length waa.fst ⟨0,false,r,by omega,by omega,rfl,hl,hrs,λh=>(by cases h),λ_=>⟨rfl,λi hi=>by omega⟩⟩ λm2 s⟨k,more,r1,hk,hm2,hs,hl1,hrs1,ht,hf⟩ ny hny=>?_;subst hs;dsimp only;refine wab (λc=>?_) (λc=>?_)
 ·have c:=wd3 c;have hlt:k<g.2.2.1.length:=by omega
  have hmem:g.2.2.1[k]∈g.2.2.1:=wec hlt;refine wac _ (atN hlt) ?_;have egp:g.2.2.1[k]?=some g.2.2.1[k]:=wd2 hlt;obtain⟨p,ep⟩:∃p,g.2.2.1[k]=p:=⟨_,rfl⟩
  rw[ep]at hmem egp⊢;obtain⟨l0,l1⟩:=hok.left p hmem;have hit:=hok.items p hmem;have hpl:=hok.len p hmem;obtain⟨q,hq⟩:∃q:Nat,p.1=q:=⟨p.1.toNat,by omega⟩
  refine Tt.J (λs=>∃(more:Bool)(r1:List Bool),s=(g.2.2.1,more,g.2.2.1,(g.2.2.1.length:Int),(k:Int),r1)/\r1.length=g.2.1.length/\ROk g st r1/\(more=true->q6 r1<q6 r)/\(more=false->r1=r/\∀i,i<k+1->∀p,g.2.2.1[i]?=some p->reC r p)) (λnz hnz=>?_) (λs⟨more,r1,hs,hl1,hrs1,ht,hf⟩=>?_)
  ·refine Tt.loop (λm s=>∃(i:Nat)(news:Bool)(r2:List Bool),i<=p.2.1.length/\m=p.2.1.length-i/\s=(news,p.2.1,(p.2.1.length:Int),(i:Int),r2,p)/\r2.length=g.2.1.length/\ROk g st r2/\(news=true->q6 r2<q6 r1)/\(news=false->r2=r1/\(r1[q]?=some true->∀j,j<i->∀x,p.2.1[j]?=some x->x.1=true->r1[x.2.1.toNat]?=some true))) p.2.1.length waa.fst.fst ⟨0,false,r1,by omega,by omega,rfl,hl1,hrs1,λh=>(by cases h),λ_=>⟨rfl,λ_ j hj=>by omega⟩⟩ λm3 s⟨i,news,r2,hi,hm3,hs,hl2,hrs2,ht2,hf2⟩ nw hnw=>?_;subst hs;dsimp only;have hql:q<r2.length:=by omega
   refine wab (λc=>?_) (λc=>?_)
   ·have c:=wd3 c;have hil:i<p.2.1.length:=by omega
    have hxm:p.2.1[i]∈p.2.1:=wec hil;have egx:p.2.1[i]?=some p.2.1[i]:=wd2 hil;refine Tt.J (λs=>∃(news:Bool)(r2:List Bool),s=(news,p.2.1,(p.2.1.length:Int),(i:Int),r2,p)/\r2.length=g.2.1.length/\ROk g st r2/\(news=true->q6 r2<q6 r1)/\(news=false->r2=r1/\(r1[q]?=some true->∀j,j<i+1->∀x,p.2.1[j]?=some x->x.1=true->r1[x.2.1.toNat]?=some true))) (λnv hnv=>?_) (λs⟨news,r2,hs,hl2,hrs2,ht2,hf2⟩=>?_)
    ·refine wac _ (atN hil) ?_;obtain⟨x,ex⟩:∃x,p.2.1[i]=x:=⟨_,rfl⟩
     rw[ex]at hxm egx⊢;obtain⟨i1,i2⟩:=hit x hxm;have keep:(r2[q]?=some true->x.1=true->r2[x.2.1.toNat]?=some true)->(news=false->r2=r1/\(r1[q]?=some true->∀j,j<i+1->∀x,p.2.1[j]?=some x->x.1=true->r1[x.2.1.toNat]?=some true)):=λhe hnf=>by
      obtain⟨e1,e2⟩:=hf2 hnf;refine⟨e1,λhrq j hj y hy hy1=>?_⟩;by_cases hji:j<i
      ·exact e2 hrq j hji y hy hy1
      ·have:j=i:=by omega
       subst this;rw[egx]at hy;cases hy;rw[<- e1]at hrq⊢;exact he hrq hy1
     refine Tt.J (λs=>∃b:Bool,s=(news,p.2.1,(p.2.1.length:Int),(i:Int),b,r2,p,x)/\(b=true->x.1=true/\r2[x.2.1.toNat]?=some false/\r2[q]?=some true)/\(b=false->r2[q]?=some true->x.1=true->r2[x.2.1.toNat]?=some true)) (λnu hnu=>?_) (λs⟨b,hs,hb1,hb2⟩=>?_)
     ·rw[hq];refine wac _ (ye hql) (wac _ (atN hql) ?_);refine wab (λc=>?_) (λc=>hnu _ ⟨false,rfl,λh=>(by cases h),λ_ h=>?_⟩)
      ·refine wab (λcx=>?_) (λcx=>hnu _ ⟨false,rfl,λh=>(by cases h),λ_ _ h=>?_⟩)
       ·rw[if_pos cx]at i2;obtain⟨z,hz⟩:∃z:Nat,x.2.1=z:=⟨x.2.1.toNat,by omega⟩
        have hzl:z<r2.length:=by omega
        rw[hz];refine wac _ (ye hzl) (wac _ (atN hzl) (hnu _ ⟨_,rfl,λh=>⟨cx,?_,by rw[wd2 hql,c]⟩,λh _ _=>?_⟩))
        ·rw[hz,wem,wd2 hzl];simp at h;rw[h]
        ·rw[hz,wem,wd2 hzl];simp at h;rw[h]
       ·rw[cx]at h;cases h
      ·rw[wd2 hql,c]at h;cases h
     ·subst hs;dsimp only;refine wab (λcb=>?_) (λcb=>hnv _ ⟨news,r2,rfl,hl2,hrs2,ht2,keep (hb2 cb)⟩);obtain⟨b1,b2,b3⟩:=hb1 cb;obtain⟨z,hz⟩:∃z:Nat,x.2.1=z:=⟨x.2.1.toNat,by omega⟩
      rw[hz,wem]at b2;have hzl:=(wd5.1 b2).1;rw[hz];refine wac _ (ye hzl) (wac _ (zbz true hzl) (hnv _ ⟨true,_,rfl,by simpa using hl2,hrs2.set hmem (by rw[hq];exact b3) hxm b1 (by rw[hz];rfl),λ_=>?_,λh=>by cases h⟩));have:=Z8 b2;cases hno:news with
      |true=>have:=ht2 hno;omega
      |false=>have:=(hf2 hno).1;subst this;omega
    ·subst hs;dsimp only;refine wad ?_;rw[wI (by omega) (by omega)];exact hnw (p.2.1.length-(i+1)) _ (by omega) ⟨i+1,news,r2,by omega,rfl,by simp,hl2,hrs2,ht2,hf2⟩
   ·have c:=wd4 c;refine wab (λcn=>hnz.fst _ ⟨true,r2,rfl,hl2,hrs2,λ_=>?_,λh=>by cases h⟩) (λcn=>?_)
    ·have:=ht2 cn;cases hmo:more with
     |true=>have:=ht hmo;omega
     |false=>have:=(hf hmo).1;subst this;omega
    ·obtain⟨e1,e2⟩:=hf2 cn;subst e1;refine hnz.fst _ ⟨more,r2,rfl,hl2,hrs2,ht,λhmf=>?_⟩;obtain⟨e3,e4⟩:=hf hmf;refine⟨e3,λj hj y hy=>?_⟩;by_cases hjk:j<k
     ·exact e4 j hjk y hy
     ·have:j=k:=by omega
      subst this;rw[egp]at hy;cases hy;intro hrq x hx hx1;obtain⟨u,hu⟩:=wes hx;rw[hq,wem]at hrq;rw[<- e3]at hrq⊢;exact e2 hrq u (by have:=(wd5.1 hu).1;omega) x hu hx1
  ·subst hs;dsimp only;refine wad ?_;rw[wI (by omega) (by omega)];exact hny (g.2.2.1.length-(k+1)) _ (by omega) ⟨k+1,more,r1,by omega,rfl,by simp,hl1,hrs1,ht,hf⟩
 ·have c:=wd4 c;cases hmo:more with
  |true=>
   have:=ht hmo;exact Tt.fst (hnx (2*q6 r1+1) _ (by omega) ⟨true,r1,rfl,rfl,hl1,hrs1,λh=>by cases h⟩)
  |false=>
   obtain⟨e1,e2⟩:=hf hmo;subst e1;exact Tt.fst (hnx (2*q6 r1) _ (by omega) ⟨false,r1,rfl,rfl,hl1,hrs1,λ_ p hp=>by
    obtain⟨i,hi⟩:=wes hp;exact e2 i (by have:=(wd5.1 hi).1;omega) p hi⟩)
theorem Yi(g:ja)(hg:zc6 g):Tn (λnn=>v8 nn g) (λb=>b=true↔gFd g=zd):=by
 unfold v8;refine Tt.bind (Tt.call (z1n g hg) waa) λd hd=>Tt.pure ?_;subst hd;obtain⟨a,b,c,u⟩:=gFd g;constructor
 ·intro h;simp[z7h]at h;obtain⟨rfl,rfl,rfl⟩:=h;rfl
 ·intro h;cases h;rfl
theorem zqd{r:List Bool}{z:Nat}(h:r[z]?=some true):r.set z true=r:=by
 apply wfj;intro i;rw[wev];split
 ·rename_i e;subst e;rw[if_pos (wd5.1 h).1,h]
 ·rfl
theorem zx9:∀(r:List Bool),q6 r<=r.length
 |[]=>by simp[q6]
 |b::r=>by
  have:=zx9 r;unfold q6;cases b<;>simp<;>omega
structure Psd(r r1:List Bool)(C D:Prop):Prop where
 l:r1.length=r.length
 le:q6 r1<=q6 r
 eq:q6 r1=q6 r->r1=r/\D
 cl:C->r1=r
theorem Psd.set{r r1:List Bool}{C D:Prop}(h:Psd r r1 C D){z:Nat}(hz:z<r1.length)(hc:C->r1[z]?=some true){D':Prop}(hD:D->r[z]?=some true->D'):Psd r (r1.set z true) C D':=by
 by_cases hb:r1[z]?=some true
 ·rw[zqd hb];refine⟨h.l,h.le,λe=>?_,h.cl⟩;obtain⟨e1,e2⟩:=h.eq e;exact⟨e1,hD e2 (e1▸hb)⟩
 ·have hf:r1[z]?=some false:=by
   rw[wd2 hz]at hb⊢;cases hh:r1[z]with
   |true=>rw[hh]at hb;exact absurd rfl hb
   |false=>rfl
  have:=Z8 hf;have hle:=h.le;exact⟨by rw[wfz];exact h.l,by omega,λe=>by omega,λc=>absurd (hc c) hb⟩
theorem Psd.mono{r r1:List Bool}{C D D':Prop}(h:Psd r r1 C D)(hD:D->r1=r->D'):Psd r r1 C D':=⟨h.l,h.le,λe=>⟨(h.eq e).1,hD (h.eq e).2 (h.eq e).1⟩,h.cl⟩
theorem zwm{r:List Bool}{z:Nat}(h:z<r.length):r[z]?=some r[z]:=wd2 h
theorem ztn(g:ja)(hg:zc6 g)(hz:gFd g=zd)(hok:GOk g):Tn (λnn=>q7 nn g) (λr=>r.length=g.2.1.length/\r[g.2.2.2.1.toNat]?=some true/\(∀p∈g.2.2.1,reC r p)/\∀i,r[i]?=some true->ReG g i):=by
 unfold q7;refine Tt.bind (Tt.call (Yi g hg) waa) λb hb=>?_;have hbt:=hb.2 hz;subst hbt;refine wap rfl ?_;have hp:=hg.p;have hr:=hg.r;have hr64:=hok.r;refine wad (wac _ (mkN hg.r (by omega)) ?_);obtain⟨st,hst⟩:∃st:Nat,g.2.2.2.1=st:=⟨g.2.2.2.1.toNat,by have:=hok.start;omega⟩
 have hs1:=hok.start.2;rw[hst];have hsl:st<(List.replicate g.2.1.length false).length:=by simp;omega
 refine wac _ (ye hsl) (wac _ (zbz true hsl) ?_);rw[wem];have hi:ROk g st ((List.replicate g.2.1.length false).set st true):=by
  refine⟨by rw[wev];simp at hsl;simp[hsl],λi h=>?_⟩;rw[wev]at h;split at h
  ·rename_i e;subst e;have:=ReG.start (g:=g);rwa [hst,wem]at this
  ·rw[wfw]at h;split at h<;>cases h
 have hil:((List.replicate g.2.1.length false).set st true).length=g.2.1.length:=by simp
 generalize (List.replicate g.2.1.length false).set st true=r0 at hi hil⊢;refine Tt.loop (λm s=>∃(k:Nat)(r:List Bool),k<=g.2.1.length+1/\m=g.2.1.length+1-k/\s=((k:Int),g,r)/\r.length=g.2.1.length/\ROk g st r/\((∀p∈g.2.2.1,reC r p)\/q6 r+k<=g.2.1.length)) (g.2.1.length+1) waa ⟨0,r0,by omega,by omega,rfl,hil,hi,.inr (by have:=zx9 r0;omega)⟩ λm s⟨k,r,hk,hm,hs,hl,hro,hcl⟩ nx hnx=>?_;subst hs;dsimp only;refine wab (λc=>?_) (λc=>Tt.pure ⟨hl,hro.a,?_,hro.b⟩)
 ·have c:=wd3 c;refine Tt.loop (λm s=>∃(i:Nat)(r1:List Bool),i<=g.2.2.1.length/\m=g.2.2.1.length-i/\s=((k:Int),(i:Int),g,r1)/\ROk g st r1/\Psd r r1 (∀p∈g.2.2.1,reC r p) (∀(j:Nat)(p:jf),j<i->g.2.2.1[j]?=some p->reC r p)) g.2.2.1.length waa.fst ⟨0,r,by omega,by omega,rfl,hro,⟨rfl,weh _,λ_=>⟨rfl,λj p h=>by omega⟩,λ_=>rfl⟩⟩ λm s⟨i,r1,hi2,hm2,hs,hro1,hps⟩ ny hny=>?_;subst hs;dsimp only;refine wab (λc2=>?_) (λc2=>?_)
  ·have c2:=wd3 c2;have hlt:i<g.2.2.1.length:=by omega
   have hget:=zwm (r:=[]) (z:=0);have hgp:g.2.2.1[i]?=some g.2.2.1[i]:=wd2 hlt;have hat:=atN hlt;have hmem:g.2.2.1[i]∈g.2.2.1:=wec hlt;generalize g.2.2.1[i]=p at hgp hat hmem;obtain⟨l0,l1⟩:=hok.left p hmem;have hit:=hok.items p hmem;have hpl:=hok.len p hmem;obtain⟨q,hq⟩:∃q:Nat,p.1=q:=⟨p.1.toNat,by omega⟩
   refine Tt.loop (λm s=>∃(j:Nat)(r2:List Bool),j<=p.2.1.length/\m=p.2.1.length-j/\s=((k:Int),(i:Int),(j:Int),g,r2)/\ROk g st r2/\Psd r r2 (∀p∈g.2.2.1,reC r p) ((∀(j:Nat)(p:jf),j<i->g.2.2.1[j]?=some p->reC r p)/\(r[q]?=some true->∀(j2:Nat)(x:je),j2<j->p.2.1[j2]?=some x->x.1=true->r[x.2.1.toNat]?=some true))) p.2.1.length waa.fst.fst ⟨0,r1,by omega,by omega,rfl,hro1,hps.mono λh _=>⟨h,λ_ j2 x hj=>by omega⟩⟩ λm s⟨j,r2,hj,hm3,hs,hro2,hps2⟩ nz hnz=>?_;subst hs;dsimp only;have hql:q<r2.length:=by rw[hps2.l];omega
   refine Tt.J (λs=>∃b,s=((k:Int),(i:Int),(j:Int),b,g,r2)/\(b=true↔r2[q]?=some true/\j<p.2.1.length)) (λnw hnw=>?_) (λs⟨b,hs,hb⟩=>?_)
   ·refine wac _ hat ?_;rw[hq];refine wac _ (ye hql) (wac _ (atN hql) (wab (λc3=>wac _ hat (hnw _ ⟨_,rfl,?_⟩)) λc3=>hnw _ ⟨_,rfl,?_⟩))
    ·rw[zwm hql,c3];simp
    ·rw[zwm hql,c3];simp
   ·subst hs;dsimp only;refine wab (λc3=>?_) (λc3=>?_)
    ·obtain⟨hrq,hjl⟩:=hb.1 c3;have hgx:p.2.1[j]?=some p.2.1[j]:=wd2 hjl;have hxm:p.2.1[j]∈p.2.1:=wec hjl;refine Tt.J (λs=>∃r3,s=((k:Int),(i:Int),(j:Int),g,r3)/\ROk g st r3/\Psd r r3 (∀p∈g.2.2.1,reC r p) ((∀(j:Nat)(p:jf),j<i->g.2.2.1[j]?=some p->reC r p)/\(r[q]?=some true->∀(j2:Nat)(x:je),j2<j+1->p.2.1[j2]?=some x->x.1=true->r[x.2.1.toNat]?=some true))) (λnu hnu=>?_) (λs⟨r3,hs,hro3,hps3⟩=>?_)
     ·refine wac _ hat (wac _ (atN hjl) ?_);generalize p.2.1[j]=x at hgx hxm⊢;obtain⟨i1,i2⟩:=hit x hxm;refine wab (λcx=>?_) (λcx=>hnu _ ⟨r2,rfl,hro2,hps2.mono λh _=>⟨h.1,λhh j2 y hj2 hy hy1=>?_⟩⟩)
      ·rw[if_pos cx]at i2;obtain⟨z,hz2⟩:∃z:Nat,x.2.1=z:=⟨x.2.1.toNat,by omega⟩
       have hzl:z<r2.length:=by rw[hps2.l];omega
       rw[hz2];refine wac _ (ye hzl) (wac _ (zbz true hzl) (hnu _ ⟨_,rfl,hro2.set hmem (by rw[hq];exact hrq) hxm cx (by rw[hz2];rfl),hps2.set hzl (λhc=>?_) (λh hrz=>⟨h.1,λhh j2 y hj2 hy hy1=>?_⟩)⟩))
       ·have e:=hps2.cl hc;rw[e]at hrq⊢;have:=hc p hmem (by rw[hq];exact hrq) x hxm cx;rwa [hz2]at this
       ·by_cases hjj:j2<j
        ·exact h.2 hh j2 y hjj hy hy1
        ·have:j2=j:=by omega
         subst this;rw[hgx]at hy;cases hy;rw[hz2];exact hrz
      ·by_cases hjj:j2<j
       ·exact h.2 hh j2 y hjj hy hy1
       ·have:j2=j:=by omega
        subst this;rw[hgx]at hy;cases hy;rw[cx]at hy1;cases hy1
     ·subst hs;refine wad ?_;dsimp only;rw[wI (by omega) (by omega)];exact hnz (p.2.1.length-(j+1)) _ (by omega) ⟨j+1,r3,by omega,rfl,rfl,hro3,hps3⟩
    ·refine wad ?_;rw[wI (by omega) (by omega)];refine(hny (g.2.2.1.length-(i+1)) _ (by omega) ⟨i+1,r2,by omega,rfl,rfl,hro2,hps2.mono λh e j2 p2 hj2 hp2=>?_⟩).fst;by_cases hji:j2<i
     ·exact h.1 j2 p2 hji hp2
     ·have:j2=i:=by omega
      subst this;rw[hgp]at hp2;cases hp2;intro hh x hx hx1;rw[hq,wem]at hh;have hjl:¬j<p.2.1.length:=λhjl=>by
       rw[hb.2 ⟨by rw[e];exact hh,hjl⟩]at c3;cases c3
      obtain⟨j3,hj3⟩:=wes hx;exact h.2 hh j3 x (by have:=(wd5.1 hj3).1;omega) hj3 hx1
  ·have c2:=wd4 c2;refine wad ?_;rw[wI (by omega) (by omega)];refine(hnx (g.2.1.length+1-(k+1)) _ (by omega) ⟨k+1,r1,by omega,rfl,rfl,by rw[hps.l];exact hl,hro1,?_⟩).fst;by_cases he:q6 r1=q6 r
   ·obtain⟨e1,e2⟩:=hps.eq he;left;intro p hp2;rw[e1];obtain⟨j,hj⟩:=wes hp2;exact e2 j p (by have:=(wd5.1 hj).1;omega) hj
   ·have hle:=hps.le;rcases hcl with h|h
    ·exact absurd (by rw[hps.cl h]) he
    ·right;omega
 ·have c:=wd4 c;rcases hcl with h|h
  ·exact h
  ·omega
inductive MkG(tk:Bool)(g:ja):Nat->Prop
 |mk {p:jf}:p∈g.2.2.1->(∀x∈p.2.1,x.1=true->MkG tk g x.2.1.toNat)->(∀x∈p.2.1,x.1=false->tk=true)->MkG tk g p.1.toNat
def MSn(tk:Bool)(g:ja)(r:List Bool):Prop:=∀i:Nat,r[i]?=some true->MkG tk g i
def IPt(tk:Bool)(r:List Bool)(x:je):Prop:=(x.1=true->r[x.2.1.toNat]?=some true)/\(x.1=false->tk=true)
def mkT(tk:Bool)(r:List Bool)(p:jf):Prop:=(∀x∈p.2.1,IPt tk r x)->r[p.1.toNat]?=some true
theorem MSn.nil(tk:Bool){g:ja}(n:Nat):MSn tk g (List.replicate n false):=λi h=>by
 rw[wfw]at h;split at h<;>cases h
theorem MSn.set{tk:Bool}{g:ja}{r:List Bool}(h:MSn tk g r){p:jf}(hp:p∈g.2.2.1)(hall:∀x∈p.2.1,IPt tk r x){z:Nat}(hz:z=p.1.toNat):MSn tk g (r.set z true):=λi hi=>by
 rw[wev]at hi;split at hi
 ·rename_i e;subst e;subst hz;exact .mk hp (λx hx hx1=>h _ ((hall x hx).1 hx1)) λx hx=>(hall x hx).2
 ·exact h i hi
theorem item1T(g:ja)(x:je)(r:List Bool)(hr:r.length=g.2.1.length)(hx:zai g x):Tn (λnn=>Qm nn x r) (λb=>b=true↔IPt true r x):=by
 refine(z3d g x r hr hx).mono λb hb=>hb.trans ?_;unfold IPt;simp
theorem item1F(g:ja)(x:je)(r:List Bool)(hr:r.length=g.2.1.length)(hx:zai g x):Tn (λnn=>Qp nn x r) (λb=>b=true↔IPt false r x):=by
 refine(zvk g x r hr hx).mono λb hb=>hb.trans ?_;unfold IPt;cases x.1<;>simp
theorem jaj(g:ja)(hg:Qv g)(hR:GR g)(hok:GOk g):Tn (λnn=>Q9 nn g) (λr=>r.length=g.2.1.length/\(∀p∈g.2.2.1,mkT true r p)/\MSn true g r):=by
 unfold Q9;refine Tt.J (λr=>r.length=g.2.1.length/\(∀p∈g.2.2.1,mkT true r p)/\MSn true g r) (λnx2 h2=>?_) (λs hs=>Tt.pure hs);refine Tt.bind (Tt.call hR waa) λb hb=>?_;subst hb;refine wap rfl ?_;have hp:=hg.p;refine wad (wac _ (mkN hg.r (by omega)) ?_);refine Tt.loop (λm s=>∃(more:Bool)(r:List Bool),m=2*q6 r+(if more=true then 1 else 0)/\s=(g.2.2.1,more,r)/\r.length=g.2.1.length/\MSn true g r/\(more=false->∀p∈g.2.2.1,mkT true r p)) (2*q6 (List.replicate g.2.1.length false)+1) waa ⟨true,_,rfl,rfl,by simp,MSn.nil _ _,λh=>by cases h⟩ λm s⟨more,r,hm,hs,hl,hsn,hcl⟩ nx hnx=>?_;subst hs;dsimp only;refine wab (λc=>?_) (λc=>h2.fst _ ⟨hl,hcl c,hsn⟩);subst c;rw[if_pos rfl]at hm;refine Tt.loop (λm s=>∃(k:Nat)(more:Bool)(r1:List Bool),k<=g.2.2.1.length/\m=g.2.2.1.length-k/\s=(g.2.2.1,more,g.2.2.1,(g.2.2.1.length:Int),(k:Int),r1)/\r1.length=g.2.1.length/\MSn true g r1/\(more=true->q6 r1<q6 r)/\(more=false->r1=r/\∀i,i<k->∀p,g.2.2.1[i]?=some p->mkT true r p)) g.2.2.1.length waa.fst ⟨0,false,r,by omega,by omega,rfl,hl,hsn,λh=>(by cases h),λ_=>⟨rfl,λi hi=>by omega⟩⟩ λm2 s⟨k,more,r1,hk,hm2,hs,hl1,hsn1,ht,hf⟩ ny hny=>?_;subst hs;dsimp only;refine wab (λc=>?_) (λc=>?_)
 ·have c:=wd3 c;have hlt:k<g.2.2.1.length:=by omega
  have hmem:g.2.2.1[k]∈g.2.2.1:=wec hlt;refine wac _ (atN hlt) ?_;have egp:g.2.2.1[k]?=some g.2.2.1[k]:=wd2 hlt;obtain⟨p,ep⟩:∃p,g.2.2.1[k]=p:=⟨_,rfl⟩
  rw[ep]at hmem egp⊢;obtain⟨l0,l1⟩:=hok.left p hmem;have hit:=hok.items p hmem;have hpl:=hok.len p hmem;obtain⟨q,hq⟩:∃q:Nat,p.1=q:=⟨p.1.toNat,by omega⟩
  have hql:q<r1.length:=by omega
  refine Tt.J (λs=>∃(more:Bool)(r1:List Bool),s=(g.2.2.1,more,g.2.2.1,(g.2.2.1.length:Int),(k:Int),r1)/\r1.length=g.2.1.length/\MSn true g r1/\(more=true->q6 r1<q6 r)/\(more=false->r1=r/\∀i,i<k+1->∀p,g.2.2.1[i]?=some p->mkT true r p)) (λnz hnz=>?_) (λs⟨more,r1,hs,hl1,hsn1,ht,hf⟩=>?_)
  ·have keep:mkT true r1 p->(more=false->r1=r/\∀i,i<k+1->∀p,g.2.2.1[i]?=some p->mkT true r p):=λhe hmf=>by
    obtain⟨e1,e2⟩:=hf hmf;refine⟨e1,λi hi x hx=>?_⟩;by_cases hik:i<k
    ·exact e2 i hik x hx
    ·have:i=k:=by omega
     subst this;rw[egp]at hx;cases hx;rw[<- e1];exact he
   rw[hq];refine wac _ (ye hql) (wac _ (atN hql) ?_);refine wab (λc=>hnz _ ⟨more,r1,rfl,hl1,hsn1,ht,keep λ_=>?_⟩) (λc=>?_)
   ·rw[hq,wem,wd2 hql,c]
   ·have hqf:r1[q]?=some false:=by rw[wd2 hql,c]
    refine Tt.loop (λm s=>∃i:Nat,i<=p.2.1.length/\m=p.2.1.length-i/\s=(p.2.1,(p.2.1.length:Int),(i:Int),r1,p)/\∀(j:Nat)(x:je),j<i->p.2.1[j]?=some x->IPt true r1 x) p.2.1.length waa.fst.fst ⟨0,by omega,by omega,rfl,λj x h=>by omega⟩ λm3 s⟨i,hi,hm3,hs,hall⟩ nw hnw=>?_;subst hs;dsimp only;refine wab (λc=>?_) (λc=>?_)
    ·have c:=wd3 c;have hil:i<p.2.1.length:=by omega
     have hxm:p.2.1[i]∈p.2.1:=wec hil;refine wac _ (atN hil) (Tt.bind (Tt.call (item1T g _ r1 hl1 (hit _ hxm)) waa.fst.fst.fst) λb hb=>?_);refine wab (λcb=>hnz.fst _ ⟨more,r1,rfl,hl1,hsn1,ht,keep λhall=>?_⟩) (λhcb=>wad ?_)
     ·have:=hb.2 (hall _ hxm);rw[this]at cb;cases cb
     ·rw[wI (by omega) (by omega)];refine hnw (p.2.1.length-(i+1)) _ (by omega) ⟨i+1,by omega,rfl,rfl,λj x hj hx=>?_⟩;by_cases hji:j<i
      ·exact hall j x hji hx
      ·have:j=i:=by omega
       subst this;rw[wd2 hil]at hx;cases hx;exact hb.1 (by simpa using hcb)
    ·rw[hq];refine wac _ (ye hql) (wac _ (zbz true hql) (hnz.fst _ ⟨true,_,rfl,by simpa using hl1,hsn1.set hmem (λx hx=>?_) (by rw[hq];rfl),λ_=>?_,λh=>by cases h⟩))
     ·have c:=wd4 c;obtain⟨j,hj⟩:=wes hx;exact hall j x (by have:=(wd5.1 hj).1;omega) hj
     have:=Z8 hqf;cases hmo:more with
     |true=>have:=ht hmo;omega
     |false=>have:=(hf hmo).1;subst this;omega
  ·subst hs;dsimp only;refine wad ?_;rw[wI (by omega) (by omega)];exact hny (g.2.2.1.length-(k+1)) _ (by omega) ⟨k+1,more,r1,by omega,rfl,by simp,hl1,hsn1,ht,hf⟩
 ·have c:=wd4 c;cases hmo:more with
  |true=>
   have:=ht hmo;exact Tt.fst (hnx (2*q6 r1+1) _ (by omega) ⟨true,r1,rfl,rfl,hl1,hsn1,λh=>by cases h⟩)
  |false=>
   obtain⟨e1,e2⟩:=hf hmo;subst e1;exact Tt.fst (hnx (2*q6 r1) _ (by omega) ⟨false,r1,rfl,rfl,hl1,hsn1,λ_ p hp=>by
    obtain⟨i,hi⟩:=wes hp;exact e2 i (by have:=(wd5.1 hi).1;omega) p hi⟩)
theorem ja0(g:ja)(hg:Qv g)(hR:GR g)(hok:GOk g):Tn (λnn=>vg nn g) (λr=>r.length=g.2.1.length/\(∀p∈g.2.2.1,mkT false r p)/\MSn false g r):=by
 unfold vg;refine Tt.J (λr=>r.length=g.2.1.length/\(∀p∈g.2.2.1,mkT false r p)/\MSn false g r) (λnx2 h2=>?_) (λs hs=>Tt.pure hs);refine Tt.bind (Tt.call hR waa) λb hb=>?_;subst hb;refine wap rfl ?_;have hp:=hg.p;refine wad (wac _ (mkN hg.r (by omega)) ?_);refine Tt.loop (λm s=>∃(more:Bool)(r:List Bool),m=2*q6 r+(if more=true then 1 else 0)/\s=(g.2.2.1,more,r)/\r.length=g.2.1.length/\MSn false g r/\(more=false->∀p∈g.2.2.1,mkT false r p)) (2*q6 (List.replicate g.2.1.length false)+1) waa ⟨true,_,rfl,rfl,by simp,MSn.nil _ _,λh=>by cases h⟩ λm s⟨more,r,hm,hs,hl,hsn,hcl⟩ nx hnx=>?_;subst hs;dsimp only;refine wab (λc=>?_) (λc=>h2.fst _ ⟨hl,hcl c,hsn⟩);subst c;rw[if_pos rfl]at hm;refine Tt.loop (λm s=>∃(k:Nat)(more:Bool)(r1:List Bool),k<=g.2.2.1.length/\m=g.2.2.1.length-k/\s=(g.2.2.1,more,g.2.2.1,(g.2.2.1.length:Int),(k:Int),r1)/\r1.length=g.2.1.length/\MSn false g r1/\(more=true->q6 r1<q6 r)/\(more=false->r1=r/\∀i,i<k->∀p,g.2.2.1[i]?=some p->mkT false r p)) g.2.2.1.length waa.fst ⟨0,false,r,by omega,by omega,rfl,hl,hsn,λh=>(by cases h),λ_=>⟨rfl,λi hi=>by omega⟩⟩ λm2 s⟨k,more,r1,hk,hm2,hs,hl1,hsn1,ht,hf⟩ ny hny=>?_;subst hs;dsimp only;refine wab (λc=>?_) (λc=>?_)
 ·have c:=wd3 c;have hlt:k<g.2.2.1.length:=by omega
  have hmem:g.2.2.1[k]∈g.2.2.1:=wec hlt;refine wac _ (atN hlt) ?_;have egp:g.2.2.1[k]?=some g.2.2.1[k]:=wd2 hlt;obtain⟨p,ep⟩:∃p,g.2.2.1[k]=p:=⟨_,rfl⟩
  rw[ep]at hmem egp⊢;obtain⟨l0,l1⟩:=hok.left p hmem;have hit:=hok.items p hmem;have hpl:=hok.len p hmem;obtain⟨q,hq⟩:∃q:Nat,p.1=q:=⟨p.1.toNat,by omega⟩
  have hql:q<r1.length:=by omega
  refine Tt.J (λs=>∃(more:Bool)(r1:List Bool),s=(g.2.2.1,more,g.2.2.1,(g.2.2.1.length:Int),(k:Int),r1)/\r1.length=g.2.1.length/\MSn false g r1/\(more=true->q6 r1<q6 r)/\(more=false->r1=r/\∀i,i<k+1->∀p,g.2.2.1[i]?=some p->mkT false r p)) (λnz hnz=>?_) (λs⟨more,r1,hs,hl1,hsn1,ht,hf⟩=>?_)
  ·have keep:mkT false r1 p->(more=false->r1=r/\∀i,i<k+1->∀p,g.2.2.1[i]?=some p->mkT false r p):=λhe hmf=>by
    obtain⟨e1,e2⟩:=hf hmf;refine⟨e1,λi hi x hx=>?_⟩;by_cases hik:i<k
    ·exact e2 i hik x hx
    ·have:i=k:=by omega
     subst this;rw[egp]at hx;cases hx;rw[<- e1];exact he
   rw[hq];refine wac _ (ye hql) (wac _ (atN hql) ?_);refine wab (λc=>hnz _ ⟨more,r1,rfl,hl1,hsn1,ht,keep λ_=>?_⟩) (λc=>?_)
   ·rw[hq,wem,wd2 hql,c]
   ·have hqf:r1[q]?=some false:=by rw[wd2 hql,c]
    refine Tt.loop (λm s=>∃i:Nat,i<=p.2.1.length/\m=p.2.1.length-i/\s=(p.2.1,(p.2.1.length:Int),(i:Int),r1,p)/\∀(j:Nat)(x:je),j<i->p.2.1[j]?=some x->IPt false r1 x) p.2.1.length waa.fst.fst ⟨0,by omega,by omega,rfl,λj x h=>by omega⟩ λm3 s⟨i,hi,hm3,hs,hall⟩ nw hnw=>?_;subst hs;dsimp only;refine wab (λc=>?_) (λc=>?_)
    ·have c:=wd3 c;have hil:i<p.2.1.length:=by omega
     have hxm:p.2.1[i]∈p.2.1:=wec hil;refine wac _ (atN hil) (Tt.bind (Tt.call (item1F g _ r1 hl1 (hit _ hxm)) waa.fst.fst.fst) λb hb=>?_);refine wab (λcb=>hnz.fst _ ⟨more,r1,rfl,hl1,hsn1,ht,keep λhall=>?_⟩) (λhcb=>wad ?_)
     ·have:=hb.2 (hall _ hxm);rw[this]at cb;cases cb
     ·rw[wI (by omega) (by omega)];refine hnw (p.2.1.length-(i+1)) _ (by omega) ⟨i+1,by omega,rfl,rfl,λj x hj hx=>?_⟩;by_cases hji:j<i
      ·exact hall j x hji hx
      ·have:j=i:=by omega
       subst this;rw[wd2 hil]at hx;cases hx;exact hb.1 (by simpa using hcb)
    ·rw[hq];refine wac _ (ye hql) (wac _ (zbz true hql) (hnz.fst _ ⟨true,_,rfl,by simpa using hl1,hsn1.set hmem (λx hx=>?_) (by rw[hq];rfl),λ_=>?_,λh=>by cases h⟩))
     ·have c:=wd4 c;obtain⟨j,hj⟩:=wes hx;exact hall j x (by have:=(wd5.1 hj).1;omega) hj
     have:=Z8 hqf;cases hmo:more with
     |true=>have:=ht hmo;omega
     |false=>have:=(hf hmo).1;subst this;omega
  ·subst hs;dsimp only;refine wad ?_;rw[wI (by omega) (by omega)];exact hny (g.2.2.1.length-(k+1)) _ (by omega) ⟨k+1,more,r1,by omega,rfl,by simp,hl1,hsn1,ht,hf⟩
 ·have c:=wd4 c;cases hmo:more with
  |true=>
   have:=ht hmo;exact Tt.fst (hnx (2*q6 r1+1) _ (by omega) ⟨true,r1,rfl,rfl,hl1,hsn1,λh=>by cases h⟩)
  |false=>
   obtain⟨e1,e2⟩:=hf hmo;subst e1;exact Tt.fst (hnx (2*q6 r1) _ (by omega) ⟨false,r1,rfl,rfl,hl1,hsn1,λ_ p hp=>by
    obtain⟨i,hi⟩:=wes hp;exact e2 i (by have:=(wd5.1 hi).1;omega) p hi⟩)
theorem z5g(g:ja)(l:List je)(r:List Bool)(tk:Bool)(hl:l.length<=1000000)(hr:r.length=g.2.1.length)(hx:∀x∈l,zai g x):Tn (λnn=>zae nn l r tk) (λb=>b=true↔∀x∈l,IPt tk r x):=by
 unfold zae;refine Tt.loop (λm s=>∃k:Nat,k<=l.length/\m=l.length-k/\s=(l,r,tk,(k:Int))/\∀(j:Nat)(x:je),j<k->l[j]?=some x->IPt tk r x) l.length waa ⟨0,by omega,by omega,rfl,λj x h=>by omega⟩ λm s⟨k,hk,hm,hs,hall⟩ nx hnx=>?_;subst hs;dsimp only;refine wab (λc=>?_) (λc=>Tt.pure ?_)
 ·have c:=wd3 c;have hlt:k<l.length:=by omega
  have hat:=atN hlt;have hget:=wd2 hlt;have hmem:=wec hlt;generalize l[k]=x at hat hget hmem;obtain⟨i1,i2⟩:=hx x hmem;refine Tt.J (λs=>∃b,s=(l,r,tk,(k:Int),b)/\(b=true↔¬IPt tk r x)) (λny hny=>?_) (λs⟨b,hs,hb⟩=>?_)
  ·refine wac _ hat (wad ?_);cases h1:x.1 with
   |false=>
    refine waq rfl ?_;cases tk with
    |false=>exact waq rfl (hny _ ⟨_,rfl,by unfold IPt;simp[h1]⟩)
    |true=>
     refine wap rfl (wac _ hat ?_);rw[h1];exact wap rfl (hny _ ⟨_,rfl,by unfold IPt;simp[h1]⟩)
   |true=>
    rw[if_pos h1]at i2;refine wap rfl (wac _ hat ?_);rw[h1];refine waq rfl (wac _ hat ?_);have hz:x.2.1.toNat<r.length:=by omega
    refine wac _ (Yr i1 (wd2 hz)) (hny _ ⟨_,rfl,?_⟩);unfold IPt;rw[wd2 hz];simp[h1]
  ·subst hs;dsimp only;refine wab (λc1=>Tt.pure ?_) λc1=>wad ?_
   ·have:=hb.1 c1;constructor
    ·intro h;cases h
    ·intro h;exact absurd (h x hmem) this
   ·rw[wI (by omega) (by omega)];refine hnx (l.length-(k+1)) _ (by omega) ⟨k+1,by omega,rfl,rfl,λj y hj hy=>?_⟩;by_cases hjk:j<k
    ·exact hall j y hjk hy
    ·have:j=k:=by omega
     subst this;rw[hget]at hy;cases hy;exact wf3 λh=>by rw[hb.2 h]at c1;cases c1
 ·have c:=wd4 c;simp only[true_iff];intro x hx2;obtain⟨j,hj⟩:=wes hx2;exact hall j x (by have:=(wd5.1 hj).1;omega) hj
theorem znm(g:ja)(hg:zc6 g)(hz:gFd g=zd)(hok:GOk g)(tk:Bool):Tn (λnn=>Z7 nn g tk) (λr=>r.length=g.2.1.length/\(∀p∈g.2.2.1,mkT tk r p)/\MSn tk g r):=by
 unfold Z7 Vz;refine Tt.bind (Tt.call (Yi g hg) waa) λb hb=>?_;have hbt:=hb.2 hz;subst hbt;refine wap rfl ?_;have hp:=hg.p;have hr:=hg.r;have hr64:=hok.r;refine wad (wac _ (mkN hg.r (by omega)) ?_);refine Tt.loop (λm s=>∃(k:Nat)(r:List Bool),k<=g.2.1.length+1/\m=g.2.1.length+1-k/\s=(tk,(k:Int),g,r)/\r.length=g.2.1.length/\MSn tk g r/\((∀p∈g.2.2.1,mkT tk r p)\/q6 r+k<=g.2.1.length)) (g.2.1.length+1) waa ⟨0,_,by omega,by omega,rfl,by simp,MSn.nil _ _,.inr (by have:=zx9 (List.replicate g.2.1.length false);simp at this;omega)⟩ λm s⟨k,r,hk,hm,hs,hl,hsn,hcl⟩ nx hnx=>?_;subst hs;dsimp only;refine wab (λc=>?_) (λc=>Tt.pure ⟨hl,?_,hsn⟩)
 ·have c:=wd3 c;refine Tt.loop (λm s=>∃(i:Nat)(r1:List Bool),i<=g.2.2.1.length/\m=g.2.2.1.length-i/\s=(tk,(k:Int),(i:Int),g,r1)/\MSn tk g r1/\Psd r r1 (∀p∈g.2.2.1,mkT tk r p) (∀(j:Nat)(p:jf),j<i->g.2.2.1[j]?=some p->mkT tk r p)) g.2.2.1.length waa.fst ⟨0,r,by omega,by omega,rfl,hsn,⟨rfl,weh _,λ_=>⟨rfl,λj p h=>by omega⟩,λ_=>rfl⟩⟩ λm s⟨i,r1,hi2,hm2,hs,hsn1,hps⟩ ny hny=>?_;subst hs;dsimp only;refine wab (λc2=>?_) (λc2=>?_)
  ·have c2:=wd3 c2;have hlt:i<g.2.2.1.length:=by omega
   have hgp:g.2.2.1[i]?=some g.2.2.1[i]:=wd2 hlt;have hat:=atN hlt;have hmem:g.2.2.1[i]∈g.2.2.1:=wec hlt;generalize g.2.2.1[i]=p at hgp hat hmem;obtain⟨l0,l1⟩:=hok.left p hmem;have hit:=hok.items p hmem;have hpl:=hok.len p hmem;obtain⟨q,hq⟩:∃q:Nat,p.1=q:=⟨p.1.toNat,by omega⟩
   have hr1:r1.length=g.2.1.length:=by rw[hps.l];exact hl
   have hql:q<r1.length:=by omega
   refine Tt.J (λs=>∃r2,s=(tk,(k:Int),(i:Int),g,r2)/\MSn tk g r2/\Psd r r2 (∀p∈g.2.2.1,mkT tk r p) (∀(j:Nat)(p:jf),j<i+1->g.2.2.1[j]?=some p->mkT tk r p)) (λnz hnz=>?_) (λs⟨r2,hs,hsn2,hps2⟩=>?_)
   ·have ext:mkT tk r p->(∀(j:Nat)(p:jf),j<i->g.2.2.1[j]?=some p->mkT tk r p)->∀(j:Nat)(p:jf),j<i+1->g.2.2.1[j]?=some p->mkT tk r p:=λhm h j p2 hj hp2=>by
     by_cases hji:j<i
     ·exact h j p2 hji hp2
     ·have:j=i:=by omega
      subst this;rw[hgp]at hp2;cases hp2;exact hm
    refine wac _ hat (Tt.bind (Tt.call (z5g g p.2.1 r1 tk (by omega) hr1 hit) waa.fst.fst) λb hb=>?_);refine wab (λc3=>?_) λc3=>hnz _ ⟨r1,rfl,hsn1,hps.mono λh e=>ext (λhall=>?_) h⟩
    ·have hall:=hb.1 c3;refine wac _ hat ?_;rw[hq];refine wac _ (ye hql) (wac _ (zbz true hql) (hnz _ ⟨_,rfl,hsn1.set hmem hall (by rw[hq];rfl),hps.set hql (λhc=>?_) λh hrq=>ext (λ_=>by rw[hq];exact hrq) h⟩));have e:=hps.cl hc;have:=hc p hmem (by rw[<- e];exact hall);rw[hq]at this;rw[e];exact this
    ·rw[<- e]at hall;rw[hb.2 hall]at c3;cases c3
   ·subst hs;refine wad ?_;dsimp only;rw[wI (by omega) (by omega)];exact hny (g.2.2.1.length-(i+1)) _ (by omega) ⟨i+1,r2,by omega,rfl,rfl,hsn2,hps2⟩
  ·have c2:=wd4 c2;refine wad ?_;rw[wI (by omega) (by omega)];refine(hnx (g.2.1.length+1-(k+1)) _ (by omega) ⟨k+1,r1,by omega,rfl,rfl,by rw[hps.l];exact hl,hsn1,?_⟩).fst;by_cases he:q6 r1=q6 r
   ·obtain⟨e1,e2⟩:=hps.eq he;left;intro p hp2;rw[e1];obtain⟨j,hj⟩:=wes hp2;exact e2 j p (by have:=(wd5.1 hj).1;omega) hj
   ·have hle:=hps.le;rcases hcl with h|h
    ·exact absurd (by rw[hps.cl h]) he
    ·right;omega
 ·have c:=wd4 c;rcases hcl with h|h
  ·exact h
  ·omega
theorem zvl{n:Nat}{a b:List Bool}(ha:a.length=n)(hb:b.length=n)(h:∀i:Nat,a[i]?=some true↔b[i]?=some true):a=b:=by
 apply whb (by omega);intro i h1 h2;have:=h i;rw[wd2 h1,wd2 h2]at this;cases e1:a[i]<;>cases e2:b[i]<;>simp[e1,e2]at this⊢
theorem jbk{g:ja}{r:List Bool}(h0:r[g.2.2.2.1.toNat]?=some true)(hc:∀p∈g.2.2.1,reC r p){i:Nat}(h:ReG g i):r[i]?=some true:=by
 induction h with
 |start=>exact h0
 |step hp _ hx h1 ih=>exact hc _ hp ih _ hx h1
theorem jcj{tk:Bool}{g:ja}{r:List Bool}(hc:∀p∈g.2.2.1,mkT tk r p){i:Nat}(h:MkG tk g i):r[i]?=some true:=by
 induction h with
 |mk hp _ h2 ih=>exact hc _ hp λx hx=>⟨ih x hx,h2 x hx⟩
theorem zzf{g:ja}{a b:List Bool}(ha:a.length=g.2.1.length/\a[g.2.2.2.1.toNat]?=some true/\(∀p∈g.2.2.1,reC a p)/\∀i,a[i]?=some true->ReG g i)(hb:b.length=g.2.1.length/\b[g.2.2.2.1.toNat]?=some true/\(∀p∈g.2.2.1,reC b p)/\∀i,b[i]?=some true->ReG g i):a=b:=
 zvl ha.1 hb.1 λi=>⟨λh=>jbk hb.2.1 hb.2.2.1 (ha.2.2.2 i h),λh=>jbk ha.2.1 ha.2.2.1 (hb.2.2.2 i h)⟩
theorem z1h{tk:Bool}{g:ja}{a b:List Bool}(ha:a.length=g.2.1.length/\(∀p∈g.2.2.1,mkT tk a p)/\MSn tk g a)(hb:b.length=g.2.1.length/\(∀p∈g.2.2.1,mkT tk b p)/\MSn tk g b):a=b:=
 zvl ha.1 hb.1 λi=>⟨λh=>jcj hb.2.1 (ha.2.2 i h),λh=>jcj ha.2.1 (hb.2.2 i h)⟩
def fsF(kd:Int):List Bool->Nat->jc
 |[],_=>(0,0,0,())
 |b::l,i=>match b with
  |true=>fsF kd l (i+1)
  |false=>(kd,i,0,())
theorem z5s{g:ja}(hok:GOk g)(y:D_api_Dfa×List (List Int)×Unit){r0:List Bool}(hl:r0.length=g.2.1.length)(hc:Tn (λnn=>vq nn g) (λr=>r=r0)):Tn (λnn=>Jv nn (some (g,y))) (λd=>d=fsF 13 r0 0):=by
 have hr:=hok.r;unfold Jv;refine wad ?_;refine Tt.bind (Tt.call hc waa) λr h1=>?_;subst h1;refine Tt.J (λd=>d=fsF 13 r 0) (λnx hnx=>?_) (λs hs=>Tt.pure hs);refine Tt.loop (λm s=>∃k:Nat,k<=r.length/\m=r.length-k/\s=(13,0,(r.length:Int),(k:Int),r,(0,0,0,()))/\fsF 13 r 0=fsF 13 (r.drop k) k) r.length waa ⟨0,by omega,by omega,rfl,rfl⟩ λm s⟨k,hk,hm,hs,he⟩ ny hny=>?_;subst hs;dsimp only;refine wab (λc=>?_) (λc=>hnx.fst _ ?_)
 ·have c:=wd3 c;have hlt:k<r.length:=by omega
  rw[we7 hlt]at he;refine wac _ (atN hlt) (wab (λcb=>hnx.fst _ ?_) λcb=>wad ?_)
  ·have cb:r[k]=false:=by simpa using cb
   rw[he,cb];rfl
  ·have cb:r[k]=true:=by simpa using cb
   rw[wI (by omega) (by omega)];exact hny (r.length-(k+1)) _ (by omega) ⟨k+1,by omega,rfl,by simp,by rw[he,cb];rfl⟩
 ·have c:=wd4 c;have:k=r.length:=by omega
  subst this;rw[he,wf2];rfl
theorem z61{g:ja}(hok:GOk g)(y:D_api_Dfa×List (List Int)×Unit){r0:List Bool}(hl:r0.length=g.2.1.length)(hc:Tn (λnn=>Q9 nn g) (λr=>r=r0)):Tn (λnn=>Jo nn (some (g,y))) (λd=>d=fsF 14 r0 0):=by
 have hr:=hok.r;unfold Jo;refine wad ?_;refine Tt.bind (Tt.call hc waa) λr h1=>?_;subst h1;refine Tt.J (λd=>d=fsF 14 r 0) (λnx hnx=>?_) (λs hs=>Tt.pure hs);refine Tt.loop (λm s=>∃k:Nat,k<=r.length/\m=r.length-k/\s=(14,0,(r.length:Int),(k:Int),r,(0,0,0,()))/\fsF 14 r 0=fsF 14 (r.drop k) k) r.length waa ⟨0,by omega,by omega,rfl,rfl⟩ λm s⟨k,hk,hm,hs,he⟩ ny hny=>?_;subst hs;dsimp only;refine wab (λc=>?_) (λc=>hnx.fst _ ?_)
 ·have c:=wd3 c;have hlt:k<r.length:=by omega
  rw[we7 hlt]at he;refine wac _ (atN hlt) (wab (λcb=>hnx.fst _ ?_) λcb=>wad ?_)
  ·have cb:r[k]=false:=by simpa using cb
   rw[he,cb];rfl
  ·have cb:r[k]=true:=by simpa using cb
   rw[wI (by omega) (by omega)];exact hny (r.length-(k+1)) _ (by omega) ⟨k+1,by omega,rfl,by simp,by rw[he,cb];rfl⟩
 ·have c:=wd4 c;have:k=r.length:=by omega
  subst this;rw[he,wf2];rfl
end Go.Proofs.YtdllbdlnmjngcaaGreat.T
namespace Go.Proofs.YtdllbdlnmjngcaaGreat
set_option maxRecDepth 100000
set_option maxHeartbeats 8000000
set_option linter.unusedVariables false
set_option linter.unusedSimpArgs false
open Go Go.RowKit L
theorem zcu{k:Nat}(h:k<9223372036854775807):w64 ((k:Int)+1)=((k+1:Nat):Int):=by
 unfold w64;rw[zea (by omega) (by omega)];rfl
theorem wbl{σ α:Type}{body:σ->G (σ ⊕ α)}{Q:α->Prop}(c:σ->Int)(N:Nat)(I:Nat->σ->Prop)(hc:∀k s,I k s->c s=(k:Int))
  (h:∀(k:Nat)s,k<N->I k s->Tot (body s) λr=>match r with|.inl s'=>I (k+1) s'|.inr a=>Q a)
  (hN:∀s,I N s->Tot (body s) λr=>match r with|.inl _=>False|.inr a=>Q a){s:σ}(h0:I 0 s):Tot (G.loop body s) Q:=by
 refine Tot.loop (λs=>∃k:Nat,k<=N/\I k s) (λs=>N+1-(c s).toNat) ?_ ⟨0,wgm _,h0⟩;rintro s ⟨k,hk,hI⟩;rcases wg9 k N with hlt|hge
 ·refine(h k s hlt hI).mono λr hr=>?_;cases r with
  |inl s'=>
   refine⟨⟨k+1,hlt,hr⟩,?_⟩;show N+1-(c s').toNat<N+1-(c s).toNat;rw[hc _ _ hr,hc _ _ hI];simp only[wem];omega
  |inr a=>exact hr
 ·have:k=N:=by omega
  subst this;refine(hN s hI).mono λr hr=>?_;cases r with
  |inl s'=>exact hr.elim
  |inr a=>exact hr
def at'{α:Type}[Inhabited α](l:List α)(z:Int):α:=l.getD z.toNat default
theorem ziw{α:Type}[Inhabited α]{l:List α}{k:Nat}(h:k<l.length):at' l (k:Int)=l[k]:=by
 unfold at';simp[h]
theorem idx_at{α:Type}[Inhabited α]{l:List α}{z:Int}(h0:0<=z)(h1:z<l.length):idx l z=some (at' l z):=by
 obtain⟨k,rfl⟩:=wfq h0;have hk:k<l.length:=by omega
 rw[ziw hk];exact jee (wd2 hk)
theorem zgu{α:Type}[Inhabited α]{l:List α}{z:Int}(h0:0<=z)(h1:z<l.length):at' l z∈l:=by
 obtain⟨k,rfl⟩:=wfq h0;have hk:k<l.length:=by omega
 rw[ziw hk];exact wec hk
theorem jdb{α:Type}[Inhabited α]{l:List α}{z:Int}{v:α}(h0:0<=z)(h1:z<l.length):at' (l.set z.toNat v) z=v:=by
 unfold at';simp[show z.toNat<l.length by omega]
theorem at_ne{α:Type}[Inhabited α]{l:List α}{z y:Int}{v:α}(h0:0<=z)(hy:0<=y)(h:z≠y):at' (l.set z.toNat v) y=at' l y:=by
 unfold at';simp only[we8];rw[List.getElem?_set_ne (by omega)]
theorem jeo{l:List Bool}{k:Nat}:at' l (k:Int)=true↔onB l k:=by
 unfold at' onB;simp only[wem,we8];cases h:l[k]? with
 |none=>simp
 |some b=>simp
theorem jbf{l:List Bool}{z:Int}(h0:0<=z):at' l z=true↔onB l z.toNat:=by
 obtain⟨k,rfl⟩:=wfq h0;exact jeo
theorem vw{p:Prop}[Decidable p](h:p):decide p=true:=wfb h
theorem vu{p:Prop}[Decidable p](h:¬p):decide p=false:=wf5 h
section
variable{α β γ:Type}{Q:γ → Prop}
theorem Tot.idx[Inhabited α]{l:List α}{z:Int}{f:α->G γ}(h0:0<=z)(h1:z<l.length)(h:Tot (f (at' l z)) Q):Tot (G.bind (G.lift (L.idx l z)) f) Q :=.bind (.lift (idx_at h0 h1) h)
theorem wbk{o:Option α}{a:α}{f:α->G γ}(h:o=some a)(h2:Tot (f a) Q):Tot (G.bind (G.lift o) f) Q :=.bind (.lift h h2)
theorem wdp{b:Nat}{xs ys:List α}{f:List α->G γ}(h1:(xs.length+ys.length)*b<=140737488355328)(h2:xs.length+ys.length<=140737488355328)(h:Tot (f (xs++ys)) Q):Tot (G.bind (G.lift (app b xs ys)) f) Q:=wbk (z13 h1 h2) h
theorem Tot.mk{b:Nat}{z:α}{n:Int}{f:List α->G γ}(h0:0<=n)(h1:b*n.toNat<=281474976710656)(h2:n.toNat<=281474976710656)(h:Tot (f (List.replicate n.toNat z)) Q):Tot (G.bind (G.lift (mkS b z n)) f) Q:=by
 obtain⟨k,rfl⟩:=wfq h0;exact wbk (mkS_of (by simpa using h1) (by simpa using h2)) h
theorem waw{a:α}{f:α->G γ}(h:Tot (f a) Q):Tot (G.bind (G.pure a) f) Q:=h
theorem G.bb{m:G α}{f:α->G β}{g:β->G γ}:G.bind (G.bind m f) g=G.bind m λa=>G.bind (f a) g:=by
 funext n;unfold G.bind;cases m n<;>rfl
theorem wat{m:G α}{f:α->G β}{g:β->G γ}(h:Tot (G.bind m λa=>G.bind (f a) g) Q):Tot (G.bind (G.bind m f) g) Q:=by rw[G.bb];exact h
theorem was{b:Bool}{x y:G α}{f:α->G γ}(h:Tot (G.cond b (G.bind x f) (G.bind y f)) Q):Tot (G.bind (G.cond b x y) f) Q:=by
 cases b<;>exact h
theorem wau{b:Bool}{x y:G γ}(hb:b=true)(h:Tot x Q):Tot (G.cond b x y) Q:=by subst hb;exact h
theorem wav{b:Bool}{x y:G γ}(hb:b=false)(h:Tot y Q):Tot (G.cond b x y) Q:=by subst hb;exact h
theorem wal[Inhabited α]{l:List α}{z:Int}{f:α->G γ}(h:0<=z/\z<l.length)(h2:Tot (f (at' l z)) Q):Tot (G.bind (G.lift (L.idx l z)) f) Q:=Tot.idx h.1 h.2 h2
theorem wan{b:Nat}{xs ys:List α}{f:List α->G γ}(h:(xs.length+ys.length)*b<=140737488355328/\xs.length+ys.length<=140737488355328)(h2:Tot (f (xs++ys)) Q):Tot (G.bind (G.lift (app b xs ys)) f) Q:=wdp h.1 h.2 h2
theorem wam{b:Nat}{z:α}{n:Int}{f:List α->G γ}(h:0<=n/\b*n.toNat<=281474976710656/\n.toNat<=281474976710656)(h2:Tot (f (List.replicate n.toNat z)) Q):Tot (G.bind (G.lift (mkS b z n)) f) Q:=Tot.mk h.1 h.2.1 h.2.2 h2
theorem bl_:((!true)=false)/\((!false)=true)/\(∀b,(true && b)=b)/\(∀b,(b && true)=b)/\(∀b,(false && b)=false)/\(∀b,(b && false)=false)/\(∀b,(true ||b)=true)/\(∀b,(b ||true)=true)/\(∀b,(false ||b)=b)/\(∀b,(b ||false)=b)/\(∀(α:Type)(a:α)(l:List α),(a::l).length=l.length+1)/\(∀(α:Type)(l m:List α),(l++m).length=l.length+m.length)/\(∀(α:Type)(l:List α)(i:Nat)(a:α),(l.set i a).length=l.length)/\(∀(α:Type),([]:List α).length=0)/\(∀(α:Type)(n:Nat)(a:α),(List.replicate n a).length=n)/\(∀(α β:Type)(f:α->β)(l:List α),(l.map f).length=l.length)/\(∀n:Nat,(n:Int).toNat=n):=by
 refine⟨rfl,rfl,?_,?_,?_,?_,?_,?_,?_,?_,?_,?_,?_,?_,?_,?_,?_⟩<;>intros<;>simp
theorem wa7{m:G α}{f:α->G γ}(R:α->Prop)(hm:Tot m R)(h:∀a,R a->Tot (f a) Q):Tot (G.bind m f) Q :=.bind (hm.mono h)
end
theorem z7a{α:Type}{x:α}{l:List α}:z76 (x::l) 1 ((x::l).length:Int)=some l:=by
 unfold z76;rw[if_pos ⟨by omega,by omega,by simp,by simp⟩];simp
theorem jb5{α:Type}{xs ys:List α}(h:xs.length<=10000000):small7 xs ys=some ys:=if_pos h
theorem Vp{α:Type}[Inhabited α]{l:List α}{k:Nat}(h:k<l.length)(x:α):x∈l.take (k+1)↔x∈l.take k\/x=at' l (k:Int):=by
 rw[wel h,ziw h,wej];simp
theorem zeg{l:List Bool}{z:Int}{j:Nat}(h0:0<=z)(h1:z<l.length):onB (l.set z.toNat true) j↔(j:Int)=z\/onB l j:=by
 rw[z4g (by omega)];constructor
 ·rintro(rfl|h)
  ·left;omega
  ·exact .inr h
 ·rintro(h|h)
  ·left;omega
  ·exact .inr h
theorem z50{l:List Bool}{z:Int}(h0:0<=z)(h1:z<l.length)(h:at' l z=false):zfv (l.set z.toNat true)+1=zfv l:=by
 refine zy1 ?_;obtain⟨k,rfl⟩:=wfq h0;have hk:k<l.length:=by omega
 rw[ziw hk]at h;simp[hk,h]
theorem zrh(n:Nat)(beg:List Int)(to:Int->G (List Int))(E:Nat->Nat->Prop)(hn:n<=100000)(hbl:beg.length<=100000)(hb:∀x∈beg,0<=x/\x<n)
  (hto:∀i:Nat,i<n->Tot (to i) (λl=>l.length<=1000000000/\(∀x∈l,0<=x/\x<n)/\∀j:Nat,(j:Int)∈l↔E i j)):Tot (Qc n beg to) (· = zqv n E λi=>(i:Int)∈beg):=by
 unfold Qc
 repeat (first|with_reducible (refine waw ?_)|with_reducible (refine wat ?_)|(refine wau ?_ ?_;focus (first|with_reducible rfl|(simp (disch:=omega) only [vw,vu,bl_];done)))|(refine wav ?_ ?_;focus (first|with_reducible rfl|(simp (disch:=omega) only [vw,vu,bl_];done)))|with_reducible (refine was ?_)|((first|refine wal ?_ ?_|refine wan ?_ ?_|refine wam ?_ ?_);focus (first|omega|(simp;done)|(simp;omega))))
 refine wbk (jb5 (by omega)) ?_;refine wa7 (λr=>r.length=n/\∀i:Nat,onB r i↔(i:Int)∈beg) ?_ ?_
 ·refine wbl (λs=>s.1) beg.length (λk s=>s.1=(k:Int)/\s.2.length=n/\∀i:Nat,onB s.2 i↔(i:Int)∈beg.take k) (λk s h=>h.1) ?_ ?_ ⟨rfl,by simp,λi=>by simp[jfk]⟩
  ·rintro k ⟨_,l⟩ hk ⟨rfl,h1,h2⟩;simp only at h1 h2;have hx:=hb _ (zgu (l:=beg) (z:=(k:Int)) (by omega) (by omega))
   repeat (first|with_reducible (refine waw ?_)|with_reducible (refine wat ?_)|(refine wau ?_ ?_;focus (first|with_reducible rfl|(simp (disch:=omega) only [vw,vu,bl_];done)))|(refine wav ?_ ?_;focus (first|with_reducible rfl|(simp (disch:=omega) only [vw,vu,bl_];done)))|with_reducible (refine was ?_)|((first|refine wal ?_ ?_|refine wan ?_ ?_|refine wam ?_ ?_);focus (first|omega|(simp;done)|(simp;omega))))
   refine Tot.pure ⟨zcu (by omega),by simp[h1],λi=>?_⟩;simp only;rw[zeg hx.1 (by omega),h2,Vp hk];constructor<;>(rintro(h|h)<;>simp[h])
  ·rintro⟨_,l⟩ ⟨rfl,h1,h2⟩;simp only at h1 h2
   repeat (first|with_reducible (refine waw ?_)|with_reducible (refine wat ?_)|(refine wau ?_ ?_;focus (first|with_reducible rfl|(simp (disch:=omega) only [vw,vu,bl_];done)))|(refine wav ?_ ?_;focus (first|with_reducible rfl|(simp (disch:=omega) only [vw,vu,bl_];done)))|with_reducible (refine was ?_)|((first|refine wal ?_ ?_|refine wan ?_ ?_|refine wam ?_ ?_);focus (first|omega|(simp;done)|(simp;omega))))
   refine Tot.pure ⟨h1,λi=>?_⟩;rw[h2,we1]
 ·rintro m ⟨m1,m2⟩;refine wa7 (· = zqv n E λi=>(i:Int)∈beg) ?_ (λa ha=>Tot.pure ha);refine Tot.loop (λs:List Bool×List Int=>s.1.length=n/\(∀x∈s.2,0<=x/\x<n/\onB s.1 x.toNat)/\(∀i,onB s.1 i->Rch E (λi=>(i:Int)∈beg) i)/\(∀i:Nat,(i:Int)∈beg->onB s.1 i)/\(∀i j,onB s.1 i->E i j->onB s.1 j\/(i:Int)∈s.2)/\zfv s.1+s.2.length<=n+beg.length) (λs:List Bool×List Int=>2*zfv s.1+s.2.length) ?_ ⟨m1,?_,λi hi=> .base ((m2 i).1 hi),λi hi=>(m2 i).2 hi,λi j hi _=> .inr ((m2 i).1 hi),?_⟩
  ·rintro⟨l,wait⟩ ⟨h1,h2,h3,h4,h5,h6⟩;simp only at h1 h2 h3 h4 h5 h6;cases wait with
   |nil=>
    repeat (first|with_reducible (refine waw ?_)|with_reducible (refine wat ?_)|(refine wau ?_ ?_;focus (first|with_reducible rfl|(simp (disch:=omega) only [vw,vu,bl_];done)))|(refine wav ?_ ?_;focus (first|with_reducible rfl|(simp (disch:=omega) only [vw,vu,bl_];done)))|with_reducible (refine was ?_)|((first|refine wal ?_ ?_|refine wan ?_ ?_|refine wam ?_ ?_);focus (first|omega|(simp;done)|(simp;omega))))
    refine Tot.pure (je7 h1 h3 h4 λi j hi he=>?_);rcases h5 i j hi he with h|h
    ·exact h
    ·simp at h
   |cons x rest=>
    have hx:=h2 x (by simp);obtain⟨q,rfl⟩:=wfq hx.1;simp only[we2]at h6
    repeat (first|with_reducible (refine waw ?_)|with_reducible (refine wat ?_)|(refine wau ?_ ?_;focus (first|with_reducible rfl|(simp (disch:=omega) only [vw,vu,bl_];done)))|(refine wav ?_ ?_;focus (first|with_reducible rfl|(simp (disch:=omega) only [vw,vu,bl_];done)))|with_reducible (refine was ?_)|((first|refine wal ?_ ?_|refine wan ?_ ?_|refine wam ?_ ?_);focus (first|omega|(simp;done)|(simp;omega))))
    refine wbk z7a ?_;refine Tot.bind ((hto q (by omega)).mono λnx hnx=>?_);obtain⟨n0,n1,n2⟩:=hnx;refine wa7 (λ(r:List Bool×List Int)=>r.1.length=n/\LeB l r.1/\(∀y∈r.2,0<=y/\y<n/\onB r.1 y.toNat)/\(∀i,onB r.1 i->Rch E (λi=>(i:Int)∈beg) i)/\(∀y∈nx,onB r.1 y.toNat)/\(∀i,onB r.1 i->onB l i\/(i:Int)∈r.2)/\(∀y∈rest,y∈r.2)/\zfv r.1+r.2.length=zfv l+rest.length/\zfv r.1<=zfv l) ?_ ?_
    ·refine wbl (λs=>s.1) nx.length (λk(s:Int×List Bool×List Int)=>s.1=(k:Int)/\s.2.1.length=n/\LeB l s.2.1/\(∀y∈s.2.2,0<=y/\y<n/\onB s.2.1 y.toNat)/\(∀i,onB s.2.1 i->Rch E (λi=>(i:Int)∈beg) i)/\(∀y∈nx.take k,onB s.2.1 y.toNat)/\(∀i,onB s.2.1 i->onB l i\/(i:Int)∈s.2.2)/\(∀y∈rest,y∈s.2.2)/\zfv s.2.1+s.2.2.length=zfv l+rest.length/\zfv s.2.1<=zfv l) (λk s h=>h.1) ?_ ?_ ⟨rfl,h1,LeB.refl _,λy hy=>h2 y (by simp[hy]),h3,by simp,λi hi=> .inl hi,λy hy=>hy,rfl,weh _⟩
     ·rintro k ⟨_,a,w⟩ hk ⟨rfl,k1,k2,k3,k4,k5,k6,k7,k8,k9⟩;simp only at k1 k2 k3 k4 k5 k6 k7 k8 k9;have hmem:=zgu (l:=nx) (z:=(k:Int)) (by omega) (by omega);have hy:=n1 _ hmem;have ho:=z4h l
      repeat (first|with_reducible (refine waw ?_)|with_reducible (refine wat ?_)|(refine wau ?_ ?_;focus (first|with_reducible rfl|(simp (disch:=omega) only [vw,vu,bl_];done)))|(refine wav ?_ ?_;focus (first|with_reducible rfl|(simp (disch:=omega) only [vw,vu,bl_];done)))|with_reducible (refine was ?_)|((first|refine wal ?_ ?_|refine wan ?_ ?_|refine wam ?_ ?_);focus (first|omega|(simp;done)|(simp;omega))))
      refine Tot.cond (λhb=>?_) λhb=>?_
      ·simp only[wg5]at hb
       repeat (first|with_reducible (refine waw ?_)|with_reducible (refine wat ?_)|(refine wau ?_ ?_;focus (first|with_reducible rfl|(simp (disch:=omega) only [vw,vu,bl_];done)))|(refine wav ?_ ?_;focus (first|with_reducible rfl|(simp (disch:=omega) only [vw,vu,bl_];done)))|with_reducible (refine was ?_)|((first|refine wal ?_ ?_|refine wan ?_ ?_|refine wam ?_ ?_);focus (first|omega|(simp;done)|(simp;omega))))
       have hof:=z50 hy.1 (by omega) hb;obtain⟨j,hj⟩:=wfq hy.1;refine Tot.pure ⟨zcu (by omega),by simp[k1],k2.trans (LeB.set (by omega)),?_,?_,?_,?_,?_,?_,?_⟩
       all_goals simp only
       ·intro y hy2;rcases wej.1 hy2 with h|h
        ·have:=k3 y h;exact⟨this.1,this.2.1,(zeg hy.1 (by omega)).2 (.inr this.2.2)⟩
        ·simp at h;subst h;exact⟨hy.1,hy.2,(zeg hy.1 (by omega)).2 (.inl (by omega))⟩
       ·intro i hi;rcases(zeg hy.1 (by omega)).1 hi with h|h
        ·exact .step (h3 q (by simpa using hx.2.2)) ((n2 i).1 (h▸hmem))
        ·exact k4 i h
       ·intro y hy2;refine(zeg hy.1 (by omega)).2 ?_;rcases(Vp hk y).1 hy2 with h|h
        ·exact .inr (k5 y h)
        ·left;subst h;omega
       ·intro i hi;rcases(zeg hy.1 (by omega)).1 hi with h|h
        ·right;simp[h]
        ·rcases k6 i h with h|h
         ·exact .inl h
         ·right;simp[h]
       ·intro y hy2;simp[k7 y hy2]
       ·simp;omega
       ·omega
      ·simp only[Bool.not_eq_false']at hb;refine Tot.pure ⟨zcu (by omega),k1,k2,k3,k4,?_,k6,k7,k8,k9⟩;intro y hy2;rcases(Vp hk y).1 hy2 with h|h
       ·exact k5 y h
       ·subst h;exact(jbf hy.1).1 hb
     ·rintro⟨_,a,w⟩ ⟨rfl,k1,k2,k3,k4,k5,k6,k7,k8,k9⟩
      repeat (first|with_reducible (refine waw ?_)|with_reducible (refine wat ?_)|(refine wau ?_ ?_;focus (first|with_reducible rfl|(simp (disch:=omega) only [vw,vu,bl_];done)))|(refine wav ?_ ?_;focus (first|with_reducible rfl|(simp (disch:=omega) only [vw,vu,bl_];done)))|with_reducible (refine was ?_)|((first|refine wal ?_ ?_|refine wan ?_ ?_|refine wam ?_ ?_);focus (first|omega|(simp;done)|(simp;omega))))
      rw[we1]at k5;exact Tot.pure ⟨k1,k2,k3,k4,k5,k6,k7,k8,k9⟩
    ·rintro⟨a,w⟩ ⟨k1,k2,k3,k4,k5,k6,k7,k8,k9⟩;simp only at k1 k2 k3 k4 k5 k6 k7 k8 k9;refine Tot.pure ⟨⟨k1,k3,k4,λi hi=>k2.2 i (h4 i hi),?_,?_⟩,?_⟩
     ·intro i j hi he;simp only at hi⊢;rcases k6 i hi with h|h
      ·rcases h5 i j h he with h|h
       ·exact .inl (k2.2 j h)
       ·rcases wep.1 h with h|h
        ·left;have:i=q:=by omega
         subst this;have:=k5 _ ((n2 j).2 he);simpa using this
        ·exact .inr (k7 _ h)
      ·exact .inr h
     ·simp only;omega
     ·simp only[we2];omega
  ·intro x hx;have:=hb x hx;obtain⟨q,rfl⟩:=wfq this.1;exact⟨this.1,this.2,by simpa using(m2 q).2 hx⟩
  ·have:=z4h m;simp only;omega
end Go.Proofs.YtdllbdlnmjngcaaGreat
namespace Go.Proofs.YtdllbdlnmjngcaaGreat.T
set_option maxRecDepth 100000
set_option maxHeartbeats 8000000
set_option linter.unusedVariables false
set_option linter.unusedSimpArgs false
open Go Go.RowKit L
theorem setA4(a:Arr 4 Int){k:Nat}(h:k<4)(x:Int):∃b,zsu a (k:Int) x=some b:=by
 have hl:=a.2;unfold zsu;simp[hl,h]
theorem at4(a:Arr 4 Int){k:Nat}(h:k<4):∃x,atL a.l (k:Int)=some x:=⟨_,atN (by have:=a.2;omega)⟩
theorem z0f(l:List (Arr 4 Int))(hl:l.length<=1000000):Tn (λnn=>z7 nn l) (λ_=>True):=by
 unfold z7;refine Tt.loop (λm s=>∃(k:Nat)(a b:Arr 4 Int),k<=l.length/\m=l.length-k/\s=(l,(l.length:Int),(k:Int),a,b)) l.length waa ⟨0,_,_,by omega,by omega,rfl⟩ λm s⟨k,a,b,hk,hm,hs⟩ nx hnx=>?_;subst hs;dsimp only;refine wab (λc=>?_) (λc=>Tt.pure trivial);have c:=wd3 c;have hlt:k<l.length:=by omega
 refine wac _ (atN hlt) ?_;refine Tt.loop (λm s=>∃(i:Nat)(a b:Arr 4 Int),i<=4/\m=4-i/\s=(l,(l.length:Int),(k:Int),(i:Int),a,b,l[k])) 4 waa.fst ⟨0,_,_,by omega,by omega,rfl⟩ λm2 s⟨i,a,b,hi,hm2,hs⟩ ny hny=>?_;subst hs;dsimp only;refine wab (λc=>?_) (λc=>wad ?_)
 ·have c:=wd3 c;have hi4:i<4:=by omega
  obtain⟨x,hx⟩:=at4 b hi4;obtain⟨y,hy⟩:=at4 l[k] hi4;obtain⟨z,hz⟩:=setA4 b hi4 (orI .u64 x y);refine wac _ (ye hi4) (wac _ hx (wac _ (ye hi4) (wac _ hy (wac _ (ye hi4) (wac _ hz (wad ?_))))));rw[wI (by omega) (by omega)];exact hny (4-(i+1)) _ (by omega) ⟨i+1,a,z,by omega,rfl,by simp⟩
 ·rw[wI (by omega) (by omega)];exact Tt.fst (hnx (l.length-(k+1)) _ (by omega) ⟨k+1,a,b,by omega,rfl,by simp⟩)
theorem zjj(a b:Arr 4 Int):Tn (λnn=>z7 nn [a,b]) (λ_=>True):=z0f _ (by simp)
theorem jc8(a b:jg):Tn (λnn=>Vh nn a b) (λ_=>True):=by
 unfold Vh;refine Tt.J (λ_=>True) (λnx hnx=>?_) (λs _=>?_)
 ·exact wad (wab (λ_=>hnx _ trivial) λ_=>hnx _ trivial)
 ·refine wab (λ_=>Tt.pure trivial) λ_=>?_;refine Tt.J (λ_=>True) (λnx hnx=>?_) (λs _=>?_)
  ·exact wab (λ_=>Tt.bind (Tt.call (zjj _ _) waa) λ_ _=>hnx _ trivial) λ_=>Tt.bind (Tt.call (zjj _ _) waa) λ_ _=>hnx _ trivial
  ·refine Tt.J (λ_=>True) (λnx hnx=>?_) (λs _=>Tt.pure trivial);exact wab (λ_=>Tt.bind (Tt.call (zjj _ _) waa) λ_ _=>hnx _ trivial) λ_=>hnx _ trivial
theorem zyd(a b:jg):Tn (λnn=>Jd nn a b) (λ_=>True):=by
 unfold Jd;refine wab (λ_=>Tt.pure trivial) λ_=>wab (λ_=>Tt.pure trivial) λ_=>?_;refine Tt.J (λ_=>True) (λnx hnx=>?_) (λs _=>Tt.pure trivial);exact wab (λ_=>Tt.bind (Tt.call (zjj _ _) waa) λ_ _=>Tt.bind (Tt.call (zjj _ _) waa) λ_ _=>hnx _ trivial) λ_=>Tt.bind (Tt.call (zjj _ _) waa) λ_ _=>Tt.bind (Tt.call (zjj _ _) waa) λ_ _=>hnx _ trivial
theorem z7z(x:ji)(l:List jg)(n:Nat)(hn:arK x.1=some n)(hl:n<=l.length):Tn (λnn=>Jb nn x l) (λ_=>True):=by
 have h1:0<n->∃a,atL l 0=some a:=λh=>⟨_,atN (k:=0) (by omega)⟩
 have h2:1<n->∃a,atL l 1=some a:=λh=>⟨_,atN (k:=1) (by omega)⟩
 unfold Jb;refine wab (λ_=>wab (λ_=>Tt.pure trivial) λ_=>Tt.pure trivial) λc1=>?_;have c1:=wd4 c1;refine wab (λc=>?_) λc3=>wab (λc=>?_) λc4=>wab (λc=>?_) λc7=>?_
 ·have c:=wd3 c;rw[c]at hn;cases hn;obtain⟨a,ha⟩:=h1 (by omega);obtain⟨b,hb⟩:=h2 (by omega);exact wac _ ha (wac _ hb (Tt.bind (Tt.call (jc8 _ _) waa) λ_ _=>Tt.pure trivial))
 ·have c:=wd3 c;rw[c]at hn;cases hn;obtain⟨a,ha⟩:=h1 (by omega);obtain⟨b,hb⟩:=h2 (by omega);exact wac _ ha (wac _ hb (Tt.bind (Tt.call (zyd _ _) waa) λ_ _=>Tt.pure trivial))
 ·have c:=wd3 c;rw[c]at hn;cases hn;obtain⟨a,ha⟩:=h1 (by omega);exact wac _ ha (Tt.bind (Tt.call (zyd _ _) waa) λ_ _=>Tt.pure trivial)
 ·refine Tt.J (λs=>s.1=l/\(s.2.1=true->0<n)) (λnx hnx=>?_) (λs⟨e1,e2⟩=>?_)
  ·refine wad (wab (λc=>hnx _ ⟨rfl,λ_=>?_⟩) λc=>wad (hnx _ ⟨rfl,λh=>?_⟩))
   ·have c:=wd3 c;rw[c]at hn;cases hn;omega
   ·have c:=wd3 h;rw[c]at hn;cases hn;omega
  ·refine wab (λc=>?_) λ_=>Tt.pure trivial;obtain⟨a,ha⟩:=h1 (e2 c);rw[e1];refine wac _ ha ?_;refine Tt.J (λ_=>True) (λnx hnx=>wab (λ_=>hnx _ trivial) λ_=>hnx _ trivial) (λs _=>?_);refine Tt.J (λ_=>True) (λnx hnx=>?_) (λs _=>Tt.pure trivial);exact wab (λ_=>Tt.bind (Tt.call (zyd _ _) waa) λ_ _=>hnx _ trivial) λ_=>hnx _ trivial
theorem zmx{l:List ji}{d e:Nat}{k:Nat}(h:zdh l d=some e)(hk:k<l.length){j:Nat}(hj:zdh (l.take k) d=some j):∃n,arK (l[k]).1=some n/\n<=j/\zdh (l.take (k+1)) d=some (j-n+1):=by
 have hs:l=l.take (k+1)++l.drop (k+1):=(wfh _ _).symm;have htk:zdh (l.take (k+1)) d=match arK (l[k]).1 with|none=>none|some n=>if n<=j then some (j-n+1)else none:=by
  rw[wel hk,zc3,hj];simp only[wfp,zdh];rfl
 rw[hs,zc3]at h;cases har:arK (l[k]).1 with
 |none=>rw[har]at htk;rw[htk]at h;cases h
 |some n=>
  rw[har]at htk;dsimp only at htk;by_cases hn:n<=j
  ·rw[if_pos hn]at htk;exact⟨n,rfl,hn,htk⟩
  ·rw[if_neg hn]at htk;rw[htk]at h;cases h
theorem z1z(l:List ji)(hl:l.length<=1000000):Tn (λnn=>Qa nn l) (λ_=>True):=by
 unfold Qa;refine Tt.J (λ_=>True) (λnw hnw=>?_) (λs _=>Tt.pure trivial);refine Tt.bind (Tt.call (zvj l hl) waa) λe he=>?_;refine wab (λ_=>hnw _ trivial) λc=>?_;have c:=wd4 c;obtain⟨hd1,h512⟩:=he (by omega);refine Tt.loop (λm s=>∃(k:Nat)(f:jg)(st:List jg),k<=l.length/\m=l.length-k/\s=(l,(l.length:Int),(k:Int),f,st)/\zdh (l.take k) 0=some st.length/\st.length<=k) l.length waa ⟨0,_,[],by omega,by omega,rfl,rfl,by simp⟩ λm s⟨k,f,st,hk,hm,hs,hd,hst⟩ nx hnx=>?_;subst hs;dsimp only;refine wab (λc=>?_) (λc=>?_)
 ·have c:=wd3 c;have hlt:k<l.length:=by omega
  obtain⟨n,hn,hnj,hd2⟩:=zmx hd1 hlt hd;refine wac _ (atN hlt) ?_;refine Tt.J (λs=>s=((n:Int),l,(l.length:Int),(k:Int),f,st,l[k])) (λny hny=>?_) (λs hs=>?_)
  ·refine Tt.J (λs=>∃b,s=(0,l,(l.length:Int),(k:Int),(l[k]).1,b,f,st,l[k])/\(b=true↔((l[k]).1=3\/(l[k]).1=4))) (λnz hnz=>?_) (λs⟨b,hs,hb⟩=>?_)
   ·refine wad (wab (λc=>hnz _ ⟨_,rfl,?_⟩) (λc=>wad (hnz _ ⟨_,rfl,?_⟩)))
    ·have:=wd3 c;simp[this]
    ·have:=wd4 c;simp[this]
   ·subst hs;dsimp only;refine wab (λc=>hny _ ?_) (λc=>?_)
    ·have:=hb.1 c;rw[arK,if_pos this]at hn;cases hn;rfl
    ·have h34:¬((l[k]).1=3\/(l[k]).1=4):=λh=>by rw[hb.2 h]at c;cases c
     refine Tt.J (λs=>∃b,s=(0,l,(l.length:Int),(k:Int),b,f,st,l[k])/\(b=true↔((l[k]).1=5\/(l[k]).1=6\/(l[k]).1=7))) (λnu hnu=>?_) (λs⟨b,hs,hb⟩=>?_)
     ·refine wad (wab (λc=>hnu _ ⟨_,rfl,?_⟩) (λc=>wad (wab (λc2=>hnu _ ⟨_,rfl,?_⟩) (λc2=>wad (hnu _ ⟨_,rfl,?_⟩)))))
      ·have:=wd3 c;simp[this]
      ·have:=wd3 c2;simp[this]
      ·have h1:=wd4 c;have h2:=wd4 c2;simp[h1,h2]
     ·subst hs;dsimp only;rw[arK,if_neg h34]at hn;refine wab (λc=>hny _ ?_) (λc=>hny _ ?_)
      ·rw[if_pos (hb.1 c)]at hn;cases hn;rfl
      ·rw[if_neg (λh=>by rw[hb.2 h]at c;cases c)]at hn;split at hn<;>cases hn;rfl
  ·subst hs;dsimp only;refine wad ?_;rw[wI (by omega) (by omega)];have ez:(st.length:Int)-(n:Int)=((st.length-n:Nat):Int):=by omega
   rw[ez];refine wac (st.length-n) (by unfold jb3;simp) ?_;have hdl:(st.drop (st.length-n)).length=n:=by rw[wfc];omega
   refine wac _ (Jw (by simp;omega) (by omega)) ?_;rw[wfx];refine Tt.bind (Tt.call (z7z _ _ n hn (by omega)) waa.fst) λr _=>?_;refine wac (st.take (st.length-n)) (by unfold Zi;simp) (wac _ (Jw (by simp;omega) (by omega)) (wad ?_));rw[wI (by omega) (by omega)];have el:(st.take (st.length-n)++[r]).length=st.length-n+1:=by rw[weo,wfg];simp
   exact hnx (l.length-(k+1)) _ (by omega) ⟨k+1,f,_,by omega,rfl,rfl,by rw[el];exact hd2,by rw[el];omega⟩
 ·have c:=wd4 c;have hke:k=l.length:=by omega
  rw[hke,we1,hd1]at hd;have h1:0<st.length:=by have:=wfy hd;omega
  exact wac _ (ye h1) (wac _ (atN h1) (hnw.fst _ trivial))
theorem zyh(l:List ji)(hl:l.length<=1000000):Tn (λnn=>vd nn l) (λ_=>True):=by
 unfold vd;refine Tt.bind (R:=λ_=>True) ?_ λ_ _=>Tt.pure trivial;unfold Qh;exact Tt.bind (Tt.call (z1z l hl) waa) λr _=>wab (λ_=>Tt.pure trivial) λ_=>Tt.pure trivial
theorem sm7{α:Type}{a b:List α}(h:a.length<=1000000):Go.Proofs.YtdllbdlnmjngcaaGreat.small7 a b=some b:=by
 unfold Go.Proofs.YtdllbdlnmjngcaaGreat.small7;rw[if_pos (by omega)]
theorem zjh{n:Nat}{a b:List Int}(hn:n<=1000)(ha:RN n a)(hb:RN n b):Tn (λnn=>yj nn a b) (λr=>RN n r):=by
 have h1:=ha.len;have h2:=hb.len;unfold yj;refine wac _ (sm7 (by omega)) (wac _ (Jw (by omega) (by omega)) ?_);have hl:(Zd (a++b)).length=(a++b).length:=zka _;simp only[weo]at hl;refine wac _ (sm7 (by simp;omega)) (wac _ (sm7 (by omega)) (Tt.pure ?_));obtain⟨r1,r2⟩:=ztg (Zd (a++b)) (zxv _);refine⟨r1,λx hx=>?_⟩;rw[r2,z5x,wej]at hx;rcases hx with h|h
 ·exact ha.b x h
 ·exact hb.b x h
section
variable{α:Type}{s:List α}{b:α}
theorem popZ(h:s.length<=1000000):T.w64 (((s++[b]).length:Int)-1)=(s.length:Int):=by
 rw[weo,wez,wI (by omega) (by omega)];omega
theorem z86(h:s.length<=1000000):qu (s++[b]).length (T.w64 (((s++[b]).length:Int)-1))=some (s.length:Int):=by
 rw[popZ h];exact ye (by simp)
theorem z8q:atL (s++[b]) (s.length:Int)=some b:=Yr (by omega) (by simp)
theorem truncN{k:Nat}(h:k<=s.length):Zi s (k:Int)=some (s.take k):=by unfold Zi;simp[h]
theorem jbi(h:s.length<=1000000):Zi (s++[b]) (T.w64 (((s++[b]).length:Int)-1))=some s:=by
 rw[popZ h,truncN (by simp)];simp
theorem zqs{l:List α}(h:0<l.length):∃s b,l=s++[b]:=by
 rcases List.eq_nil_or_concat l with rfl|⟨s,b,rfl⟩
 ·simp at h
 ·exact⟨s,b,by simp⟩
end
structure PtOk(n:Nat)(p:jq):Prop where
 f:RN n p.1.1
 l:RN n p.1.2.1
 s:0<=p.2.1
theorem PtOk.up{n m:Nat}{p:jq}(h:PtOk n p)(hm:n<=m):PtOk m p:=⟨h.f.up hm,h.l.up hm,h.s⟩
def spS:List jq->Int
 |[]=>0
 |p::l=>p.2.1+spS l
theorem zkz:∀(a b:List jq),spS (a++b)=spS a+spS b
 |[],b=>by simp[spS]
 |p::a,b=>by simp[spS,zkz a b];omega
theorem zo9:∀{l:List jq}{n:Nat},(∀p∈l,PtOk n p)->0<=spS l
 |[],_,_=>by simp[spS]
 |p::l,n,h=>by
  have:=(h p (by simp)).s;have:=zo9 (l:=l) (n:=n) λq hq=>h q (by simp[hq]);simp[spS];omega
structure AllOk(n:Nat)(sets:List (Arr 4 Int))(fol:List (List Int))(st:List jq):Prop where
 se:sets.length=n
 fo:fol.length=n
 fr:∀l∈fol,RN n l
 pt:∀p∈st,PtOk n p
 su:spS st<=n
theorem zsq{ι:Type}{D:Fi ι}{φ:ι->Nat}(hφ:Big D φ){n:Nat}(hn:n<=512){β:Type}{Q:β->Prop}{fs ls:List Int}(hf:RN n fs)(hl:RN n ls)(c3:Bool)(c4:Int)(sets:List (Arr 4 Int))(c5 c6:List Int){fol:List (List Int)}(h1:fol.length=n)(h2:∀l∈fol,RN n l)
  {K:ι->(List Int)×(List Int)×Int×Int×Bool×Int×(List (Arr 4 Int))×(List (List Int))×(List Int)×(List Int)->Option β}
  (hK:∀fol':List (List Int),fol'.length=n->(∀l∈fol',RN n l)->Tt D (λi=>K i (fs,ls,(ls.length:Int),(ls.length:Int),c3,c4,sets,fol',c5,c6)) Q) :
  Tt D (λi=>jm (λ(x18:(List Int)×(List Int)×Int×Int×Bool×Int×(List (Arr 4 Int))×(List (List Int))×(List Int)×(List Int))x19=>ifB (decide (x18.2.2.2.1<x18.2.2.1)) (jb (atL x18.2.1 x18.2.2.2.1) λx20=>jb (qu x18.2.2.2.2.2.2.2.1.length x20) λx21=>jb (atL x18.2.2.2.2.2.2.2.1 x21) λx22=>jb (yj (φ i) x22 x18.1) λx23=>jb (qu x18.2.2.2.2.2.2.2.1.length x20) λx24=>jb (Yc x18.2.2.2.2.2.2.2.1 x24 x23) λx25=>jb (some (T.w64 (x18.2.2.2.1+1))) λx26=>x19 (x18.1,x18.2.1,x18.2.2.1,x26,x18.2.2.2.2.1,x18.2.2.2.2.2.1,x18.2.2.2.2.2.2.1,x25,x18.2.2.2.2.2.2.2.2.1,x18.2.2.2.2.2.2.2.2.2)) (K i x18)) (φ i) (fs,ls,(ls.length:Int),0,c3,c4,sets,fol,c5,c6)) Q:=by
 have hll:=hl.len;refine Tt.loop (λm s=>∃(k:Nat)(fol':List (List Int)),k<=ls.length/\m=ls.length-k/\s=(fs,ls,(ls.length:Int),(k:Int),c3,c4,sets,fol',c5,c6)/\fol'.length=n/\∀l∈fol',RN n l) ls.length hφ ⟨0,fol,by omega,by omega,rfl,h1,h2⟩ λm s⟨k,fol',hk,hm,hs,h3,h4⟩ nx hnx=>?_;subst hs;dsimp only;refine wab (λc=>?_) (λc=>?_)
 ·have c:=wd3 c;have hlt:k<ls.length:=by omega
  have hb:=hl.b _ (wec hlt);obtain⟨z,hz⟩:∃z:Nat,ls[k]=(z:Int):=⟨(ls[k]).toNat,by omega⟩
  have hz':z<fol'.length:=by omega
  refine wac _ (atN hlt) ?_;rw[hz];refine wac _ (ye hz') (wac _ (atN hz') ?_);refine Tt.bind (Tt.call (zjh (by omega) (h4 _ (wec hz')) hf) hφ.fst) λu hu=>?_;refine wac _ (ye hz') (wac _ (zbz u hz') (wad ?_));rw[wI (by omega) (by omega)];exact hnx (ls.length-(k+1)) _ (by omega) ⟨k+1,fol'.set z u,by omega,rfl,by simp,by simp[h3],λx hx=>(wf4 hx).elim (h4 x) λe=>e▸hu⟩
 ·have c:=wd4 c;have hke:k=ls.length:=by omega
  subst hke;exact(hK fol' h3 h4).fst
theorem AllOk.push{n:Nat}{sets:List (Arr 4 Int)}{fol:List (List Int)}{st:List jq}{p:jq}(h:AllOk n sets fol st)(hp:PtOk n p)(hs:p.2.1+spS st<=n):AllOk n sets fol (st++[p]):=
 ⟨h.se,h.fo,h.fr,λq hq=>by rcases wej.1 hq with e|e;exact h.pt q e;rw[wea.1 e];exact hp,by rw[zkz];simp[spS];omega⟩
abbrev OvS:=(List ji)×Int×Int×Bool×Int×jq×(List (Arr 4 Int))×(List (List Int))×(List Int)×(List Int)×(List jq)
structure OvR(l:List ji)(k:Nat)(s:OvS)(n:Nat)(b:Bool)(z:Int)(p:jq)(sets:List (Arr 4 Int))(fol:List (List Int))(f1 l1:List Int)(st:List jq):Prop where
 h1:s=(l,(l.length:Int),(k:Int),b,z,p,sets,fol,f1,l1,st)
 h2:AllOk n sets fol st
 h3:PtOk n p
 h4:p.2.1+spS st<=n
 h5:n<=k+1
 h6:zdh (l.take (k+1)) 0=some (st.length+1)
 h7:st.length<=k
theorem zkv(l:List ji)(hl:l.length<=1000000):Tn (λnn=>Qq nn l) (λr=>r=none\/∃n sets fol p,r=some (sets,fol,p,())/\n<=l.length/\l.length<=512/\AllOk n sets fol []/\PtOk n p/\p.2.1<=n):=by
 unfold Qq;refine Tt.bind (Tt.call (zvj l hl) waa) λe he=>?_;refine wab (λ_=>Tt.pure (Or.inl rfl)) λc=>?_;have c:=wd4 c;obtain⟨hd1,h512⟩:=he (by omega);refine Tt.loop (λm s=>∃(k n:Nat)(b:Bool)(z:Int)(sets:List (Arr 4 Int))(fol:List (List Int))(f1 l1:List Int)(st:List jq),k<=l.length/\m=l.length-k/\s=(l,(l.length:Int),(k:Int),b,z,sets,fol,f1,l1,st)/\AllOk n sets fol st/\n<=k/\zdh (l.take k) 0=some st.length/\st.length<=k) l.length waa ⟨0,0,_,_,_,_,_,_,_,by omega,by omega,rfl,⟨rfl,rfl,by simp,by simp,by simp[spS]⟩,by omega,rfl,by simp⟩ λm s⟨k,n,b,z,sets,fol,f1,l1,st,hk,hm,hs,ha,hn,hd,hst⟩ nx hnx=>?_;subst hs;dsimp only;refine wab (λc=>?_) (λc=>?_)
 ·have c:=wd3 c;have hlt:k<l.length:=by omega
  obtain⟨a,har,haj,hd2⟩:=zmx hd1 hlt hd;refine wac _ (atN hlt) ?_;generalize l[k]=x at har hd2⊢;refine Tt.J (λs=>∃n b z p sets fol f1 l1 st,OvR l k s n b z p sets fol f1 l1 st) (λny hny=>?_) (λs⟨n,b,z,p,sets,fol,f1,l1,st,h⟩=>?_)
  rotate_left
  ·obtain⟨he,h1,h2,h3,h4,h5,h6⟩:=h;subst he;dsimp only;refine wac _ (Jw (by simp;omega) (by omega)) (wad ?_);rw[wI (by omega) (by omega)];exact hnx (l.length-(k+1)) _ (by omega) ⟨k+1,n,b,z,sets,fol,f1,l1,_,by omega,rfl,rfl,h1.push h2 h3,by omega,by simpa using h5,by simp;omega⟩
  ·have hin:∀{s:OvS}{n:Nat}{b z p sets fol f1 l1 st},OvR l k s n b z p sets fol f1 l1 st->Tt _ (λi=>ny i s) _:=λh=>hny _ ⟨_,_,_,_,_,_,_,_,_,h⟩;refine wab (λc=>?_) (λc1=>?_)
   ·have c:=wd3 c;have ea:a=0:=by rw[c]at har;cases har;rfl
    subst ea;refine wad (wac _ (Jw (by have:=ha.se;simp;omega) (by omega)) (wac _ (Jw (by have:=ha.fo;simp;omega) (by omega)) ?_));refine hin (n:=n+1) ⟨rfl,⟨by simp[ha.se],by simp[ha.fo],λq hq=>?_,λq hq=>(ha.pt q hq).up (by omega),by have:=ha.su;omega⟩,⟨?_,?_,by simp⟩,by have:=ha.su;simp;omega,by omega,hd2,by omega⟩
    ·rcases wej.1 hq with h|h
     ·exact(ha.fr q h).up (by omega)
     ·rw[wea.1 h];exact RN.nil _
    ·rw[ha.se];exact RN.one (by omega) (by omega)
    ·rw[ha.se];exact RN.one (by omega) (by omega)
   have c1:=wd4 c1;refine wab (λc=>?_) (λc2=>?_)
   ·have c:=wd3 c;have ea:a=0:=by rw[c]at har;cases har;rfl
    subst ea;exact hin (n:=n) ⟨rfl,ha,⟨RN.nil _,RN.nil _,by simp⟩,by have:=ha.su;simp;omega,by omega,hd2,by omega⟩
   have c2:=wd4 c2;refine wab (λc=>?_) (λc3=>?_)
   ·have c:=wd3 c;have ea:a=2:=by rw[c]at har;cases har;rfl
    subst ea;obtain⟨s1,pb,rfl⟩:=zqs (l:=st) (by omega);rw[weo,wez]at haj hst hd2;obtain⟨s2,pa,rfl⟩:=zqs (l:=s1) (by omega);rw[weo,wez]at haj hst hd2;have hA:=ha.pt pa (by simp);have hB:=ha.pt pb (by simp);have h0:=zo9 (l:=s2) (n:=n) λq hq=>ha.pt q (by simp[hq]);have hsu:=ha.su;simp only[zkz,spS]at hsu;have hA0:=hA.s;have hB0:=hB.s;have hlen:(s2++[pa]).length<=1000000:=by simp;omega
    refine wac _ (z86 hlen) (wac _ z8q (wac _ (jbi hlen) ?_));refine wac _ (z86 (by omega)) (wac _ z8q (wac _ (jbi (by omega)) ?_));refine zsq waa.fst (n:=n) (by omega) hB.f hA.l _ _ _ _ _ ha.fo ha.fr λfol' e1 e2=>?_;have ha2:AllOk n sets fol' s2:=⟨ha.se,e1,e2,λq hq=>ha.pt q (by simp[hq]),by omega⟩
    have key:∀{c:jq},PtOk n c->c.2.1=pa.2.1+pb.2.1->Tt _ (λi=>ny i (l,(l.length:Int),(k:Int),b,z,c,sets,fol',f1,l1,s2)) _:=λhc es=>hin ⟨rfl,ha2,hc,by omega,by omega,by rw[hd2];simp<;>omega,by omega⟩;have ew:T.w64 (pa.2.1+pb.2.1)=pa.2.1+pb.2.1:=wI (by omega) (by omega);refine Tt.J (λs=>∃c,s=(b,z,sets,fol',f1,l1,pa,pb,false,0,c,[],[])/\PtOk n c/\c.2.1=pa.2.1+pb.2.1) (λnz hnz=>?_) (λs⟨c,hs,hc,es⟩=>?_)
    ·dsimp only;rw[ew];exact wab (λ_=>hnz _ ⟨_,rfl,⟨hA.f,hB.l,by simp only;omega⟩,rfl⟩) λ_=>hnz _ ⟨_,rfl,⟨hA.f,hB.l,by simp only;omega⟩,rfl⟩
    ·subst hs;refine Tt.J (λs=>∃c,s=(b,z,sets,fol',f1,l1,pa,pb,false,0,c,[],[])/\PtOk n c/\c.2.1=pa.2.1+pb.2.1) (λnz hnz=>?_) (λs⟨c,hs,hc,es⟩=>?_)
     ·dsimp only;refine wab (λ_=>?_) λ_=>hnz _ ⟨_,rfl,hc,es⟩;exact Tt.bind (Tt.call (zjh (by omega) hA.f hB.f) waa.fst) λu hu=>hnz _ ⟨_,rfl,⟨hu,hc.l,hc.s⟩,es⟩
     ·subst hs;refine Tt.J (λs=>∃c,s=(b,z,sets,fol',f1,l1,false,0,c,[],[])/\PtOk n c/\c.2.1=pa.2.1+pb.2.1) (λnz hnz=>?_) (λs⟨c,hs,hc,es⟩=>?_)
      ·dsimp only;refine wab (λ_=>?_) λ_=>hnz _ ⟨_,rfl,hc,es⟩;exact Tt.bind (Tt.call (zjh (by omega) hA.l hB.l) waa.fst) λu hu=>hnz _ ⟨_,rfl,⟨hc.f,hu,hc.s⟩,es⟩
      ·subst hs;exact key hc es
   have c3:=wd4 c3;refine wab (λc=>?_) (λc4=>?_)
   ·have c:=wd3 c;have ea:a=2:=by rw[c]at har;cases har;rfl
    subst ea;obtain⟨s1,pb,rfl⟩:=zqs (l:=st) (by omega);rw[weo,wez]at haj hst hd2;obtain⟨s2,pa,rfl⟩:=zqs (l:=s1) (by omega);rw[weo,wez]at haj hst hd2;have hA:=ha.pt pa (by simp);have hB:=ha.pt pb (by simp);have h0:=zo9 (l:=s2) (n:=n) λq hq=>ha.pt q (by simp[hq]);have hsu:=ha.su;simp only[zkz,spS]at hsu;have hA0:=hA.s;have hB0:=hB.s;have hlen:(s2++[pa]).length<=1000000:=by simp;omega
    refine wac _ (z86 hlen) (wac _ z8q (wac _ (jbi hlen) ?_));refine wac _ (z86 (by omega)) (wac _ z8q (wac _ (jbi (by omega)) ?_));have ha2:AllOk n sets fol s2:=⟨ha.se,ha.fo,ha.fr,λq hq=>ha.pt q (by simp[hq]),by omega⟩
    have ew:T.w64 (pa.2.1+pb.2.1)=pa.2.1+pb.2.1:=wI (by omega) (by omega);refine Tt.J (λs=>∃c,s=(l,(l.length:Int),(k:Int),b,z,c,sets,fol,f1,l1,s2)/\PtOk n c/\c.2.1=pa.2.1+pb.2.1) (λnz hnz=>?_) (λs⟨c,hs,hc,es⟩=>?_)
    ·refine Tt.bind (Tt.call (zjh (by omega) hA.f hB.f) waa.fst) λu hu=>?_;refine Tt.bind (Tt.call (zjh (by omega) hA.l hB.l) waa.fst) λv hv=>?_;rw[ew];exact wab (λ_=>hnz _ ⟨_,rfl,⟨hu,hv,by simp only;omega⟩,rfl⟩) λ_=>hnz _ ⟨_,rfl,⟨hu,hv,by simp only;omega⟩,rfl⟩
    ·subst hs;dsimp only;exact hin ⟨rfl,ha2,hc,by omega,by omega,by rw[hd2];simp<;>omega,by omega⟩
   have c4:=wd4 c4;have ea:a=1:=by
    rw[arK,if_neg (by omega)]at har;split at har
    ·cases har;rfl
    ·rw[if_neg (by omega)]at har;cases har
   subst ea;obtain⟨s1,pb,rfl⟩:=zqs (l:=st) (by omega);rw[weo,wez]at haj hst hd2;have hB:=ha.pt pb (by simp);have hsu:=ha.su;simp only[zkz,spS]at hsu;have hB0:=hB.s;refine wac _ (z86 (by omega)) (wac _ z8q (wac _ (jbi (by omega)) ?_));refine Tt.J (λs=>∃fol',s=(l,(l.length:Int),(k:Int),b,z,x,pb,sets,fol',f1,l1,s1)/\AllOk n sets fol' s1) (λnz hnz=>?_) (λs⟨fol',hs,ha2⟩=>?_)
   ·refine wab (λ_=>?_) λ_=>hnz _ ⟨_,rfl,⟨ha.se,ha.fo,ha.fr,λq hq=>ha.pt q (by simp[hq]),by omega⟩⟩;exact zsq waa.fst (n:=n) (by omega) hB.f hB.l _ _ _ _ _ ha.fo ha.fr λfol' e1 e2=>hnz _ ⟨_,rfl,⟨ha.se,e1,e2,λq hq=>ha.pt q (by simp[hq]),by omega⟩⟩
   ·subst hs;refine Tt.J (λs=>∃c,s=(l,(l.length:Int),(k:Int),b,z,c,sets,fol',f1,l1,s1)/\PtOk n c/\c.2.1=pb.2.1) (λnz hnz=>?_) (λs⟨c,hs,hc,es⟩=>?_)
    ·exact wab (λ_=>hnz _ ⟨_,rfl,⟨hB.f,hB.l,hB.s⟩,rfl⟩) λ_=>hnz _ ⟨_,rfl,⟨hB.f,hB.l,hB.s⟩,rfl⟩
    ·subst hs;dsimp only;exact hin ⟨rfl,ha2,hc,by omega,by omega,by rw[hd2];simp<;>omega,by omega⟩
 ·have c:=wd4 c;have hke:k=l.length:=by omega
  rw[hke,we1,hd1]at hd;have h1:0<st.length:=by have:=wfy hd;omega
  refine wac _ (ye h1) (wac _ (atN h1) (Tt.pure (Or.inr ⟨n,sets,fol,st[0],rfl,by omega,by omega,⟨ha.se,ha.fo,ha.fr,by simp,by simp[spS]⟩,ha.pt _ (wec h1),?_⟩)));have hsu:=ha.su;have hp:=ha.pt;cases st with
  |nil=>simp at h1
  |cons p st=>
   simp only[spS]at hsu;have:=zo9 (l:=st) (n:=n) λq hq=>hp q (by simp[hq]);simp only[List.getElem_cons_zero];omega
theorem z2c(l:List ji)(hl:l.length<=1000000):Tn (λnn=>zcz nn l) (λr=>r.length<=l.length/\r.length<=512):=by
 unfold zcz;refine Tt.bind (Tt.call (zkv l hl) waa) λr hr=>?_;rcases hr with rfl|⟨n,sets,fol,p,rfl,h1,h2,ha,hp,hs⟩
 ·exact wap rfl (Tt.pure ⟨by simp,by simp⟩)
 ·have:=ha.se;exact waq rfl (wad (Tt.pure ⟨by simp only;omega,by simp only;omega⟩))
theorem z2f(l:List ji)(hl:l.length<=1000000):Tn (λnn=>zcy nn l) (λr=>r.length<=512):=by
 unfold zcy;refine Tt.bind (Tt.call (zkv l hl) waa) λr hr=>?_;rcases hr with rfl|⟨n,sets,fol,p,rfl,h1,h2,ha,hp,hs⟩
 ·exact wap rfl (Tt.pure (by simp))
 ·have:=hp.l.len;exact waq rfl (wad (Tt.pure (by simp only;omega)))
theorem z00(l:List ji)(hl:l.length<=1000000):Tn (λnn=>zbf nn l) (λr=>r.length<=512):=by
 unfold zbf;refine Tt.bind (Tt.call (zkv l hl) waa) λr hr=>?_;rcases hr with rfl|⟨n,sets,fol,p,rfl,h1,h2,ha,hp,hs⟩
 ·exact wap rfl (Tt.pure (by simp))
 ·have:=hp.f.len;exact waq rfl (wad (Tt.pure (by simp only;omega)))
theorem zv9(l:List ji)(hl:l.length<=1000000)(z:Int):Tn (λnn=>Zs nn l z) (λr=>r.length<=512):=by
 unfold Zs;refine Tt.bind (Tt.call (zkv l hl) waa) λr hr=>?_;rcases hr with rfl|⟨n,sets,fol,p,rfl,h1,h2,ha,hp,hs⟩
 ·refine Tt.J (λs=>s=(z,none,false)) (λnx hnx=>wad (wap rfl (hnx _ rfl))) λs hs=>?_;subst hs;exact wap rfl (Tt.pure (by simp))
 ·refine Tt.J (λs=>∃b,s=(z,some (sets,fol,p,()),b)/\(b=true->0<=z/\z<p.2.1)) (λnx hnx=>wad (waq rfl ?_)) λs⟨b,hs,hb⟩=>?_
  ·refine wab (λc=>wad (hnx _ ⟨_,rfl,λh=>?_⟩)) λc=>hnx _ ⟨_,rfl,λh=>by cases h⟩;exact⟨wd3 c,wd3 h⟩
  ·subst hs;dsimp only;refine wab (λc=>?_) λc=>Tt.pure (by simp);obtain⟨z0,z1⟩:=hb c;have hf:=ha.fo;obtain⟨y,rfl⟩:∃y:Nat,z=(y:Int):=⟨z.toNat,by omega⟩
   have hy:y<fol.length:=by omega
   have:=(ha.fr _ (wec hy)).len;exact wad (wac _ (atN hy) (Tt.pure (by omega)))
theorem zry(l:List Int)(b:Int)(hl:l.length<=1000000):Tn (λnn=>Qb nn l b) (λr=>r.length=l.length):=by
 unfold Qb;refine wad (wac _ (mkN hl (by omega)) ?_);refine Tt.loop (λm s=>∃(k:Nat)(out:List Int),k<=l.length/\m=l.length-k/\s=(l,b,(l.length:Int),(k:Int),out)/\out.length=l.length) l.length waa ⟨0,_,by omega,by omega,rfl,by simp⟩ λm s⟨k,out,hk,hm,hs,ho⟩ nx hnx=>?_;subst hs;dsimp only;refine wab (λc=>?_) (λc=>Tt.pure ho);have c:=wd3 c;have hlt:k<l.length:=by omega
 refine wac _ (atN hlt) (wac _ (ye (by omega)) (wac _ (zbz _ (by omega)) (wad ?_)));rw[wI (by omega) (by omega)];exact hnx (l.length-(k+1)) _ (by omega) ⟨k+1,out.set k (T.w64 (l[k]+b)),by omega,rfl,rfl,by simp[ho]⟩
theorem mid_eq(a b:Nat)(h:a+b<=2000000):zof .u64 (wr .u64 (T.w64 ((a:Int)+(b:Int)))) 1=some (((a+b) / 2:Nat):Int):=by
 rw[wI (by omega) (by omega)];unfold wr zof;rw[z04 (by omega) (by omega),if_neg (by omega)];have:min (1:Int).toNat IntKind.u64.bits=1:=by decide
 rw[this];congr 1;rw[Int.fdiv_eq_ediv_of_nonneg _ (by omega)];omega
theorem jcl(a b:Int):Tn (λnn=>V4 nn a b) (λ_=>True):=by
 unfold V4;refine Tt.J (λ_=>True) (λnx hnx=>?_) λs hs=>Tt.pure trivial;refine Tt.bind (R:=λr=>r=false) (Tt.pure (by simp)) λr hr=>?_;subst hr;exact wap rfl (hnx _ trivial)
theorem bs_tot(l:List Int)(x:Int)(hl:l.length<=1000000):Tn (λnn=>ve nn l x) (λ_=>True):=by
 unfold ve;refine wad ?_;refine Tt.loop (λm s=>∃(a b:Nat),a<=b/\b<=l.length/\m=b-a/\s=(l,x,(l.length:Int),(a:Int),(b:Int))) l.length waa ⟨0,l.length,by omega,by omega,by omega,rfl⟩ λm s⟨a,b,hab,hb,hm,hs⟩ nx hnx=>?_;subst hs;dsimp only;refine wab (λc=>?_) (λc=>?_)
 ·have c:=wd3 c;have hlt:(a+b) / 2<l.length:=by omega
  refine Tt.J (λs=>∃(a' b':Nat),a'<=b'/\b'<=l.length/\b'-a'<b-a/\s=(l,x,(l.length:Int),(a':Int),(b':Int))) (λny hny=>?_) λs⟨a',b',h1,h2,h3,hs⟩=>?_
  ·refine wac _ (mid_eq a b (by omega)) (wad ?_);have ew:wr .i64 (((a+b) / 2:Nat):Int)=(((a+b) / 2:Nat):Int):=zgy (by omega) (by omega);rw[ew];refine wac _ (atN hlt) (Tt.bind (Tt.call (jcl _ _) waa.fst) λr _=>?_);refine wab (λ_=>wad ?_) λ_=>hny _ ⟨a,(a+b) / 2,by omega,by omega,by omega,rfl⟩;rw[wI (by omega) (by omega)];exact hny _ ⟨(a+b) / 2+1,b,by omega,by omega,by omega,by simp⟩
  ·subst hs;exact hnx _ _ (by omega) ⟨a',b',h1,h2,rfl,rfl⟩
 ·refine Tt.J (λ_=>True) (λny hny=>wad (wab (λc=>?_) λc=>hny _ trivial)) λs _=>Tt.pure trivial;have c:=wd3 c;have hlt:a<l.length:=by omega
  refine wac _ (atN hlt) (wad (wab (λc=>hny _ trivial) λc=>?_));refine wac _ (atN hlt) (Tt.bind (R:=λ_=>True) (Tt.pure trivial) λr _=>?_);exact wab (λ_=>Tt.bind (R:=λ_=>True) (Tt.pure trivial) λr _=>hny _ trivial) λ_=>hny _ trivial
theorem jey(l:List Int)(x:Int)(hl:l.length<=1000000):Tn (λnn=>zfg nn l x) (λ_=>True):=by
 unfold zfg;exact Tt.bind (Tt.call (bs_tot l x hl) waa) λr _=>Tt.pure trivial
structure zj7(N M:Nat)(n:jt):Prop where
 s:n.1.length<=N
 o:n.2.1.length<=M
 l:n.2.2.1.length<=M
 f:n.2.2.2.1.length<=M
 fr:∀x∈n.2.2.2.1,x.length<=512
 fi:n.2.2.2.2.1.length<=M
theorem jcx(l:List qg):zdf l<=1000*l.length:=by
 induction l with
 |nil=>simp[zdf]
 |cons x l ih=>
  have e:zdf (x::l)=min x.2.1.length 1000+zdf l:=by unfold zdf;rw[wen,List.sum_cons]
  rw[e,we2];omega
theorem z81(l:List qg)(hl:l.length<=50)(hr:∀t∈l,t.2.1.length<=1000000):Tn (λnn=>zat nn l) (zj7 (zdf l) 60000):=by
 unfold zat;refine Tt.loop (λm s=>∃(k:Nat)(c1:List (Arr 4 Int))(c2:List Int)(c3:List Bool)(c4:List (List Int))(c5:List Int)(x1:List (Arr 4 Int))(x2:List Int)(x3:List Bool)(x4:List (List Int))(x5:List Int),k<=l.length/\m=l.length-k/\s=(l,(l.length:Int),(k:Int),c1,c2,c3,c4,c5,x1,x2,x3,x4,x5)/\zj7 (zdf (l.take k)) (1200*k) (x1,x2,x3,x4,x5,())) l.length waa ⟨0,_,_,_,_,_,_,_,_,_,_,by omega,by omega,rfl,⟨by simp,by simp,by simp,by simp,by simp,by simp⟩⟩ λm s⟨k,c1,c2,c3,c4,c5,x1,x2,x3,x4,x5,hk,hm,hs,hz⟩ nx hnx=>?_;subst hs;dsimp only;refine wab (λc=>?_) (λc=>?_)
 ·have c:=wd3 c;have hlt:k<l.length:=by omega
  have hrl:=hr _ (wec hlt);have hrs:=zt9 hlt;refine wac _ (atN hlt) (wad ?_);generalize l[k]=t at hrl hrs⊢;refine Tt.bind (Tt.call (z2f _ hrl) waa.fst) λla hla=>?_;refine Tt.bind (Tt.call (z2c _ hrl) waa.fst) λse hse=>?_;refine Tt.loop (λm s=>∃(j:Nat)(x1':List (Arr 4 Int))(x2':List Int)(x3':List Bool)(x4':List (List Int)),j<=se.length/\m=se.length-j/\s=(l,(k:Int),t.2.1,(x1.length:Int),la,(l.length:Int),(k:Int),se,(se.length:Int),(j:Int),c1,c2,c3,c4,c5,x1',x2',x3',x4',x5)/\zj7 (zdf (l.take k)+j) (1200*k+j) (x1',x2',x3',x4',x5,())) se.length waa.fst ⟨0,_,_,_,_,by omega,by omega,rfl,hz⟩ λm s⟨j,x1',x2',x3',x4',hj,hm,hs,hz⟩ ny hny=>?_;subst hs;dsimp only;have hz1:=hz.s;have hz2:=hz.o;have hz3:=hz.l;have hz4:=hz.f;have hz5:=hz.fi;simp only at hz1 hz2 hz3 hz4 hz5;have hb0:zdf (l.take k)<=1000*k:=by
   have:=jcx (l.take k);rw[wfg]at this;omega
  refine wab (λc=>?_) (λc=>?_)
  ·have c:=wd3 c;have hlt:j<se.length:=by omega
   refine wac _ (atN hlt) (wac _ (Jw (by simp;omega) (by omega)) (wac _ (Jw (by simp;omega) (by omega)) ?_));refine Tt.bind (Tt.call (jey _ _ (by omega)) waa.fst.fst) λr _=>?_;refine wac _ (Jw (by simp;omega) (by omega)) ?_;refine Tt.bind (Tt.call (zv9 _ hrl _) waa.fst.fst) λf hf=>?_;refine Tt.bind (Tt.call (zry _ _ (by omega)) waa.fst.fst) λf' hf'=>?_;refine wac _ (Jw (by simp;omega) (by omega)) (wad ?_);rw[wI (by omega) (by omega)];refine hny (se.length-(j+1)) _ (by omega) ⟨j+1,_,_,_,_,by omega,rfl,rfl,⟨by simp;omega,by simp;omega,by simp;omega,by simp;omega,λx hx=>?_,by simp only;omega⟩⟩;rcases wej.1 hx with h|h
   ·exact hz.fr x h
   ·rw[wea.1 h];omega
  ·refine Tt.bind (Tt.call (z00 _ hrl) waa.fst.fst) λf hf=>?_;refine Tt.bind (Tt.call (zry _ _ (by omega)) waa.fst.fst) λf' hf'=>?_;refine wac _ (Jw (by omega) (by omega)) (wad ?_);rw[wI (by omega) (by omega)];exact(hnx (l.length-(k+1)) _ (by omega) ⟨k+1,_,_,_,_,_,x1',x2',x3',x4',x5++f',by omega,rfl,rfl,⟨by simp only;omega,by simp only;omega,by simp only;omega,by simp only;omega,λx hx=>hz.fr x hx,by simp;omega⟩⟩).fst
 ·have hke:k=l.length:=by have c:=wd4 c;omega
  rw[hke,we1]at hz;exact Tt.pure ⟨hz.s,by have:=hz.o;omega,by have:=hz.l;omega,by have:=hz.f;omega,hz.fr,by have:=hz.fi;omega⟩
theorem ris_of{l:List Int}(h:∀(i:Nat)(h:i+1<l.length),l[i]<l[i+1]):qv l:=by
 have key:∀(d i:Nat)(hh:i+d+1<l.length),l[i]<l[i+d+1]:=by
  intro d;induction d with
  |zero=>exact λi hh=>h i hh
  |succ d ih=>exact λi hh=>Int.lt_trans (ih i (by omega)) (h (i+d+1) (by omega))
 refine List.pairwise_iff_getElem.2 λi j hi hj hij=>?_;have:=key (j-i-1) i (by omega);simpa [show i+(j-i-1)+1=j by omega]using this
theorem z16(l:List Int)(hl:l.length<=1000000):Tn (λnn=>zbg nn l) (λb=>b=true->qv l):=by
 unfold zbg;have ew:T.w64 ((l.length:Int)-1)=(l.length:Int)-1:=wI (by omega) (by omega);rw[ew];refine Tt.loop (λm s=>∃k:Nat,k<=l.length/\m=l.length-k/\s=(l,(l.length:Int)-1,(k:Int))/\∀(i:Nat)(h:i+1<l.length),i<k->l[i]<l[i+1]) l.length waa ⟨0,by omega,by omega,rfl,λi h1 h2=>by omega⟩ λm s⟨k,hk,hm,hs,hi⟩ nx hnx=>?_;subst hs;dsimp only;refine wab (λc=>?_) (λc=>Tt.pure λ_=>ris_of λi h=>hi i h (by have:=wd4 c;omega));have c:=wd3 c;have hlt:k+1<l.length:=by omega
 have e1:T.w64 ((k:Int)+1)=((k+1:Nat):Int):=wI (by omega) (by omega);refine wac _ (atN (by omega)) ?_;rw[e1];refine wac _ (atN hlt) (wab (λ_=>Tt.pure λh=>by cases h) λc2=>wad ?_);refine hnx (l.length-(k+1)) _ (by omega) ⟨k+1,by omega,rfl,rfl,λi h1 h2=>?_⟩;by_cases h:i<k
 ·exact hi i h1 h
 ·have:i=k:=by omega
  subst this;have:=wd4 c2;omega
theorem jfm{N:Nat}{l:List Int}(hr:qv l)(h:(hp:0<l.length)->0<=l[0]/\l[l.length-1]<(N:Int)):RN N l:=by
 refine⟨hr,λx hx=>?_⟩;obtain⟨i,hi,rfl⟩:=List.mem_iff_getElem.1 hx;obtain⟨h1,h2⟩:=h (by omega);have hp:=List.pairwise_iff_getElem.1 hr;have a1:l[0]<=l[i]:=by
  by_cases e:i=0
  ·subst e;omega
  ·have:=hp 0 i (by omega) hi (by omega);omega
 have a2:l[i]<=l[l.length-1]:=by
  by_cases e:i=l.length-1
  ·subst e;omega
  ·have:=hp i (l.length-1) hi (by omega) (by omega);omega
 omega
theorem zu3(N:Nat)(ls:List (List Int))(h1:ls.length<=1000000)(h2:∀x∈ls,x.length<=1000000):Tn (λnn=>Yp nn (N:Int) ls) (λb=>b=true->∀x∈ls,RN N x):=by
 unfold Yp;refine Tt.loop (λm s=>∃k:Nat,k<=ls.length/\m=ls.length-k/\s=((N:Int),ls,(ls.length:Int),(k:Int))/\∀x∈ls.take k,RN N x) ls.length waa ⟨0,by omega,by omega,rfl,by simp⟩ λm s⟨k,hk,hm,hs,hi⟩ nx hnx=>?_;subst hs;dsimp only;refine wab (λc=>?_) (λc=>Tt.pure λ_=>?_)
 rotate_left
 ·have hke:k=ls.length:=by have:=wd4 c;omega
  rw[hke,we1]at hi;exact hi
 have c:=wd3 c;have hlt:k<ls.length:=by omega
 have hxl:=h2 _ (wec hlt);refine wac _ (atN hlt) ?_;refine Tt.J (λs=>∃b,s=((N:Int),ls,(ls.length:Int),(k:Int),b)/\(b=false->RN N ls[k])) (λny hny=>?_) λs⟨b,hs,hb⟩=>?_
 ·refine Tt.bind (Tt.call (z16 _ hxl) waa.fst) λr hr=>wad ?_;refine wab (λc=>hny _ ⟨_,rfl,λh=>by cases h⟩) λc=>wad ?_;have hr:=hr (by simpa using c);refine wab (λc2=>?_) λc2=>hny _ ⟨_,rfl,λh=>jfm hr λhp=>by have:=wd4 c2;omega⟩;have hp:0<(ls[k]).length:=by have:=wd3 c2;omega
  refine wac _ (atN hp) (wad (wab (λc3=>hny _ ⟨_,rfl,λh=>by cases h⟩) λc3=>?_));have c3:=wd4 c3;have ew:T.w64 (((ls[k]).length:Int)-1)=(((ls[k]).length-1:Nat):Int):=by rw[wI (by omega) (by omega)];omega
  rw[ew];refine wac _ (atN (by omega)) (hny _ ⟨_,rfl,λh=>jfm hr λhp=>⟨by omega,?_⟩⟩);have:=wd4 h;omega
 ·subst hs;dsimp only;refine wab (λ_=>Tt.pure λh=>by cases h) λc=>wad ?_;rw[wI (by omega) (by omega)];refine hnx (ls.length-(k+1)) _ (by omega) ⟨k+1,by omega,rfl,rfl,λx hx=>?_⟩;rw[wel hlt]at hx;rcases wej.1 hx with h|h
  ·exact hi x h
  ·rw[wea.1 h];exact hb c
structure zvz(n:jt):Prop where
 o:n.2.1.length=n.1.length
 l:n.2.2.1.length=n.1.length
 f:n.2.2.2.1.length=n.1.length
 fi:RN n.1.length n.2.2.2.2.1
 fo:∀x∈n.2.2.2.1,RN n.1.length x
theorem ze4(n:jt){N:Nat}(hN:N<=1000)(hz:zj7 N 60000 n):Tn (λnn=>J1 nn n) (λb=>b=true->zvz n):=by
 have z1:=hz.s;have z2:=hz.o;have z3:=hz.l;have z4:=hz.f;have z5:=hz.fi;unfold J1;refine wad ?_;refine Tt.J (λs=>∃b,s=((n.1.length:Int),b,n)/\(b=false->n.2.1.length=n.1.length/\n.2.2.1.length=n.1.length/\n.2.2.2.1.length=n.1.length)) (λnx hnx=>?_) λs⟨b,hs,hb⟩=>?_
 ·refine wad (wab (λc=>hnx _ ⟨_,rfl,λh=>by cases h⟩) λc=>wab (λc2=>hnx _ ⟨_,rfl,λh=>by cases h⟩) λc2=>hnx _ ⟨_,rfl,λh=>?_⟩);have c:=wd4 c;have c2:=wd4 c2;have c3:=wd4 h;exact⟨by omega,by omega,by omega⟩
 ·subst hs;dsimp only;refine wab (λ_=>Tt.pure λh=>by cases h) λc=>?_;obtain⟨e1,e2,e3⟩:=hb c;refine Tt.loop (λm s=>∃k:Nat,k<=n.2.1.length/\m=n.2.1.length-k/\s=((n.1.length:Int),n.2.1,(n.2.1.length:Int),(k:Int),n)) n.2.1.length waa ⟨0,by omega,by omega,rfl⟩ λm s⟨k,hk,hm,hs⟩ nx hnx=>?_;subst hs;dsimp only;refine wab (λc=>?_) (λc=>?_)
  ·have c:=wd3 c;refine wac _ (atN (by omega)) (wab (λ_=>Tt.pure λh=>by cases h) λ_=>wad ?_);rw[wI (by omega) (by omega)];exact hnx (n.2.1.length-(k+1)) _ (by omega) ⟨k+1,by omega,rfl,rfl⟩
  ·refine Tt.J (λb=>b=true->zvz n) (λny hny=>?_) λs hs=>Tt.pure hs;refine Tt.bind (Tt.call (zu3 n.1.length [n.2.2.2.2.1] (by simp) (λx hx=>by rw[wea.1 hx];omega)) waa.fst) λr hr=>?_;refine wab (λc=>?_) λ_=>hny _ λh=>by cases h
   refine Tt.bind (Tt.call (zu3 n.1.length n.2.2.2.1 (by omega) (λx hx=>by have:=hz.fr x hx;omega)) waa.fst) λr2 hr2=>?_;exact hny _ λh=>⟨e1,e2,e3,hr c _ (by simp),hr2 h⟩
theorem jfw{b:Nat}(h:b<256):zw3 .u8 (b:Int) 64=some ((b / 64:Nat):Int):=by
 unfold zw3;rw[if_neg (by decide),show((b:Int)).tdiv 64=((b / 64:Nat):Int)from(Int.ofNat_tdiv b 64).symm,zce (by omega) (by omega)]
theorem jfz(b:Nat):z1i .u8 (b:Int) 64=some ((b % 64:Nat):Int):=by
 unfold z1i;rw[if_neg (by decide),show((b:Int)).tmod 64=((b % 64:Nat):Int)from(Int.ofNat_tmod b 64).symm]
theorem shr_ex(x:Int)(r:Nat):∃y,zof .u64 x (r:Int)=some y:=⟨_,by unfold zof;rw[if_neg (by omega)]⟩
theorem RN.sub{N:Nat}{a b:List Int}(h:RN N b)(hs:a.Sublist b):RN N a:=⟨wg4 hs h.r,λx hx=>h.b x (hs.subset hx)⟩
theorem zpq(n:jt)(hN:n.1.length<=1000)(l:List Int)(hl:RN n.1.length l)(b:Nat)(hb:b<256):Tn (λnn=>Z6 nn n l (b:Int)) (RN n.1.length):=by
 have hll:=hl.len;unfold Z6 zdb;refine Tt.loop (λm s=>∃(k:Nat)(out:List Int),k<=l.length/\m=l.length-k/\s=((b:Int),l,(l.length:Int),(k:Int),n,out)/\out.Sublist (l.take k)) l.length waa ⟨0,_,by omega,by omega,rfl,by simp⟩ λm s⟨k,out,hk,hm,hs,ho⟩ nx hnx=>?_;subst hs;dsimp only;refine wab (λc=>?_) (λc=>?_)
 ·have c:=wd3 c;have hlt:k<l.length:=by omega
  have hol:=ho.length_le;rw[wfg]at hol;have ht:=wel hlt;refine Tt.J (λs=>∃out',s=((b:Int),l,(l.length:Int),(k:Int),n,out')/\out'.Sublist (l.take (k+1))) (λny hny=>?_) λs⟨out',hs,ho'⟩=>?_
  ·have hr:=hl.b _ (wec hlt);refine wac _ (atN hlt) (wac _ (jfw hb) ?_);obtain⟨z,hz⟩:∃z:Nat,l[k]=(z:Int):=⟨(l[k]).toNat,by omega⟩
   rw[hz]at hr ht⊢;have hz':z<n.1.length:=by omega
   refine wac _ (atN hz') ?_;obtain⟨x,hx⟩:=at4 n.1[z] (k:=b / 64) (by omega);obtain⟨y,hy⟩:=shr_ex x (b % 64);refine wac _ hx (wac _ (jfz b) (wac _ hy ?_));refine wab (λc=>?_) λc=>hny _ ⟨_,rfl,by rw[ht];exact ho.trans (List.sublist_append_left _ _)⟩;refine wac _ (Jw (by simp;omega) (by omega)) (hny _ ⟨_,rfl,?_⟩);rw[ht];exact ho.append (List.Sublist.refl _)
  ·subst hs;refine wad ?_;dsimp only;rw[wI (by omega) (by omega)];exact hnx (l.length-(k+1)) _ (by omega) ⟨k+1,_,by omega,rfl,rfl,ho'⟩
 ·exact Tt.pure (hl.sub (ho.trans (List.take_sublist _ _)))
theorem z6g(n:jt){N:Nat}(hN:N<=1000)(hz:zj7 N 60000 n)(hok:zvz n)(b:Nat)(hb:b<256):Tn (λnn=>Yz nn n (b:Int)) (RN n.1.length):=by
 have z1:=hz.s;unfold Yz;refine Tt.bind (Tt.call (ze4 n hN hz) waa) λr _=>?_;refine wab (λ_=>Tt.pure (RN.nil _)) λ_=>?_;exact Tt.bind (Tt.call (zpq n (by omega) _ hok.fi b hb) waa) λr hr=>Tt.pure hr
theorem zv2(n:jt){N:Nat}(hN:N<=1000)(hz:zj7 N 60000 n)(hok:zvz n)(l:List Int)(hl:l.length<=1000000)(b:Nat)(hb:b<256):Tn (λnn=>zm6 nn n l (b:Int)) (RN n.1.length):=by
 have z1:=hz.s;have z4:=hz.f;unfold zm6 zmu;refine Tt.loop (λm s=>∃(k:Nat)(al:List Int),k<=l.length/\m=l.length-k/\s=((b:Int),al,l,(l.length:Int),(k:Int),n)/\RN n.1.length al) l.length waa ⟨0,_,by omega,by omega,rfl,RN.nil _⟩ λm s⟨k,al,hk,hm,hs,ha⟩ nx hnx=>?_;subst hs;dsimp only;refine wab (λc=>?_) (λc=>Tt.bind (Tt.call (zpq n (by omega) _ ha b hb) waa.fst) λr hr=>Tt.pure hr);have c:=wd3 c;have hlt:k<l.length:=by omega
 refine Tt.J (λs=>∃al',s=((b:Int),al',l,(l.length:Int),(k:Int),n)/\RN n.1.length al') (λny hny=>?_) λs⟨al',hs,ha'⟩=>?_
 ·refine wac _ (atN hlt) ?_;refine Tt.J (λs=>∃bb,s=((b:Int),al,l[k],l,(l.length:Int),(k:Int),bb,n)/\(bb=true->0<=l[k]/\l[k]<(n.2.2.2.1.length:Int))) (λnz hnz=>?_) λs⟨bb,hs,hbb⟩=>?_
  ·refine wad (wab (λc=>hnz _ ⟨_,rfl,λh=>⟨wd3 c,wd3 h⟩⟩) λc=>hnz _ ⟨_,rfl,λh=>by cases h⟩)
  ·subst hs;dsimp only;refine wab (λc=>?_) λc=>hny _ ⟨_,rfl,ha⟩;obtain⟨h0,h1⟩:=hbb c;obtain⟨z,hz⟩:∃z:Nat,l[k]=(z:Int):=⟨(l[k]).toNat,by omega⟩
   rw[hz]at h1⊢;have hz':z<n.2.2.2.1.length:=by omega
   refine wac _ (atN hz') (Tt.bind (Tt.call (zie (by omega) ha (hok.fo _ (wec hz'))) waa.fst) λu hu=>?_);exact hny _ ⟨_,rfl,hu.1⟩
 ·subst hs;refine wad ?_;dsimp only;rw[wI (by omega) (by omega)];exact hnx (l.length-(k+1)) _ (by omega) ⟨k+1,_,by omega,rfl,rfl,ha'⟩
theorem jab(n:jt){N:Nat}(hN:N<=1000)(hz:zj7 N 60000 n)(hok:zvz n)(l:List Int)(hl:l.length<=1000000)(b:Nat)(hb:b<256):Tn (λnn=>zah nn n l (b:Int)) (RN n.1.length):=by
 unfold zah;refine Tt.bind (Tt.call (ze4 n hN hz) waa) λr _=>?_;refine wab (λ_=>Tt.pure (RN.nil _)) λ_=>?_;exact Tt.bind (Tt.call (zv2 n hN hz hok l hl b hb) waa) λr hr=>Tt.pure hr
theorem z6b(n:jt){N:Nat}(hN:N<=1000)(hz:zj7 N 60000 n)(hok:zvz n)(l:List Int)(hl:l.length<=1000000):Tn (λnn=>za6 nn n l) (λ_=>True):=by
 unfold za6;refine Tt.bind (Tt.call (ze4 n hN hz) waa) λr _=>?_;refine wab (λ_=>Tt.pure trivial) λ_=>?_;refine Tt.loop (λm s=>∃(k:Nat)(t:Int),k<=l.length/\m=l.length-k/\s=(t,l,(l.length:Int),(k:Int),n)) l.length waa ⟨0,_,by omega,by omega,rfl⟩ λm s⟨k,t,hk,hm,hs⟩ nx hnx=>?_;subst hs;dsimp only;refine wab (λc=>?_) (λc=>Tt.pure trivial);have c:=wd3 c;have hlt:k<l.length:=by omega
 refine Tt.J (λs=>∃t,s=(t,l,(l.length:Int),(k:Int),n)) (λny hny=>?_) λs⟨t,hs⟩=>?_
 ·refine wac _ (atN hlt) ?_;refine Tt.J (λs=>∃bb,s=(t,l[k],l,(l.length:Int),(k:Int),bb,n)/\(bb=false->0<=l[k]/\l[k]<(n.1.length:Int))) (λnz hnz=>?_) λs⟨bb,hs,hbb⟩=>?_
  ·refine wad (wab (λc=>hnz _ ⟨_,rfl,λh=>by cases h⟩) λc=>wab (λc2=>hnz _ ⟨_,rfl,λh=>by cases h⟩) λc2=>?_);have c:=wd4 c;have c2:=wd4 c2;have e1:=hok.o;have e2:=hok.l;have hr:0<=l[k]/\l[k]<(n.1.length:Int):=by omega
   obtain⟨z,hz⟩:∃z:Nat,l[k]=(z:Int):=⟨(l[k]).toNat,by omega⟩
   have ha:atL n.2.2.1 l[k]=some (n.2.2.1[z]'(by omega)):=by rw[hz];exact atN (by omega)
   exact wac _ ha (hnz _ ⟨_,rfl,λh=>hr⟩)
  ·subst hs;dsimp only;refine wab (λc=>hny _ ⟨_,rfl⟩) λc=>?_;have hr:=hbb c;have e1:=hok.o;obtain⟨z,hz⟩:∃z:Nat,l[k]=(z:Int):=⟨(l[k]).toNat,by omega⟩
   have ha:atL n.2.1 l[k]=some (n.2.1[z]'(by omega)):=by rw[hz];exact atN (by omega)
   refine Tt.J (λs=>∃t,s=(t,l[k],l,(l.length:Int),(k:Int),n)) (λnz hnz=>?_) λs⟨t,hs⟩=>?_
   ·exact wab (λc=>wac _ ha (hnz _ ⟨_,rfl⟩)) λc=>hnz _ ⟨_,rfl⟩
   ·subst hs;exact wac _ ha (wad (hny _ ⟨_,rfl⟩))
 ·subst hs;refine wad ?_;dsimp only;rw[wI (by omega) (by omega)];exact hnx (l.length-(k+1)) _ (by omega) ⟨k+1,_,by omega,rfl,rfl⟩
theorem z8b(s:Arr 4 Int)(b:Nat)(hb:b<256):Tn (λnn=>ze3 nn s (b:Int)) (λ_=>True):=by
 unfold ze3;obtain⟨x,hx⟩:=at4 s (k:=b / 64) (by omega);refine wac _ (jfw hb) (wac _ (ye (by omega)) (wac _ hx (wac _ (jfz b) ?_)));exact wac _ (show z2k .u64 1 ((b % 64:Nat):Int)=some _ by unfold z2k;rw[if_neg (by omega)]) (Tt.pure trivial)
section
variable{α β:Type}{eqb:α → α → Bool}
theorem zsm:∀{m:List (α×β×Unit)}{k:α}{v:β},Yj eqb m k=none->zco eqb m k v=m++[(k,v,())]
 |[],_,_,_=>rfl
 |e::r,k,v,h=>by
  unfold Yj at h;unfold zco;cases hc:eqb k e.1
  ·rw[hc]at h;simp only[wha,zsm h]
  ·rw[hc]at h;cases h
theorem zvp{k:α}{v:β}(hk:eqb k k=true):∀{m:List (α×β×Unit)},Yj eqb (zco eqb m k v) k=some v
 |[]=>by unfold zco Yj;rw[hk]
 |e::r=>by
  unfold zco;cases hc:eqb k e.1
  ·unfold Yj;rw[hc];exact zvp hk
  ·unfold Yj;rw[hk]
theorem zuq:∀{m:List (α×β×Unit)}{k:α}{v:β},Yj eqb m k=some v->∃(j:Nat)(e:α×β×Unit),m[j]?=some e/\e.2.1=v
 |[],_,_,h=>by cases h
 |e::r,k,v,h=>by
  unfold Yj at h;cases hc:eqb k e.1
  ·rw[hc]at h;obtain⟨j,e',h1,h2⟩:=zuq h;exact⟨j+1,e',by simpa using h1,h2⟩
  ·rw[hc]at h;cases h;exact⟨0,e,rfl,rfl⟩
end
theorem jfi(k:zx):zep k k=true:=by simp[zep,zyb]
theorem jdg{n:Nat}{α:Type}(a:Arr n α){k:Nat}(h:k<n)(x:α):∃a',zsu a (k:Int) x=some a'/\a'.l=a.l.set k x:=by
 refine⟨⟨a.l.set k x,by rw[wfz,a.h]⟩,?_,rfl⟩;unfold zsu;simp[h]
structure ClsN(a:Arr 256 Int)(n:Nat):Prop where
 h1:1<=n
 h2:n<=256
 lt:∀(b:Nat)(x:Int),a.l[b]?=some x->∃j:Nat,j<n/\x=j
 on:∀j:Nat,j<n->∃b:Nat,a.l[b]?=some (j:Int)
theorem ClsN.zero:ClsN ⟨List.replicate 256 0,wd6⟩ 1:=
 ⟨by omega,by omega,λb x h=>⟨0,by omega,by rw[wfw]at h;split at h<;>cases h;rfl⟩,λj hj=>⟨0,by show(List.replicate 256 (0:Int))[0]?=some _;rw[wfw,if_pos (by decide)];congr 1;omega⟩⟩
structure SplI(k:Nat)(a:Arr 256 Int)(m:List (zx×Int×Unit)):Prop where
 v:∀(j:Nat)(e:zx×Int×Unit),m[j]?=some e->e.2.1=j
 l:m.length<=k
 p:0<k->0<m.length
 lt:∀(b:Nat)(x:Int),b<k->a.l[b]?=some x->∃j:Nat,j<m.length/\x=j
 on:∀j:Nat,j<m.length->∃b:Nat,b<k/\a.l[b]?=some (j:Int)
theorem SplI.step{k:Nat}{a a':Arr 256 Int}{m m':List (zx×Int×Unit)}(h:SplI k a m)(hk:k<256){j:Nat}(ha:a'.l=a.l.set k (j:Int))(hm:m'=m/\j<m.length\/∃x,m'=m++[(x,(m.length:Int),())]/\j=m.length):SplI (k+1) a' m':=by
 have hl:=a.h;have hg:a'.l[k]?=some (j:Int):=by rw[ha,List.getElem?_set_self (by omega)]
 have hn:∀b,b≠k->a'.l[b]?=a.l[b]?:=λb hb=>by rw[ha,List.getElem?_set_ne (by omega)]
 have hj:j<m'.length/\m.length<=m'.length/\m'.length<=m.length+1:=by
  rcases hm with⟨e,h2⟩|⟨x,e,h2⟩
  ·subst e;omega
  ·subst e;simp;omega
 refine⟨λi e he=>?_,by have:=h.l;omega,λ_=>by omega,λb x hb hx=>?_,λi hi=>?_⟩
 ·rcases hm with⟨e1,h2⟩|⟨x,e1,h2⟩
  ·subst e1;exact h.v i e he
  ·subst e1;by_cases hi:i<m.length
   ·rw[weg hi]at he;exact h.v i e he
   ·rw[wei (by omega)]at he;have:i-m.length=0:=by
     cases hd:i-m.length with
     |zero=>rfl
     |succ d=>rw[hd]at he;simp at he
    rw[this]at he;simp only[wge,we6]at he;subst he;simp only;omega
 ·by_cases hbk:b=k
  ·subst hbk;rw[hg]at hx;cases hx;exact⟨j,by omega,rfl⟩
  ·rw[hn b hbk]at hx;obtain⟨i,h1,h2⟩:=h.lt b x (by omega) hx;exact⟨i,by omega,h2⟩
 ·by_cases hij:i=j
  ·subst hij;exact⟨k,by omega,hg⟩
  ·have him:i<m.length:=by
    rcases hm with⟨e1,h2⟩|⟨x,e1,h2⟩
    ·subst e1;exact hi
    ·subst e1;simp at hi;omega
   obtain⟨b,h1,h2⟩:=h.on i him;exact⟨b,by omega,by rw[hn b (by omega)];exact h2⟩
theorem zvq(a:Arr 256 Int)(s:Arr 4 Int):Tn (λnn=>Y3 nn a s) (λr=>∃n,ClsN r n):=by
 unfold Y3;refine Tt.loop (λj t=>∃(k:Nat)(a':Arr 256 Int)(m:List (zx×Int×Unit)),k<=256/\j=256-k/\t=((k:Int),a',s,⟨List.replicate 256 0,wd6⟩,m)/\SplI k a' m) 256 waa ⟨0,_,_,by omega,by omega,rfl,⟨λj e h=>by simp at h,by simp,by omega,λb x h=>by omega,λj h=>by simp at h⟩⟩ λj t⟨k,a',m,hk,hj,ht,hi⟩ nx hnx=>?_;subst ht;dsimp only;refine wab (λc=>?_) (λc=>Tt.pure ?_)
 ·have c:=wd3 c;have hlt:k<256:=by omega
  have hal:=a'.h;have hwu:wr .u8 (k:Int)=(k:Int):=zce (by omega) (by omega);refine wac _ (ye hlt) (wac _ (atN (by omega)) ?_);rw[hwu];refine Tt.bind (Tt.call (z8b s k hlt) waa.fst) λr _=>?_;generalize hkey:((a'.l[k]'(by omega),r,()):zx)=key;have hml:=hi.l;refine Tt.J (λt=>∃(m':List (zx×Int×Unit))(j:Nat),t=((k:Int),(k:Int),a',s,⟨List.replicate 256 0,wd6⟩,m',key)/\Yj zep m' key=some (j:Int)/\(m'=m/\j<m.length\/∃x,m'=m++[(x,(m.length:Int),())]/\j=m.length)) (λny hny=>?_) λt⟨m',j,ht,hg,hm⟩=>?_
  ·refine wad ?_;cases hg:Yj zep m key with
   |none=>
    refine waq rfl (wad (wad (hny _ ⟨_,m.length,rfl,?_,Or.inr ⟨key,?_,rfl⟩⟩)))
    ·have hw:wr .u8 (m.length:Int)=(m.length:Int):=zce (by omega) (by omega);rw[hw];exact zvp (jfi key)
    ·have hw:wr .u8 (m.length:Int)=(m.length:Int):=zce (by omega) (by omega);rw[hw];exact zsm hg
   |some v=>
    obtain⟨i,e,h1,h2⟩:=zuq hg;have h3:=hi.v i e h1;have h4:i<m.length:=by
     have:=wd5.1 h1;exact this.1
    refine wap rfl (hny _ ⟨m,i,rfl,?_,Or.inl ⟨rfl,h4⟩⟩);rw[hg,<- h2,h3]
  ·subst ht;dsimp only;rw[hg];obtain⟨a2,e1,e2⟩:=jdg a' hlt (j:Int);refine wad (wac _ (ye hlt) (wac _ e1 (wad ?_)));rw[wI (by omega) (by omega)];exact hnx (256-(k+1)) _ (by omega) ⟨k+1,a2,m',by omega,rfl,rfl,hi.step hlt e2 hm⟩
 ·have c:=wd4 c;have hke:k=256:=by omega
  subst hke;refine⟨m.length,hi.p (by omega),hi.l,λb x hx=>hi.lt b x ?_ hx,λj hj=>?_⟩
  ·have:=wd5.1 hx;have h2:=a'.h;have h3:=this.1;omega
  ·obtain⟨b,h1,h2⟩:=hi.on j hj;exact⟨b,h2⟩
theorem z6m(a:Arr 256 Int){n:Nat}(h:ClsN a n):Tn (λnn=>Jz nn a) (λr=>r=(n:Int)):=by
 have hl:=a.h;have hn:=h.h2;unfold Jz;refine Tt.loop (λj t=>∃(k w:Nat),k<=256/\j=256-k/\t=((w:Int),a,(k:Int))/\w<=n/\∀(b:Nat)(x:Int),b<k->a.l[b]?=some x->x<(w:Int)) 256 waa ⟨0,0,by omega,by omega,rfl,by omega,λb x h=>by omega⟩ λj t⟨k,w,hk,hj,ht,hw,hi⟩ nx hnx=>?_;subst ht;dsimp only;refine wab (λc=>?_) (λc=>Tt.pure ?_)
 ·have c:=wd3 c;have hlt:k<256:=by omega
  refine wac _ (atN (by omega)) ?_;obtain⟨i,h1,h2⟩:=h.lt k (a.l[k]'(by omega)) (by simp[hl,hlt]);have e1:wr .i64 (a.l[k]'(by omega))=(i:Int):=by rw[h2];exact zgy (by omega) (by omega)
  have e2:max (w:Int) (T.w64 (wr .i64 (a.l[k]'(by omega))+1))=((max w (i+1):Nat):Int):=by
   rw[e1,wI (by omega) (by omega)];omega
  rw[e2];refine wad (wad ?_);rw[wI (by omega) (by omega)];refine hnx (256-(k+1)) _ (by omega) ⟨k+1,_,by omega,rfl,rfl,by omega,λb x hb hx=>?_⟩;by_cases hbk:b=k
  ·subst hbk;rw[wd2 (by omega)]at hx;have:=wfy hx;omega
  ·have:=hi b x (by omega) hx;omega
 ·have c:=wd4 c;have h1:=h.h1;obtain⟨b,hb⟩:=h.on (n-1) (by omega);have h3:=(wd5.1 hb).1;have:=hi b _ (by omega) hb;omega
theorem jd2(l:List (Arr 4 Int))(hl:l.length<=1000000):Tn (λnn=>zg8 nn l) (λr=>∃n:Nat,ClsN r.1 n/\r.2.1=(n:Int)):=by
 unfold zg8;refine Tt.loop (λj t=>∃(k:Nat)(a:Arr 256 Int),k<=l.length/\j=l.length-k/\t=(l,(l.length:Int),(k:Int),⟨List.replicate 256 0,wd6⟩,a)/\∃n,ClsN a n) l.length waa ⟨0,_,by omega,by omega,rfl,1,ClsN.zero⟩ λj t⟨k,a,hk,hj,ht,n,ha⟩ nx hnx=>?_;subst ht;dsimp only;refine wab (λc=>?_) (λc=>?_)
 ·have c:=wd3 c;have hlt:k<l.length:=by omega
  refine wac _ (atN hlt) (Tt.bind (Tt.call (zvq a _) waa.fst) λa2 h2=>wad ?_);rw[wI (by omega) (by omega)];exact hnx (l.length-(k+1)) _ (by omega) ⟨k+1,_,by omega,rfl,rfl,h2⟩
 ·exact Tt.bind (Tt.call (z6m a ha) waa.fst) λw hw=>Tt.pure ⟨n,ha,hw⟩
theorem z6w(a:Arr 256 Int){n:Nat}(h:ClsN a n)(c:Nat)(hc:c<n):Tn (λnn=>Yv nn a (c:Int)) (λr=>∃b:Nat,b<256/\atL r 0=some (b:Int)):=by
 have hl:=a.h;have hn:=h.h2;unfold Yv;refine Tt.loop (λj t=>∃(k:Nat)(out:List Int),k<=256/\j=256-k/\t=((c:Int),(k:Int),a,out)/\out.length<=k/\(∀x∈out,∃b:Nat,b<256/\x=(b:Int))/\((∃b:Nat,b<k/\a.l[b]?=some (c:Int))->0<out.length)) 256 waa ⟨0,_,by omega,by omega,rfl,by simp,by simp,λ⟨b,h,_⟩=>by omega⟩ λj t⟨k,out,hk,hj,ht,ho,hx,hp⟩ nx hnx=>?_;subst ht;dsimp only;refine wab (λc1=>?_) (λc1=>Tt.pure ?_)
 ·have c1:=wd3 c1;have hlt:k<256:=by omega
  refine Tt.J (λt=>∃out',t=((c:Int),(k:Int),a,out')/\out'.length<=k+1/\(∀x∈out',∃b:Nat,b<256/\x=(b:Int))/\((∃b:Nat,b<k+1/\a.l[b]?=some (c:Int))->0<out'.length)) (λny hny=>?_) λt⟨out',ht,h1,h2,h3⟩=>?_
  ·refine wac _ (ye hlt) (wac _ (atN (by omega)) ?_);obtain⟨i,h1,h2⟩:=h.lt k (a.l[k]'(by omega)) (by simp[hl,hlt]);have e1:wr .i64 (a.l[k]'(by omega))=(i:Int):=by rw[h2];exact zgy (by omega) (by omega)
   rw[e1];refine wab (λc2=>?_) λc2=>hny _ ⟨_,rfl,by omega,hx,λ⟨b,hb,hb2⟩=>?_⟩
   ·have hw:wr .u8 (k:Int)=(k:Int):=zce (by omega) (by omega);rw[hw];refine wac _ (Jw (by simp;omega) (by omega)) (hny _ ⟨_,rfl,by simp;omega,λx hxx=>?_,λ_=>by simp⟩);rcases wej.1 hxx with h|h
    ·exact hx x h
    ·exact⟨k,hlt,wea.1 h⟩
   ·refine hp ⟨b,?_,hb2⟩;have:b≠k:=λe=>by
     subst e;rw[wd2 (by omega)]at hb2;have:=wfy hb2;have c2:=wd4 c2;omega
    omega
  ·subst ht;refine wad ?_;dsimp only;rw[wI (by omega) (by omega)];exact hnx (256-(k+1)) _ (by omega) ⟨k+1,_,by omega,rfl,rfl,h1,h2,h3⟩
 ·have c1:=wd4 c1;obtain⟨b,hb⟩:=h.on c hc;have h3:=(wd5.1 hb).1;have:=hp ⟨b,by omega,hb⟩;cases out with
  |nil=>simp at this
  |cons x r=>
   obtain⟨b',h1,h2⟩:=hx x (by simp);exact⟨b',h1,by rw[h2];rfl⟩
theorem jdc(l:List Int)(hl:l.length<=1000):Tn (λnn=>Zh nn l) (λ_=>True):=by
 unfold Zh;refine Tt.loop (λj t=>∃(k:Nat)(out:List Int),k<=l.length/\j=l.length-k/\t=(l,(l.length:Int),(k:Int),out)/\out.length=8*k) l.length waa ⟨0,_,by omega,by omega,rfl,by simp⟩ λj t⟨k,out,hk,hj,ht,ho⟩ nx hnx=>?_;subst ht;dsimp only;refine wab (λc=>?_) (λc=>?_)
 ·have c:=wd3 c;have hlt:k<l.length:=by omega
  refine wac _ (atN hlt) ?_;refine Tt.loop (λm t=>∃(i:Nat)(out:List Int),i<=8/\m=8-i/\t=(l[k],(56-8*i:Int),l,(l.length:Int),(k:Int),out)/\out.length=8*k+i) 8 waa.fst ⟨0,_,by omega,by omega,rfl,by omega⟩ λm t⟨i,out,hi,hm,ht,ho⟩ ny hny=>?_;subst ht;dsimp only;refine wab (λc=>?_) (λc=>?_)
  ·have c:=wd3 c;refine wac _ (show zof .u64 (wr .u64 l[k]) (56-8*i:Int)=some _ by unfold zof;rw[if_neg (by omega)]) ?_;refine wac _ (Jw (by simp;omega) (by omega)) (wad ?_);rw[wI (by omega) (by omega)];exact hny (8-(i+1)) _ (by omega) ⟨i+1,_,by omega,rfl,by congr 2;omega,by simp;omega⟩
  ·have c:=wd4 c;refine wad ?_;rw[wI (by omega) (by omega)];exact(hnx (l.length-(k+1)) _ (by omega) ⟨k+1,_,by omega,rfl,rfl,by omega⟩).fst
 ·exact wac _ rfl (Tt.pure trivial)
structure DSz(d:D_api_Dfa):Prop where
 c:∃n,ClsN d.1 n
 w:0<=d.2.1/\d.2.1<=256
 n:d.2.2.1.length<=300
 l:d.2.2.2.1.length<=300
 r:∀x∈d.2.2.1,x.length<=256
theorem DSz.zero:DSz (⟨List.replicate 256 0,wd6⟩,0,[],[],()):=⟨⟨1,ClsN.zero⟩,by simp,by simp,by simp,by simp⟩
structure DBI(N w M q:Nat)(next:List (List Int))(label:List Int)(all:List (List Int)):Prop where
 a:all.length<=M
 qa:q<=all.length
 r:∀x∈all,RN N x
 n:next.length=q
 l:label.length=q
 rw:∀x∈next,x.length=w
abbrev Wh:=List ((List UInt8)×Int×Unit)
abbrev DBS:=Int×Int×Int×Int×jt×(Arr 256 Int)×Int×(Arr 256 Int)×Int×(List Int)×(List (List Int))×(List Int)×(List (List Int))×(List Int)×(List (List Int))×Wh
def DBP(n:jt)(Z a:Arr 256 Int)(M q w c:Nat)(next:List (List Int))(label:List Int)(s:DBS):Prop:=
 ∃(row:List Int)(all:List (List Int))(wh:Wh),s=((M:Int),(q:Int),(w:Int),(c:Int),n,Z,0,a,(w:Int),row,[],[],next,label,all,wh)/\row.length=w/\all.length<=M+1/\q<all.length/\∀x∈all,RN n.1.length x
theorem z38{ι:Type}{D:Fi ι}{φ:ι->Nat}{β:Type}{Q:β->Prop}(hφ:Big D φ){n:jt}{Z a:Arr 256 Int}{M q w c:Nat}{next:List (List Int)}{label:List Int}(hM:M<=200)(hc:c<w)(hN:n.1.length<=1000){row:List Int}{all:List (List Int)}{wh:Wh}(hr:row.length=w)(h1:all.length<=M)(h2:q<all.length)(h3:∀x∈all,RN n.1.length x)
  {nx:ι->DBS->Option β}(hnx:Nx D Q (DBP n Z a M q w c next label) nx){x17:List Int}(hx:RN n.1.length x17) :
  Tt D (λi=>ifB (decide ((x17.length:Int)=0)) (jb (qu row.length (c:Int)) λx18=>jb (Yc row x18 (-1)) λx19=>nx i ((M:Int),(q:Int),(w:Int),(c:Int),n,Z,0,a,(w:Int),x19,[],[],next,label,all,wh)) (jb (Zh (φ i) x17) λx20=>jb (some (Yj zzo wh x20)) λx21=>J (λ(x22:Int×(List ((List UInt8)×Int×Unit))×(List (List Int)))=>jb (qu row.length (c:Int)) λx24=>jb (Yc row x24 x22.1) λx25=>nx i ((M:Int),(q:Int),(w:Int),(c:Int),n,Z,0,a,(w:Int),x25,[],[],next,label,x22.2.2,x22.2.1)) λx23=>ifB (!x21.isSome) (jb (some (all.length:Int)) λx26=>jb (some (zco zzo wh x20 x26)) λx27=>jb (apO 24 all [x17]) λx28=>x23 (x26,x27,x28)) (x23 (gD 0 x21,wh,all)))) Q:=by
 have hxl:=hx.len;refine wab (λ_=>wac _ (ye (by omega)) (wac _ (zbz _ (by omega)) (hnx _ ⟨_,_,_,rfl,by simp[hr],by omega,h2,h3⟩))) λ_=>?_;refine Tt.bind (Tt.call (jdc _ (by omega)) hφ) λkey _=>wad ?_;refine Tt.J (λs=>∃(v:Int)(wh:Wh)(all:List (List Int)),s=(v,wh,all)/\all.length<=M+1/\q<all.length/\∀x∈all,RN n.1.length x) (λny hny=>?_) λs⟨v,wh,all,hs,h1,h2,h3⟩=>?_
 ·refine wab (λ_=>wad (wad (wac _ (Jw (by simp;omega) (by omega)) (hny _ ⟨_,_,_,rfl,by simp;omega,by simp;omega,λx hx'=>?_⟩)))) λ_=>hny _ ⟨_,_,_,rfl,by omega,h2,h3⟩;rcases wej.1 hx' with h|h
  ·exact h3 x h
  ·rw[wea.1 h];exact hx
 ·subst hs;exact wac _ (ye (by omega)) (wac _ (zbz _ (by omega)) (hnx _ ⟨_,_,_,rfl,by simp[hr],h1,h2,h3⟩))
theorem z3e(n:jt){N:Nat}(hN:N<=1000)(hz:zj7 N 60000 n)(z:Int)(hzz:z<=200):Tn (λnn=>zad nn n z) (λr=>DSz r.1):=by
 have z1:=hz.s;unfold zad;refine Tt.bind (Tt.call (ze4 n hN hz) waa) λr hr=>?_;refine wab (λ_=>Tt.pure DSz.zero) λc=>?_;have hok:=hr (by simpa using c);refine Tt.J (λs=>∃b,s=(z,b,n,⟨List.replicate 256 0,wd6⟩,0,[],[])/\(b=false->1<=z)) (λnx hnx=>?_) λs⟨b,hs,hb⟩=>?_
 ·exact wad (wab (λc=>hnx _ ⟨_,rfl,λh=>by cases h⟩) λc=>hnx _ ⟨_,rfl,λ_=>by have:=wd4 c;omega⟩)
 subst hs;dsimp only;refine wab (λ_=>Tt.pure DSz.zero) λc=>?_;have h1:=hb c;obtain⟨M,rfl⟩:∃M:Nat,z=(M:Int):=⟨z.toNat,by omega⟩
 refine Tt.bind (Tt.call (jd2 n.1 (by omega)) waa) λqq⟨w,hcl,hw⟩=>?_;obtain⟨a,w',u⟩:=qq;simp only at hcl hw;subst hw;have hw2:=hcl.h2;have hZ:=ClsN.zero;generalize (⟨List.replicate 256 0,wd6⟩:Arr 256 Int)=Z at hZ⊢;refine Tt.loop (λm s=>∃(q:Nat)(next:List (List Int))(label:List Int)(all:List (List Int))(wh:Wh),m=M-q/\s=((M:Int),(q:Int),n,Z,0,a,(w:Int),[],[],next,label,all,wh)/\DBI n.1.length w M q next label all) M waa ⟨0,_,_,_,_,by omega,rfl,⟨by simp;omega,by simp,λx hx=>by rw[wea.1 hx];exact RN.nil _,rfl,rfl,by simp⟩⟩ λm s⟨q,next,label,all,wh,hm,hs,hi⟩ nx hnx=>?_;subst hs;dsimp only;have i1:=hi.a;have i2:=hi.qa;have i3:=hi.n;have i4:=hi.l;refine wab (λc=>?_) (λc=>Tt.pure ⟨⟨w,hcl⟩,by simp only;omega,by simp only;omega,by simp only;omega,λx hx=>by rw[hi.rw x hx];omega⟩);have c:=wd3 c;refine wac _ (mkN (n:=w) (by omega) (by omega)) ?_;simp only[wd6];refine Tt.loop (λm s=>∃(c:Nat)(row:List Int)(all:List (List Int))(wh:Wh),m=w-c/\c<=w/\s=((M:Int),(q:Int),(w:Int),(c:Int),n,Z,0,a,(w:Int),row,[],[],next,label,all,wh)/\row.length=w/\all.length<=M/\q<all.length/\∀x∈all,RN n.1.length x) w waa.fst ⟨0,_,_,_,by omega,by omega,rfl,by simp,i1,by omega,hi.r⟩ λm s⟨c,row,all,wh,hm,hc,hs,j1,j2,j3,j4⟩ ny hny=>?_;subst hs;dsimp only;refine wab (λc1=>?_) (λc1=>?_)
 ·have c1:=wd3 c1;refine Tt.bind (Tt.call (z6w a hcl c (by omega)) waa.fst.fst) λbs⟨b,hb,hbs⟩=>?_;refine wac _ hbs ?_;refine Tt.J (DBP n Z a M q w c next label) (λnz hnz=>?_) λs⟨row,all,wh,hs,k1,k2,k3,k4⟩=>?_
  ·refine wab (λc2=>?_) (λc2=>?_)
   ·refine Tt.J (DBP n Z a M q w c next label) (λnu hnu=>?_) λs⟨row,all,wh,hs,k1,k2,k3,k4⟩=>?_
    ·refine Tt.bind (Tt.call (z6g n hN hz hok b hb) waa.fst.fst) λr hr=>?_;exact z38 waa.fst.fst (by omega) (by omega) (by omega) j1 j2 j3 j4 hnu hr
    ·subst hs;exact hnz _ ⟨_,_,_,rfl,k1,k2,k3,k4⟩
   ·refine Tt.J (DBP n Z a M q w c next label) (λnu hnu=>?_) λs⟨row,all,wh,hs,k1,k2,k3,k4⟩=>?_
    ·have hq:=j4 _ (wec j3);have hql:=hq.len;refine wac _ (ye j3) (wac _ (atN j3) ?_);refine Tt.bind (Tt.call (jab n hN hz hok _ (by omega) b hb) waa.fst.fst) λr hr=>?_;exact z38 waa.fst.fst (by omega) (by omega) (by omega) j1 j2 j3 j4 hnu hr
    ·subst hs;exact hnz _ ⟨_,_,_,rfl,k1,k2,k3,k4⟩
  ·subst hs;dsimp only;refine wab (λ_=>Tt.pure ?_) λc2=>wad ?_
   ·exact⟨⟨1,hZ⟩,by simp,by simp,by simp,by simp⟩
   have c2:=wd4 c2;rw[wI (by omega) (by omega)];exact hny (w-(c+1)) _ (by omega) ⟨c+1,_,_,_,rfl,by omega,rfl,k1,by omega,k3,k4⟩
 ·have hq:=j4 _ (wec j3);have hql:=hq.len;refine wac _ (Jw (by simp;omega) (by omega)) (wac _ (ye j3) (wac _ (atN j3) ?_));refine Tt.bind (Tt.call (z6b n hN hz hok _ (by omega)) waa.fst.fst) λt _=>?_;refine wac _ (Jw (by simp;omega) (by omega)) (wad ?_);rw[wI (by omega) (by omega)];refine(hnx (M-(q+1)) _ (by omega) ⟨q+1,_,_,_,_,rfl,rfl,⟨j2,by omega,j4,by simp;omega,by simp;omega,λx hx=>?_⟩⟩).fst;rcases wej.1 hx with h|h
  ·exact hi.rw x h
  ·rw[wea.1 h];exact j1
theorem z2a(a:Arr 256 Int):Tn (λnn=>Jz nn a) (λr=>True):=by
 have hl:=a.h;unfold Jz;refine Tt.loop (λj t=>∃(k:Nat)(w:Int),k<=256/\j=256-k/\t=(w,a,(k:Int))) 256 waa ⟨0,0,by omega,by omega,rfl⟩ λj t⟨k,w,hk,hj,ht⟩ nx hnx=>?_;subst ht;dsimp only;refine wab (λc=>?_) (λc=>Tt.pure trivial);have c:=wd3 c;refine wac _ (atN (by omega)) (wad (wad ?_));rw[wI (z:=(k:Int)+1) (by omega) (by omega)];exact hnx (256-(k+1)) _ (by omega) ⟨k+1,_,by omega,rfl,rfl⟩
theorem z3h(a:Arr 256 Int):Tn (λnn=>zba nn a) (λr=>True):=by
 unfold zba;exact Tt.bind (Tt.call (zvq a _) waa) λr _=>Tt.pure trivial
structure DRt(d:D_api_Dfa):Prop where
 n0:0<d.2.2.1.length
 lab:d.2.2.2.1.length=d.2.2.1.length
 row:∀x∈d.2.2.1,(x.length:Int)=d.2.1
 nx:∀x∈d.2.2.1,∀y∈x, -1<=y/\y<(d.2.2.1.length:Int)
theorem zvi{α:Type}{l:List α}{k:Nat}(h:k<l.length){P:α->Prop}(h1:∀x∈l.take k,P x)(h2:P l[k]):∀x∈l.take (k+1),P x:=λx hx=>by
 rw[wel h]at hx;rcases wej.1 hx with h|h
 ·exact h1 x h
 ·rw[wea.1 h];exact h2
theorem dRight_tot(d:D_api_Dfa)(hd:DSz d):Tn (λnn=>p_dfa_Right nn d) (λb=>b=true->DRt d):=by
 have s1:=hd.n;have s2:=hd.l;unfold p_dfa_Right;refine wad ?_;refine Tt.J (λs=>∃b,s=((d.2.2.1.length:Int),b,d)/\(b=false->0<d.2.2.1.length/\d.2.2.2.1.length=d.2.2.1.length)) (λnx hnx=>?_) λs⟨b,hs,hb⟩=>?_
 ·refine wad (wab (λc=>hnx _ ⟨_,rfl,λh=>by cases h⟩) λc=>wab (λc=>hnx _ ⟨_,rfl,λh=>by cases h⟩) λc2=>?_);refine Tt.bind (Tt.call (z3h _) waa) λr _=>wab (λc=>hnx _ ⟨_,rfl,λh=>by cases h⟩) λc3=>?_;refine Tt.bind (Tt.call (z2a _) waa) λr _=>hnx _ ⟨_,rfl,λ_=>?_⟩;have c:=wd4 c;have c2:=wd4 c2;omega
 subst hs;dsimp only;refine wab (λ_=>Tt.pure λh=>by cases h) λc=>?_;obtain⟨e1,e2⟩:=hb c;refine Tt.J (λb=>b=true->DRt d) (λnx hnx=>?_) λs hs=>Tt.pure hs;refine Tt.loop (λm s=>∃k:Nat,k<=d.2.2.1.length/\m=d.2.2.1.length-k/\s=((d.2.2.1.length:Int),true,d.2.2.1,(d.2.2.1.length:Int),(k:Int),d)/\∀x∈d.2.2.1.take k,(x.length:Int)=d.2.1/\∀y∈x, -1<=y/\y<(d.2.2.1.length:Int)) d.2.2.1.length waa ⟨0,by omega,by omega,rfl,by simp⟩ λm s⟨k,hk,hm,hs,hi⟩ ny hny=>?_;subst hs;dsimp only;refine wab (λc=>?_) (λc=>hnx.fst _ λ_=>?_)
 ·have c:=wd3 c;have hlt:k<d.2.2.1.length:=by omega
  have hrl:=hd.r _ (wec hlt);refine wac _ (atN hlt) ?_;refine Tt.J (λs=>∃b,s=((d.2.2.1.length:Int),true,d.2.2.1[k],d.2.2.1,(d.2.2.1.length:Int),(k:Int),b,d)/\(b=false->((d.2.2.1[k]).length:Int)=d.2.1)) (λnz hnz=>?_) λs⟨b,hs,hb⟩=>?_
  ·refine wad (wab (λc=>hnz _ ⟨_,rfl,λh=>by cases h⟩) λc=>?_);have c:=wd4 c;exact wac _ (atN (by omega)) (hnz _ ⟨_,rfl,λ_=>by omega⟩)
  ·subst hs;dsimp only;refine wab (λ_=>hnx.fst _ λh=>by cases h) λc=>?_;have hrw:=hb c;refine Tt.loop (λm s=>∃j:Nat,j<=(d.2.2.1[k]).length/\m=(d.2.2.1[k]).length-j/\s=((d.2.2.1.length:Int),true,d.2.2.1,(d.2.2.1.length:Int),(k:Int),d.2.2.1[k],((d.2.2.1[k]).length:Int),(j:Int),d)/\∀y∈(d.2.2.1[k]).take j, -1<=y/\y<(d.2.2.1.length:Int)) (d.2.2.1[k]).length waa.fst ⟨0,by omega,by omega,rfl,by simp⟩ λm s⟨j,hj,hm,hs,hij⟩ nz hnz=>?_;subst hs;dsimp only;refine wab (λc=>?_) (λc=>?_)
   ·have c:=wd3 c;have hlt2:j<(d.2.2.1[k]).length:=by omega
    refine wac _ (atN hlt2) ?_;refine Tt.J (λs=>∃b,s=((d.2.2.1.length:Int),true,d.2.2.1,(d.2.2.1.length:Int),(k:Int),d.2.2.1[k],((d.2.2.1[k]).length:Int),(j:Int),b,d)/\(b=false -> -1<=(d.2.2.1[k])[j]/\(d.2.2.1[k])[j]<(d.2.2.1.length:Int))) (λnu hnu=>?_) λs⟨b,hs,hb⟩=>?_
    ·refine wad (wab (λc=>hnu _ ⟨_,rfl,λh=>by cases h⟩) λc=>hnu _ ⟨_,rfl,λh=>?_⟩);have c:=wd4 c;have c2:=wd4 h;omega
    ·subst hs;dsimp only;refine wab (λ_=>hnx.fst.fst _ λh=>by cases h) λc=>wad ?_;rw[wI (by omega) (by omega)];exact hnz ((d.2.2.1[k]).length-(j+1)) _ (by omega) ⟨j+1,by omega,rfl,rfl,zvi hlt2 hij (hb c)⟩
   ·have c:=wd4 c;have hje:j=(d.2.2.1[k]).length:=by omega
    rw[hje,we1]at hij;refine wad ?_;rw[wI (by omega) (by omega)];exact(hny (d.2.2.1.length-(k+1)) _ (by omega) ⟨k+1,by omega,rfl,rfl,zvi hlt hi ⟨hrw,hij⟩⟩).fst
 ·have c:=wd4 c;have hke:k=d.2.2.1.length:=by omega
  rw[hke,we1]at hi;exact⟨e1,e2,λx hx=>(hi x hx).1,λx hx=>(hi x hx).2⟩
end Go.Proofs.YtdllbdlnmjngcaaGreat.T
namespace Go.Proofs.YtdllbdlnmjngcaaGreat
set_option maxRecDepth 100000
set_option maxHeartbeats 8000000
set_option linter.unusedVariables false
set_option linter.unusedSimpArgs false
open Go Go.RowKit L
structure MOk(d:qd):Prop where
 n0:0<d.jw.length
 lab:d.Ja.length=d.jw.length
 w:0<=d.zbl/\d.zbl<=256
 row:∀i:Int,0<=i->i<d.jw.length->((at' d.jw i).length:Int)=d.zbl
 nx:∀i c:Int,0<=i->i<d.jw.length->0<=c->c<d.zbl -> -1<=at' (at' d.jw i) c/\at' (at' d.jw i) c<d.jw.length
theorem zp1(d:qd)(hd:T.DSz (zue d)):Tot (Yl d) (λb=>b=true->MOk d):=by
 obtain⟨r,⟨N,h1⟩,h2⟩:=T.dRight_tot _ hd;refine⟨r,N,h1,λhr=>?_⟩;have h:=h2 hr;refine⟨h.n0,h.lab,hd.w,λi h0 hi=>h.row _ (zgu h0 hi),λi c h0 hi hc hc2=>?_⟩;have hr:=h.row _ (zgu h0 hi);exact h.nx _ (zgu h0 hi) _ (zgu hc (by show c<((at' d.jw i).length:Int);rw[show((at' d.jw i).length:Int)=d.zbl from hr];exact hc2))
def nxt(d:qd)(i:Nat)(c:Int):Int:=at' (at' d.jw i) c
def dE(d:qd)(i j:Nat):Prop:=i<d.jw.length/\∃c:Int,0<=c/\c<d.zbl/\nxt d i c=j
def lblI(d:qd)(i:Nat):Int:=at' d.Ja i
theorem zl2{α:Type}[Inhabited α]{l:List α}{k:Nat}(h:k<l.length)(p:α->Bool):(l.take (k+1)).filter p=if p (at' l (k:Int))then(l.take k).filter p++[at' l (k:Int)]else(l.take k).filter p:=by
 rw[wel h,ziw h,List.filter_append];by_cases hp:p l[k]<;>simp[hp]
theorem zv2(d:qd)(hm:MOk d)(i:Nat)(hi:i<d.jw.length):Tot (Zf d i) (· = (at' d.jw i).filter λx=>decide (0<=x)):=by
 unfold Zf;have hw:=hm.w;have hr:=hm.row i (by omega) (by omega)
 repeat (first|with_reducible (refine waw ?_)|with_reducible (refine wat ?_)|(refine wau ?_ ?_;focus (first|with_reducible rfl|(simp (disch:=omega) only [vw,vu,bl_];done)))|(refine wav ?_ ?_;focus (first|with_reducible rfl|(simp (disch:=omega) only [vw,vu,bl_];done)))|with_reducible (refine was ?_)|((first|refine wal ?_ ?_|refine wan ?_ ?_|refine wam ?_ ?_);focus (first|omega|(simp;done)|(simp;omega))))
 refine wa7 (· = (at' d.jw i).filter λx=>decide (0<=x)) ?_ λa ha=>Tot.pure ha;refine wbl (λs=>s.1) (at' d.jw i).length (λk(s:Int×List Int)=>s.1=(k:Int)/\s.2=((at' d.jw i).take k).filter λx=>decide (0<=x)) (λk s h=>h.1) ?_ ?_ ⟨rfl,by simp⟩
 ·rintro k ⟨_,l⟩ hk ⟨rfl,h⟩;simp only at h;have hl:l.length<=k:=by rw[h];exact wfn (wgs ..) (by simp;omega)
  have hs:=zl2 hk (λx=>decide (0<=x));rw[<- h]at hs
  repeat (first|with_reducible (refine waw ?_)|with_reducible (refine wat ?_)|(refine wau ?_ ?_;focus (first|with_reducible rfl|(simp (disch:=omega) only [vw,vu,bl_];done)))|(refine wav ?_ ?_;focus (first|with_reducible rfl|(simp (disch:=omega) only [vw,vu,bl_];done)))|with_reducible (refine was ?_)|((first|refine wal ?_ ?_|refine wan ?_ ?_|refine wam ?_ ?_);focus (first|omega|(simp;done)|(simp;omega))))
  refine Tot.cond (λhb=>?_) λhb=>?_
  ·repeat (first|with_reducible (refine waw ?_)|with_reducible (refine wat ?_)|(refine wau ?_ ?_;focus (first|with_reducible rfl|(simp (disch:=omega) only [vw,vu,bl_];done)))|(refine wav ?_ ?_;focus (first|with_reducible rfl|(simp (disch:=omega) only [vw,vu,bl_];done)))|with_reducible (refine was ?_)|((first|refine wal ?_ ?_|refine wan ?_ ?_|refine wam ?_ ?_);focus (first|omega|(simp;done)|(simp;omega))))
   rw[hb,if_pos rfl]at hs;exact Tot.pure ⟨zcu (by omega),hs.symm⟩
  ·rw[hb]at hs;exact Tot.pure ⟨zcu (by omega),hs.symm⟩
 ·rintro⟨_,l⟩ ⟨rfl,h⟩
  repeat (first|with_reducible (refine waw ?_)|with_reducible (refine wat ?_)|(refine wau ?_ ?_;focus (first|with_reducible rfl|(simp (disch:=omega) only [vw,vu,bl_];done)))|(refine wav ?_ ?_;focus (first|with_reducible rfl|(simp (disch:=omega) only [vw,vu,bl_];done)))|with_reducible (refine was ?_)|((first|refine wal ?_ ?_|refine wan ?_ ?_|refine wam ?_ ?_);focus (first|omega|(simp;done)|(simp;omega))))
  rw[we1]at h;exact Tot.pure h
theorem z4y{d:qd}(hm:MOk d){i:Nat}(hi:i<d.jw.length){x:Int}:x∈at' d.jw i↔∃c:Int,0<=c/\c<d.zbl/\nxt d i c=x:=by
 have hr:=hm.row i (by omega) (by omega);constructor
 ·intro h;obtain⟨c,hc,rfl⟩:=wgb h;exact⟨c,by omega,by omega,by unfold nxt;rw[ziw hc]⟩
 ·rintro⟨c,h0,h1,rfl⟩;exact zgu h0 (by omega)
theorem zzi(d:qd)(hm:MOk d)(i:Nat)(hi:i<d.jw.length):((at' d.jw i).filter λx=>decide (0<=x)).length<=256/\(∀x∈(at' d.jw i).filter λx=>decide (0<=x),0<=x/\x<d.jw.length)/\∀j:Nat,(j:Int)∈((at' d.jw i).filter λx=>decide (0<=x))↔dE d i j:=by
 have hw:=hm.w;have hr:=hm.row i (by omega) (by omega);refine⟨wfn (wgs ..) (by omega),λx hx=>?_,λj=>?_⟩
 ·obtain⟨h1,h2⟩:=whe.1 hx;obtain⟨c,h3,h4,rfl⟩:=(z4y hm hi).1 h1;have:=hm.nx i c (by omega) (by omega) h3 h4;simp at h2;exact⟨h2,this.2⟩
 ·rw[whe,z4y hm hi];unfold dE;simp[hi]
theorem zox(d:qd)(hd:T.DSz (zue d))(b:Bool)(hb:Tot (Yl d) (· = b)):Tot (Qs d) (λr=>b=false/\r=[]\/b=true/\MOk d/\r=zqv d.jw.length (dE d) (λi=>i=0)):=by
 have hn:d.jw.length<=300:=hd.n;unfold Qs;obtain⟨b',N',hb1,hb2⟩:=zp1 d hd;have hR:b=true->MOk d:=by
  obtain⟨c,N,h1,h2⟩:=hb;have e:=(h1 (max N N') (by omega)).symm.trans (hb1 (max N N') (by omega));have e:=wfy e;intro h;exact hb2 (e▸h2▸h)
 refine wbm hb ?_;cases b
 ·repeat (first|with_reducible (refine waw ?_)|with_reducible (refine wat ?_)|(refine wau ?_ ?_;focus (first|with_reducible rfl|(simp (disch:=omega) only [vw,vu,bl_];done)))|(refine wav ?_ ?_;focus (first|with_reducible rfl|(simp (disch:=omega) only [vw,vu,bl_];done)))|with_reducible (refine was ?_)|((first|refine wal ?_ ?_|refine wan ?_ ?_|refine wam ?_ ?_);focus (first|omega|(simp;done)|(simp;omega))))
  exact Tot.pure (.inl ⟨rfl,rfl⟩)
 have hm:=hR rfl;have:=hm.n0
 repeat (first|with_reducible (refine waw ?_)|with_reducible (refine wat ?_)|(refine wau ?_ ?_;focus (first|with_reducible rfl|(simp (disch:=omega) only [vw,vu,bl_];done)))|(refine wav ?_ ?_;focus (first|with_reducible rfl|(simp (disch:=omega) only [vw,vu,bl_];done)))|with_reducible (refine was ?_)|((first|refine wal ?_ ?_|refine wan ?_ ?_|refine wam ?_ ?_);focus (first|omega|(simp;done)|(simp;omega))))
 refine wa7 (· = zqv d.jw.length (dE d) (λi=>i=0)) ?_ (λa ha=>Tot.pure (.inr ⟨rfl,hm,ha⟩));have h:=zrh d.jw.length [0] (λy=>Jt y d) (dE d) (by omega) (by simp) (λx hx=>by simp at hx;subst hx;omega) (λi hi=>by
  unfold Jt;refine wbm (zv2 d hm i hi) (Tot.pure ?_);obtain⟨h1,h2,h3⟩:=zzi d hm i hi;exact⟨by omega,h2,h3⟩)
 refine h.mono λa ha=>?_;rw[ha];congr 1;funext i;simp
theorem jdp{α:Type}[Inhabited α]{l:List α}{z:Int}{j:Nat}{v:α}(h0:0<=z)(h1:z<l.length):at' (l.set z.toNat v) (j:Int)=if(j:Int)=z then v else at' l (j:Int):=by
 by_cases h:(j:Int)=z
 ·rw[if_pos h,h];exact jdb h0 h1
 ·rw[if_neg h];exact at_ne h0 (by omega) (λe=>h e.symm)
theorem at_rep{α:Type}[Inhabited α]{n j:Nat}{v:α}(h:j<n):at' (List.replicate n v) (j:Int)=v:=by
 rw[ziw (by simpa using h)];simp
theorem zs8(d:qd)(hd:T.DSz (zue d))(b:Bool)(hb:Tot (Yl d) (· = b)):Tot (Za d) (λr=>b=false/\r=[]\/b=true/\r.length=d.jw.length):=by
 have hn:d.jw.length<=300:=hd.n;unfold Za;obtain⟨b',N',hb1,hb2⟩:=zp1 d hd;have hR:b=true->MOk d:=by
  obtain⟨c,N,h1,h2⟩:=hb;have e:=(h1 (max N N') (by omega)).symm.trans (hb1 (max N N') (by omega));have e:=wfy e;intro h;exact hb2 (e▸h2▸h)
 refine wbm hb ?_;cases b
 ·repeat (first|with_reducible (refine waw ?_)|with_reducible (refine wat ?_)|(refine wau ?_ ?_;focus (first|with_reducible rfl|(simp (disch:=omega) only [vw,vu,bl_];done)))|(refine wav ?_ ?_;focus (first|with_reducible rfl|(simp (disch:=omega) only [vw,vu,bl_];done)))|with_reducible (refine was ?_)|((first|refine wal ?_ ?_|refine wan ?_ ?_|refine wam ?_ ?_);focus (first|omega|(simp;done)|(simp;omega))))
  exact Tot.pure (.inl ⟨rfl,rfl⟩)
 have hm:=hR rfl;have hn0:=hm.n0;have hlab:=hm.lab;have hw:=hm.w
 repeat (first|with_reducible (refine waw ?_)|with_reducible (refine wat ?_)|(refine wau ?_ ?_;focus (first|with_reducible rfl|(simp (disch:=omega) only [vw,vu,bl_];done)))|(refine wav ?_ ?_;focus (first|with_reducible rfl|(simp (disch:=omega) only [vw,vu,bl_];done)))|with_reducible (refine was ?_)|((first|refine wal ?_ ?_|refine wan ?_ ?_|refine wam ?_ ?_);focus (first|omega|(simp;done)|(simp;omega))))
 generalize hA:List.replicate (d.jw.length:Int).toNat ([]:List Int)=A;have hA1:A.length=d.jw.length:=by rw[<- hA];simp
 have hA2:∀j:Nat,j<d.jw.length->at' A (j:Int)=[]:=λj hj=>by rw[<- hA];exact at_rep (by simpa using hj)
 refine wa7 (λ(r:List Int×List (List Int))=>r.1.length<=d.jw.length/\(∀x∈r.1,0<=x)/\(∀i:Nat,(i:Int)∈r.1↔i<d.jw.length/\0<=lblI d i)/\r.2.length=d.jw.length/\∀j:Nat,j<d.jw.length->(at' r.2 j).length<=d.jw.length*256/\(∀x∈at' r.2 j,0<=x)/\∀i:Nat,(i:Int)∈at' r.2 j↔dE d i j) ?_ ?_
 ·refine wbl (λs=>s.1) d.jw.length (λk(s:Int×List Int×List (List Int))=>s.1=(k:Int)/\s.2.1.length<=k/\(∀x∈s.2.1,0<=x)/\(∀i:Nat,(i:Int)∈s.2.1↔i<k/\0<=lblI d i)/\s.2.2.length=d.jw.length/\∀j:Nat,j<d.jw.length->(at' s.2.2 j).length<=k*256/\(∀x∈at' s.2.2 j,0<=x)/\∀i:Nat,(i:Int)∈at' s.2.2 j↔i<k/\dE d i j) (λk s h=>h.1) ?_ ?_ ⟨rfl,by simp,by simp,by simp,hA1,λj hj=>by rw[hA2 j hj];simp⟩
  ·rintro k ⟨_,lab,back⟩ hk ⟨rfl,h1,h2,h3,h4,h5⟩;simp only at h1 h2 h3 h4 h5;obtain⟨o1,o2,o3⟩:=zzi d hm k hk
   repeat (first|with_reducible (refine waw ?_)|with_reducible (refine wat ?_)|(refine wau ?_ ?_;focus (first|with_reducible rfl|(simp (disch:=omega) only [vw,vu,bl_];done)))|(refine wav ?_ ?_;focus (first|with_reducible rfl|(simp (disch:=omega) only [vw,vu,bl_];done)))|with_reducible (refine was ?_)|((first|refine wal ?_ ?_|refine wan ?_ ?_|refine wam ?_ ?_);focus (first|omega|(simp;done)|(simp;omega))))
   refine wbm (zv2 d hm k hk) ?_;generalize (at' d.jw k).filter (λx=>decide (0<=x))=on at o1 o2 o3⊢;refine wat ?_;refine wa7 (λ(b:List (List Int))=>b.length=d.jw.length/\∀j:Nat,j<d.jw.length->(at' b j).length<=(k+1)*256/\(∀x∈at' b j,0<=x)/\∀i:Nat,(i:Int)∈at' b j↔i<k+1/\dE d i j) ?_ ?_
   ·refine wbl (λs=>s.1) on.length (λc(s:Int×List (List Int))=>s.1=(c:Int)/\s.2.length=d.jw.length/\∀j:Nat,j<d.jw.length->(at' s.2 j).length<=k*256+c/\(∀x∈at' s.2 j,0<=x)/\∀i:Nat,(i:Int)∈at' s.2 j↔(i<k/\dE d i j)\/(i=k/\(j:Int)∈on.take c)) (λk s h=>h.1) ?_ ?_ ⟨rfl,h4,λj hj=>by simpa using h5 j hj⟩
    ·rintro c ⟨_,b⟩ hc ⟨rfl,g1,g2⟩;simp only at g1 g2;have hmem:=zgu (l:=on) (z:=(c:Int)) (by omega) (by omega);have hy:=o2 _ hmem;obtain⟨q,hq⟩:=wfq hy.1;have g3:=g2 q (by omega)
     repeat (first|with_reducible (refine waw ?_)|with_reducible (refine wat ?_)|(refine wau ?_ ?_;focus (first|with_reducible rfl|(simp (disch:=omega) only [vw,vu,bl_];done)))|(refine wav ?_ ?_;focus (first|with_reducible rfl|(simp (disch:=omega) only [vw,vu,bl_];done)))|with_reducible (refine was ?_)|((first|refine wal ?_ ?_|refine wan ?_ ?_|refine wam ?_ ?_);focus (first|omega|(simp;done)|(simp;omega))))
     rw[hq]at hy⊢
     repeat (first|with_reducible (refine waw ?_)|with_reducible (refine wat ?_)|(refine wau ?_ ?_;focus (first|with_reducible rfl|(simp (disch:=omega) only [vw,vu,bl_];done)))|(refine wav ?_ ?_;focus (first|with_reducible rfl|(simp (disch:=omega) only [vw,vu,bl_];done)))|with_reducible (refine was ?_)|((first|refine wal ?_ ?_|refine wan ?_ ?_|refine wam ?_ ?_);focus (first|omega|(simp;done)|(simp;omega))))
     refine Tot.pure ⟨zcu (by omega),by simp[g1],λj hj=>?_⟩;simp only;rw[jdp hy.1 (by omega)];by_cases hjq:(j:Int)=q
     ·rw[if_pos hjq];have hjq2:j=q:=by omega
      subst hjq2;refine⟨by simp;omega,λx hx=>?_,λi=>?_⟩
      ·rcases wej.1 hx with h|h
       ·exact g3.2.1 x h
       ·simp at h;omega
      ·rw[wej,g3.2.2 i,Vp hc,hq];simp only[wea];constructor
       ·rintro((h|h)|h)
        ·exact .inl h
        ·exact .inr ⟨h.1,.inl h.2⟩
        ·exact .inr ⟨by omega,.inr trivial⟩
       ·rintro(h|⟨h,h2|h2⟩)
        ·exact .inl (.inl h)
        ·exact .inl (.inr ⟨h,h2⟩)
        ·exact .inr (by omega)
     ·rw[if_neg hjq];have g4:=g2 j hj;refine⟨by omega,g4.2.1,λi=>?_⟩;rw[g4.2.2 i,Vp hc,hq];constructor
      ·rintro(h|h)
       ·exact .inl h
       ·exact .inr ⟨h.1,.inl h.2⟩
      ·rintro(h|⟨h,h2|h2⟩)
       ·exact .inl h
       ·exact .inr ⟨h,h2⟩
       ·omega
    ·rintro⟨_,b⟩ ⟨rfl,g1,g2⟩;simp only at g1 g2
     repeat (first|with_reducible (refine waw ?_)|with_reducible (refine wat ?_)|(refine wau ?_ ?_;focus (first|with_reducible rfl|(simp (disch:=omega) only [vw,vu,bl_];done)))|(refine wav ?_ ?_;focus (first|with_reducible rfl|(simp (disch:=omega) only [vw,vu,bl_];done)))|with_reducible (refine was ?_)|((first|refine wal ?_ ?_|refine wan ?_ ?_|refine wam ?_ ?_);focus (first|omega|(simp;done)|(simp;omega))))
     refine Tot.pure ⟨g1,λj hj=>?_⟩;have g3:=g2 j hj;refine⟨by omega,g3.2.1,λi=>?_⟩;rw[g3.2.2 i,we1,o3 j];constructor
     ·rintro(h|h)
      ·exact⟨by omega,h.2⟩
      ·exact⟨by omega,h.1▸h.2⟩
     ·rintro⟨h,h2⟩;by_cases hik:i=k
      ·subst hik;exact .inr ⟨rfl,h2⟩
      ·exact .inl ⟨by omega,h2⟩
   ·rintro b ⟨g1,g2⟩;refine was ?_;refine Tot.cond (λhb=>?_) λhb=>?_
    ·simp only[wed]at hb
     repeat (first|with_reducible (refine waw ?_)|with_reducible (refine wat ?_)|(refine wau ?_ ?_;focus (first|with_reducible rfl|(simp (disch:=omega) only [vw,vu,bl_];done)))|(refine wav ?_ ?_;focus (first|with_reducible rfl|(simp (disch:=omega) only [vw,vu,bl_];done)))|with_reducible (refine was ?_)|((first|refine wal ?_ ?_|refine wan ?_ ?_|refine wam ?_ ?_);focus (first|omega|(simp;done)|(simp;omega))))
     refine Tot.pure ⟨zcu (by omega),by simp;omega,?_,?_,g1,g2⟩
     ·intro x hx;rcases wej.1 hx with h|h
      ·exact h2 x h
      ·simp at h;omega
     ·intro i;simp only;rw[wej,h3 i,wea];constructor
      ·rintro(h|h)
       ·exact⟨by omega,h.2⟩
       ·have:i=k:=by omega
        subst this;exact⟨by omega,hb⟩
      ·rintro⟨h,h2⟩;by_cases hik:i=k
       ·right;omega
       ·exact .inl ⟨by omega,h2⟩
    ·simp only[decide_eq_false_iff_not]at hb;refine Tot.pure ⟨zcu (by omega),by simp only;omega,h2,?_,g1,g2⟩;intro i;simp only;rw[h3 i];constructor
     ·rintro⟨h,h2⟩;exact⟨by omega,h2⟩
     ·rintro⟨h,h2⟩;by_cases hik:i=k
      ·subst hik;exact absurd h2 hb
      ·exact⟨by omega,h2⟩
  ·rintro⟨_,lab,back⟩ ⟨rfl,h1,h2,h3,h4,h5⟩;simp only at h1 h2 h3 h4 h5
   repeat (first|with_reducible (refine waw ?_)|with_reducible (refine wat ?_)|(refine wau ?_ ?_;focus (first|with_reducible rfl|(simp (disch:=omega) only [vw,vu,bl_];done)))|(refine wav ?_ ?_;focus (first|with_reducible rfl|(simp (disch:=omega) only [vw,vu,bl_];done)))|with_reducible (refine was ?_)|((first|refine wal ?_ ?_|refine wan ?_ ?_|refine wam ?_ ?_);focus (first|omega|(simp;done)|(simp;omega))))
   refine Tot.pure ⟨h1,h2,h3,h4,λj hj=>?_⟩;have:=h5 j hj;refine⟨this.1,this.2.1,λi=>?_⟩;simp only;rw[this.2.2 i];exact⟨λh=>h.2,λh=>⟨h.1,h⟩⟩
 ·rintro⟨lab,back⟩ ⟨h1,h2,h3,h4,h5⟩;simp only at h1 h2 h3 h4 h5;refine wa7 (· = zqv d.jw.length (λi j=>dE d j i) (λi=>i<d.jw.length/\0<=lblI d i)) ?_ (λa ha=>Tot.pure (.inr ⟨rfl,by rw[ha,zpv]⟩));have h:=zrh d.jw.length lab (λy=>Qo y back) (λi j=>dE d j i) (by omega) (by omega) (λx hx=>by
   have:=h2 x hx;obtain⟨q,rfl⟩:=wfq this;exact⟨this,by have:=((h3 q).1 hx).1;omega⟩) (λi hi=>by
   unfold Qo
   repeat (first|with_reducible (refine waw ?_)|with_reducible (refine wat ?_)|(refine wau ?_ ?_;focus (first|with_reducible rfl|(simp (disch:=omega) only [vw,vu,bl_];done)))|(refine wav ?_ ?_;focus (first|with_reducible rfl|(simp (disch:=omega) only [vw,vu,bl_];done)))|with_reducible (refine was ?_)|((first|refine wal ?_ ?_|refine wan ?_ ?_|refine wam ?_ ?_);focus (first|omega|(simp;done)|(simp;omega))))
   obtain⟨k1,k2,k3⟩:=h5 i hi;refine Tot.pure ⟨by omega,λx hx=>⟨k2 x hx,?_⟩,λj=>k3 j⟩;obtain⟨q,rfl⟩:=wfq (k2 x hx);have:=((k3 q).1 hx).1;omega)
  refine h.mono λa ha=>?_;rw[ha];congr 1;funext i;rw[h3 i]
end Go.Proofs.YtdllbdlnmjngcaaGreat
namespace Go.Proofs.YtdllbdlnmjngcaaGreat.T
set_option maxRecDepth 100000
set_option maxHeartbeats 8000000
set_option linter.unusedVariables false
set_option linter.unusedSimpArgs false
open Go Go.RowKit L
set_option maxRecDepth 100000
theorem jdi(nn:Nat):y0 (nn+300)=some true:=by kernel_rfl
theorem zy8(d:D_api_Dfa)(hd:DSz d){b:Bool}(hb:Tn (λnn=>p_dfa_Right nn d) (· = b)):Tn (λnn=>Qk nn d) (λr=>b=false/\r=[]\/b=true/\MOk (zhc d)/\r=zqv d.2.2.1.length (dE (zhc d)) (λi=>i=0)):=by
 obtain⟨r,⟨N,h1⟩,h2⟩:=hb;obtain⟨r,N,h1,h2⟩:=zox (zhc d) hd b ⟨r,N,h1,h2⟩;exact⟨r,⟨N,h1⟩,h2⟩
theorem zji(d:D_api_Dfa)(hd:DSz d){b:Bool}(hb:Tn (λnn=>p_dfa_Right nn d) (· = b)):Tn (λnn=>Qk nn d) (λr=>b=false/\r=[]\/b=true/\r.length=d.2.2.1.length):=
 Tt.mono (zy8 d hd hb) λr h=>h.imp id λh=>⟨h.1,by rw[h.2.2,zpv]⟩
theorem z17(d:D_api_Dfa)(hd:DSz d){b:Bool}(hb:Tn (λnn=>p_dfa_Right nn d) (· = b)):Tn (λnn=>ze7 nn d) (λr=>b=false/\r=[]\/b=true/\r.length=d.2.2.1.length):=by
 obtain⟨r,⟨N,h1⟩,h2⟩:=hb;obtain⟨r,N,h1,h2⟩:=zs8 (zhc d) hd b ⟨r,N,h1,h2⟩;exact⟨r,⟨N,h1⟩,h2⟩
theorem zz5(d:D_api_Dfa)(hd:DSz d):Tn (λnn=>Ji nn d) (λr=>r.length<=300):=by
 have s1:=hd.n;obtain⟨b,hb,hq⟩:=(dRight_tot d hd).val;unfold Ji;refine Tt.bind (Tt.call (zji d hd hb) waa) λr hr=>?_;have hr2:r.length<=d.2.2.1.length/\(0<r.length->d.2.2.2.1.length=d.2.2.1.length):=by
  rcases hr with⟨_,rfl⟩|⟨h1,h2⟩
  ·simp
  ·exact⟨by omega,λ_=>(hq h1).lab⟩
 refine Tt.loop (λm s=>∃(k:Nat)(l:List Int),k<=r.length/\m=r.length-k/\s=(r,(r.length:Int),(k:Int),d,l)/\l.length<=k) r.length waa ⟨0,_,by omega,by omega,rfl,by simp⟩ λm s⟨k,l,hk,hm,hs,hl⟩ nx hnx=>?_;subst hs;dsimp only;refine wab (λc=>?_) (λc=>?_)
 ·have c:=wd3 c;have hlt:k<r.length:=by omega
  have hlab:=hr2.2 (by omega);have hll:k<d.2.2.2.1.length:=by omega
  refine Tt.J (λs=>∃l,s=(r,(r.length:Int),(k:Int),d,l)/\l.length<=k+1) (λny hny=>?_) λs⟨l,hs,hl⟩=>?_
  ·refine wac _ (atN hlt) ?_;refine Tt.J (λs=>∃b,s=((k:Int),r,(r.length:Int),(k:Int),b,d,l)) (λnz hnz=>?_) λs⟨b,hs⟩=>?_
   ·exact wab (λc=>wac _ (atN hll) (hnz _ ⟨_,rfl⟩)) λc=>hnz _ ⟨_,rfl⟩
   ·subst hs;dsimp only;refine wab (λc=>wac _ (atN hll) (wac _ (Jw (by simp;omega) (by omega)) (hny _ ⟨_,rfl,by simp;omega⟩))) λc=>hny _ ⟨_,rfl,by omega⟩
  ·subst hs;refine wad ?_;dsimp only;rw[wI (by omega) (by omega)];exact hnx (r.length-(k+1)) _ (by omega) ⟨k+1,_,by omega,rfl,rfl,hl⟩
 ·have hsl:(Zd l).length=l.length:=zka _;refine wac _ (sm7 (by omega)) (wac _ (sm7 (by omega)) (Tt.pure ?_));have:=zn3 (Zd l);omega
theorem z9l(d:D_api_Dfa)(hd:DSz d):Tn (λnn=>zcx nn d) (λ_=>True):=by
 have s1:=hd.n;have s2:=hd.w;obtain⟨b,hb,hq⟩:=(dRight_tot d hd).val;unfold zcx;refine Tt.bind (Tt.call hb waa) λb' hb'=>?_;subst hb';refine wab (λ_=>Tt.pure trivial) λc=>?_;have hbt:b'=true:=by simpa using c
 subst hbt;have hR:=hq rfl;refine Tt.bind (Tt.call (zji d hd hb) waa) λre hre=>?_;refine Tt.bind (Tt.call (z17 d hd hb) waa) λal hal=>?_;have hre:re.length=d.2.2.1.length:=by rcases hre with⟨h,_⟩|⟨_,h⟩;cases h;exact h
 have hal:al.length=d.2.2.1.length:=by rcases hal with⟨h,_⟩|⟨_,h⟩;cases h;exact h
 refine wad (wac _ (mkN (by omega) (by omega)) ?_);simp only[wd6];generalize (⟨List.replicate 256 0,wd6⟩:Arr 256 Int)=Z;refine Tt.loop (λm s=>∃(k:Nat)(nu ke:List Int),k<=d.2.2.1.length/\m=d.2.2.1.length-k/\s=(re,al,(d.2.2.1.length:Int),(k:Int),d,Z,0,nu,ke,[],[])/\nu.length=d.2.2.1.length/\ke.length<=k/\∀x∈ke,∃j:Nat,j<d.2.2.1.length/\x=(j:Int)) d.2.2.1.length waa ⟨0,_,_,by omega,by omega,rfl,by simp,by simp,by simp⟩ λm s⟨k,nu,ke,hk,hm,hs,h1,h2,h3⟩ nx hnx=>?_;subst hs;dsimp only;refine wab (λc=>?_) (λc=>?_)
 ·have c:=wd3 c;have hlt:k<d.2.2.1.length:=by omega
  refine Tt.J (λs=>∃(nu ke:List Int),s=(re,al,(d.2.2.1.length:Int),(k:Int),d,Z,0,nu,ke,[],[])/\nu.length=d.2.2.1.length/\ke.length<=k+1/\∀x∈ke,∃j:Nat,j<d.2.2.1.length/\x=(j:Int)) (λny hny=>?_) λs⟨nu,ke,hs,h1,h2,h3⟩=>?_
  ·refine wac _ (ye (by omega)) (wac _ (zbz _ (by omega)) ?_);have hnl:(nu.set k (-1)).length=d.2.2.1.length:=by simp[h1]
   generalize nu.set k (-1)=nu at hnl⊢;refine Tt.J (λs=>∃b,s=(re,al,(k:Int),(d.2.2.1.length:Int),(k:Int),b,d,Z,0,nu,ke,[],[])) (λnz hnz=>?_) λs⟨b,hs⟩=>?_
   ·refine wad (wab (λ_=>hnz _ ⟨_,rfl⟩) λ_=>wac _ (atN (by omega)) (wab (λ_=>wac _ (atN (by omega)) (hnz _ ⟨_,rfl⟩)) λ_=>hnz _ ⟨_,rfl⟩))
   ·subst hs;dsimp only;refine wab (λ_=>?_) λ_=>hny _ ⟨_,_,rfl,hnl,by omega,h3⟩;refine wac _ (ye (by omega)) (wac _ (zbz _ (by omega)) (wac _ (Jw (by simp;omega) (by omega)) (hny _ ⟨_,_,rfl,by simp[hnl],by simp;omega,λx hx=>?_⟩)));rcases wej.1 hx with h|h
    ·exact h3 x h
    ·exact⟨k,hlt,wea.1 h⟩
  ·subst hs;refine wad ?_;dsimp only;rw[wI (by omega) (by omega)];exact hnx (d.2.2.1.length-(k+1)) _ (by omega) ⟨k+1,_,_,by omega,rfl,rfl,h1,h2,h3⟩
 obtain⟨W,hW⟩:∃W:Nat,d.2.1=(W:Int):=⟨d.2.1.toNat,by omega⟩
 refine Tt.loop (λm s=>∃(i:Nat)(on:List (List Int))(ol:List Int),i<=ke.length/\m=ke.length-i/\s=((ke.length:Int),(i:Int),d,Z,0,nu,d.1,d.2.1,ke,[],[],on,ol)/\on.length<=i/\ol.length<=i) ke.length waa.fst ⟨0,_,_,by omega,by omega,rfl,by simp,by simp⟩ λm s⟨i,on,ol,hi,hm,hs,h4,h5⟩ ny hny=>?_;subst hs;dsimp only;refine wab (λc=>?_) (λc=>Tt.pure trivial);have c:=wd3 c;have hlt:i<ke.length:=by omega
 obtain⟨j,hj,ej⟩:=h3 _ (wec hlt);have hrow:=hR.row _ (wec hj);have hrnx:=hR.nx _ (wec hj);have hlab:=hR.lab;refine wac _ (ye hlt) (wac _ (atN hlt) ?_);rw[ej,hW];refine wac _ (mkN (n:=W) (by omega) (by omega)) (wac _ (atN hj) ?_);generalize hro:d.2.2.1[j]=row at hrow hrnx;have hcp:jbl (List.replicate W (0:Int)) row=some (((min (List.replicate W (0:Int)).length row.length:Nat):Int),row):=by
  unfold jbl;congr 2;rw[wd6,wfs (by omega),List.drop_eq_nil_of_le (by simp;omega),weq]
 refine wac _ hcp ?_;refine Tt.loop (λm s=>∃(q:Nat)(row':List Int),q<=row.length/\m=row.length-q/\s=((j:Int),(ke.length:Int),(i:Int),(row.length:Int),(q:Int),d,Z,0,nu,d.1,(W:Int),row',ke,[],[],on,ol)/\row'.length=row.length/\∀q',q<=q'->row'[q']?=row[q']?) row.length waa.fst.fst ⟨0,_,by omega,by omega,rfl,rfl,λ_ _=>rfl⟩ λm s⟨q,row',hq',hm,hs,h6,h7⟩ nz hnz=>?_;subst hs;dsimp only;refine wab (λc=>?_) (λc=>?_)
 ·have c:=wd3 c;have hql:q<row'.length:=by omega
  have hqr:q<row.length:=by omega
  have hge:row'[q]=row[q]:=by
   have:=h7 q (weh _);rw[wd2 hql,wd2 hqr]at this;exact wfy this
  have hrg:=hrnx _ (wec hqr);refine Tt.J (λs=>∃row',s=((j:Int),(ke.length:Int),(i:Int),(row.length:Int),(q:Int),d,Z,0,nu,d.1,(W:Int),row',ke,[],[],on,ol)/\row'.length=row.length/\∀q',q+1<=q'->row'[q']?=row[q']?) (λnu' hnu'=>?_) λs⟨row',hs,h6,h7⟩=>?_
  ·refine wac _ (ye hql) (wac _ (atN hql) ?_);rw[hge];refine wab (λc2=>?_) λc2=>hnu' _ ⟨_,rfl,h6,λq' h=>h7 q' (by omega)⟩;have c2:=wd3 c2;obtain⟨t,et⟩:∃t:Nat,row[q]=(t:Int):=⟨(row[q]).toNat,by omega⟩
   rw[et]at hrg⊢;refine wac _ (ye (by omega)) (wac _ (atN (by omega)) (wac _ (ye hql) (wac _ (zbz _ hql) (hnu' _ ⟨_,rfl,by simp[h6],λq' h=>?_⟩))));rw[List.getElem?_set_ne (by omega)];exact h7 q' (by omega)
  ·subst hs;refine wad ?_;dsimp only;rw[wI (by omega) (by omega)];exact hnz (row.length-(q+1)) _ (by omega) ⟨q+1,_,by omega,rfl,rfl,h6,h7⟩
 ·refine wac _ (Jw (by simp;omega) (by omega)) (wac _ (atN (by omega)) (wac _ (Jw (by simp;omega) (by omega)) (wad ?_)));rw[wI (by omega) (by omega)];rw[hW]at hny;exact(hny (ke.length-(i+1)) _ (by omega) ⟨i+1,_,_,by omega,rfl,rfl,by simp;omega,by simp;omega⟩).fst
theorem zgh:Tn (λnn=>y0 nn) (λb=>b=true):=⟨true,⟨300,λn hn=>by
 obtain⟨k,rfl⟩:∃k,n=k+300:=⟨n-300,by omega⟩
 exact jdi k⟩,rfl⟩
theorem zvc(g:ja)(hg:Qv g)(y:D_api_Dfa×List (List Int)×Unit):Tn (λnn=>Vd nn (some (g,y))) (λd=>d=gFd g):=by
 unfold Vd;refine wad ?_;refine Tt.bind (Tt.call (z4j g hg) waa) λr hr=>Tt.pure hr
open Classical in
noncomputable def zcq(l:List ji):Bool:=if h:∃r,Tn (λnn=>vd nn l) (λx=>x=r)then h.choose else false
theorem zzy(l:List ji)(hl:l.length<=1000000):Tn (λnn=>vd nn l) (λx=>x=zcq l):=by
 obtain⟨r,h,_⟩:=(zyh l hl).val;have h1:∃r,Tn (λnn=>vd nn l) (λx=>x=r):=⟨r,h⟩
 unfold zcq;rw[dif_pos h1];exact h1.choose_spec
def fs2(kd mo:Int):List Bool->Nat->jc
 |[],_=>(0,0,0,())
 |b::l,i=>match b with
  |true=>fs2 kd mo l (i+1)
  |false=>(kd,i,mo,())
theorem z6d{g:ja}(hg:Qv g)(hok:GOk g)(y:D_api_Dfa×List (List Int)×Unit):Tn (λnn=>Jp nn (some (g,y))) (λd=>d=fs2 10 0 (g.1.map λx=>!zcq x.2.1) 0):=by
 have ht:=hok.t;unfold Jp;refine Tt.J (λd=>d=fs2 10 0 (g.1.map λx=>!zcq x.2.1) 0) (λnx hnx=>?_) (λs hs=>Tt.pure hs);refine wad ?_;refine Tt.loop (λm s=>∃k:Nat,k<=g.1.length/\m=g.1.length-k/\s=(10,0,(g.1.length:Int),(k:Int),some (g,y),(0,0,0,()))/\fs2 10 0 (g.1.map λx=>!zcq x.2.1) 0=fs2 10 0 ((g.1.drop k).map λx=>!zcq x.2.1) k) g.1.length waa ⟨0,by omega,by omega,rfl,rfl⟩ λm s⟨k,hk,hm,hs,he⟩ ny hny=>?_;subst hs;dsimp only;refine wab (λc=>?_) (λc=>hnx.fst _ ?_)
 ·have c:=wd3 c;have hlt:k<g.1.length:=by omega
  rw[we7 hlt,wen]at he;refine wad (wac _ (atN hlt) ?_);refine Tt.bind (Tt.call (zzy _ (hg.tn _ (wec hlt))) waa.fst) λr hr=>?_;subst hr;refine wab (λcb=>hnx.fst _ ?_) λcb=>wad ?_
  ·have cb:zcq g.1[k].2.1=true:=by simpa using cb
   rw[he,cb];rfl
  ·have cb:zcq g.1[k].2.1=false:=by simpa using cb
   rw[wI (by omega) (by omega)];exact hny (g.1.length-(k+1)) _ (by omega) ⟨k+1,by omega,rfl,by simp,by rw[he,cb];rfl⟩
 ·have c:=wd4 c;have:k=g.1.length:=by omega
  subst this;rw[he,wf2];rfl
theorem z5y(l:List Int)(x:Int)(hl:l.length<=1000000):Tn (λnn=>yu nn l x) (λr=>0<=r↔x∈l):=by
 unfold yu;refine Tt.loop (λm s=>∃(k:Nat),k<=l.length/\m=l.length-k/\s=(l,x,(l.length:Int),(k:Int))/\(x∈l↔x∈l.drop k)) l.length waa ⟨0,by omega,by omega,rfl,Iff.rfl⟩ λm s⟨k,hk,hm,hs,he⟩ nx hnx=>?_;subst hs;dsimp only;refine wab (λc=>?_) (λc=>Tt.pure ?_)
 ·have c:=wd3 c;have hlt:k<l.length:=by omega
  rw[we7 hlt,wep]at he;refine wac _ (atN hlt) (wab (λcb=>Tt.pure ?_) λcb=>wad ?_)
  ·have cb:=wd3 cb;exact⟨λ_=>he.2 (.inl cb),λ_=>by omega⟩
  ·have cb:=wd4 cb;rw[wI (by omega) (by omega)];exact hnx (l.length-(k+1)) _ (by omega) ⟨k+1,by omega,rfl,rfl,he.trans (or_iff_right cb)⟩
 ·have c:=wd4 c;have:k=l.length:=by omega
  subst this;rw[he,wf2];simp
theorem zwa(l:List Int)(x:Int)(hl:l.length<=1000000):Tn (λnn=>ya nn l x) (λr=>r=decide (x∈l)):=by
 unfold ya;refine Tt.bind (Tt.call (z5y l x hl) waa) λr hr=>Tt.pure ?_;by_cases h:x∈l
 ·simp[h,hr.2 h]
 ·have:¬0<=r:=λh2=>h (hr.1 h2);simp[h];omega
theorem z65{g:ja}(hg:g.1.length<=1000000)(d:D_api_Dfa)(t:List (List Int)){lt:List Int}(hl:lt.length<=1000000)(hT:Tn (λnn=>Ji nn d) (λr=>r=lt)):Tn (λnn=>zk nn (some (g,d,t,()))) (λd=>d=fs2 13 1 ((List.range g.1.length).map λ(i:Nat)=>decide ((i:Int)∈lt)) 0):=by
 unfold zk;refine wad (Tt.bind (Tt.call hT waa) λr hr=>?_);subst hr;obtain⟨L,hL⟩:∃L,((List.range g.1.length).map λ(i:Nat)=>decide ((i:Int)∈r))=L:=⟨_,rfl⟩
 have hLl:L.length=g.1.length:=by rw[<- hL];simp
 rw[hL];refine Tt.J (λd=>d=fs2 13 1 L 0) (λnx hnx=>wad ?_) λs hs=>Tt.pure hs;refine Tt.loop (λm s=>∃k:Nat,k<=g.1.length/\m=g.1.length-k/\s=(13,1,(g.1.length:Int),(k:Int),r,(0,0,0,()))/\fs2 13 1 L 0=fs2 13 1 (L.drop k) k) g.1.length waa ⟨0,by omega,by omega,rfl,rfl⟩ λm s⟨k,hk,hm,hs,he⟩ ny hny=>?_;subst hs;dsimp only;refine wab (λc=>?_) (λc=>hnx.fst _ ?_)
 ·have c:=wd3 c;have hlt:k<L.length:=by omega
  have hLk:L[k]=decide ((k:Int)∈r):=by subst hL;simp
  rw[we7 hlt,hLk]at he;refine Tt.bind (Tt.call (zwa r _ hl) waa.fst) λb hb=>?_;subst hb;refine wab (λcb=>hnx.fst _ ?_) λcb=>wad ?_
  ·have cb:decide ((k:Int)∈r)=false:=by simpa using cb
   rw[he,cb];rfl
  ·have cb:decide ((k:Int)∈r)=true:=by simpa using cb
   rw[wI (by omega) (by omega)];exact hny (g.1.length-(k+1)) _ (by omega) ⟨k+1,by omega,rfl,by simp,by rw[he,cb];rfl⟩
 ·have c:=wd4 c;have:k=L.length:=by omega
  subst this;rw[he,wf2];rfl
theorem zvm:∀{L:List jc},(jn L).1=0->jn L=zd
 |[],_=>rfl
 |d::l,h=>by
  unfold jn at h⊢;by_cases c:d.1=0
  ·rw[if_pos c]at h⊢;exact zvm h
  ·rw[if_neg c]at h;exact absurd h c
theorem jcm{kd mo:Int}(hk:kd≠0):∀{l:List Bool}{i:Nat},(fs2 kd mo l i).1=0->fs2 kd mo l i=zd
 |[],_,_=>rfl
 |true::l,i,h=>jcm hk (l:=l) (i:=i+1) h
 |false::l,i,h=>absurd h hk
def zin(nt:Nat)(e:Int)(lt:List Int):jc:=if e=0 then fs2 13 1 ((List.range nt).map λ(i:Nat)=>decide ((i:Int)∈lt)) 0 else(16,0,0,())
theorem zi9(l:List Int)(x:Int)(hl:l.length<=1000000):Tn (λnn=>Yh nn l x) (λr=>r=decide (x∈l)):=by
 unfold Yh;refine Tt.loop (λm s=>∃(k:Nat),k<=l.length/\m=l.length-k/\s=(l,x,(k:Int))/\(x∈l↔x∈l.drop k)) l.length waa ⟨0,by omega,by omega,rfl,Iff.rfl⟩ λm s⟨k,hk,hm,hs,he⟩ nx hnx=>?_;subst hs;dsimp only;refine wab (λc=>?_) (λc=>Tt.pure ?_)
 ·have c:=wd3 c;have hlt:k<l.length:=by omega
  rw[we7 hlt,wep]at he;refine wac _ (atN hlt) (wab (λcb=>Tt.pure ?_) λcb=>wad ?_)
  ·have cb:=wd3 cb;exact(wfb (he.2 (.inl cb.symm))).symm
  ·have cb:=wd4 cb;rw[wI (by omega) (by omega)];exact hnx (l.length-(k+1)) _ (by omega) ⟨k+1,by omega,rfl,rfl,he.trans (or_iff_right λh=>cb h.symm)⟩
 ·have c:=wd4 c;have:k=l.length:=by omega
  subst this;rw[wf2]at he;exact(wf5 λh=>by cases he.1 h).symm
def b8(x:Int)(i:Nat):Int:=wr .u8 ((wr .u64 x).fdiv (2 ^ (min (56-8*(i:Int)).toNat 64)))
end Go.Proofs.YtdllbdlnmjngcaaGreat.T
namespace Go.Proofs.YtdllbdlnmjngcaaGreat
set_option maxRecDepth 100000
set_option maxHeartbeats 8000000
set_option linter.unusedVariables false
set_option linter.unusedSimpArgs false
inductive E where
 |set (s0 s1 s2 s3:Int)
 |empty
 |cat (a b:E)
 |alt (a b:E)
 |star (a:E)
 |plus (a:E)
 |opt (a:E)
def yy(k:Int):Rx:=⟨k,0,0,0,0⟩
def post:E->List Rx
 |.set s0 s1 s2 s3=>[⟨1,s0,s1,s2,s3⟩]
 |.empty=>[yy 2]
 |.cat a b=>post a++(post b++[yy 3])
 |.alt a b=>post a++(post b++[yy 4])
 |.star a=>post a++[yy 5]
 |.plus a=>post a++[yy 6]
 |.opt a=>post a++[yy 7]
def z67(st:List E):List Rx:=(st.reverse).flatMap post
theorem zl(e:E)(st:List E):z67 (e::st)=z67 st++post e:=by simp[z67]
theorem jdk(x:Rx)(h:x.bare=true):x=yy x.kind:=by
 obtain⟨k,a,b,c,d⟩:=x;simp[Rx.bare,zjb]at h;simp[yy,h]
theorem z8i(l:List Rx):∀(st:List E),vk l st.length=0->∃e,z67 st++l=post e:=by
 induction l with
 |nil=>
  intro st h;rw[vk]at h;split at h
  ·rename_i h1
   match st,h1 with
   |[e],_=>exact⟨e,by simp[z67]⟩
   |[],h1=>simp at h1
   |_::_::_,h1=>simp at h1;omega
  ·omega
 |cons x r ih=>
  intro st h;rw[vk]at h;split at h
  ·omega
  ·rename_i h1;split at h
   ·omega
   ·rename_i h2;have hk:x.kind=1\/x.kind=2\/x.kind=3\/x.kind=4\/x.kind=5\/x.kind=6\/x.kind=7:=by
     have:¬ofK x.kind<0:=λh=>h1 (Or.inl h);unfold ofK at this;split at this
     ·omega
     ·split at this
      ·omega
      ·split at this<;>omega
    have hb:x.kind≠1->x=yy x.kind:=λhne=>jdk x (by
     cases hbb:x.bare
     ·exact absurd (Or.inr ⟨hne,hbb⟩) h1
     ·rfl)
    rcases hk with hk|hk|hk|hk|hk|hk|hk
    ·have hx:x=⟨1,x.s0,x.s1,x.s2,x.s3⟩:=by rw[<- hk]
     have ho:ofK x.kind=0:=by rw[hk];rfl
     obtain⟨e,he⟩:=ih (.set x.s0 x.s1 x.s2 x.s3::st) (by rw[ho]at h;simpa using h);exact⟨e,by rw[<- he,zl,hx];simp[post]⟩
    ·have hx:=hb (by omega);rw[hk]at hx;have ho:ofK x.kind=0:=by rw[hk];rfl
     obtain⟨e,he⟩:=ih (.empty::st) (by rw[ho]at h;simpa using h);exact⟨e,by rw[<- he,zl,hx];simp[post]⟩
    ·have hx:=hb (by omega);rw[hk]at hx;have ho:ofK x.kind=2:=by rw[hk];rfl
     rw[ho]at h h2
     match st,h,h2 with
     |b::a::st,h,_=>
      obtain⟨e,he⟩:=ih (.cat a b::st) (by rw[<- h];congr 1;simp;omega);exact⟨e,by rw[<- he,zl,zl,zl,hx];simp[post]⟩
     |[],_,h2=>simp at h2
     |[_],_,h2=>simp at h2
    ·have hx:=hb (by omega);rw[hk]at hx;have ho:ofK x.kind=2:=by rw[hk];rfl
     rw[ho]at h h2
     match st,h,h2 with
     |b::a::st,h,_=>
      obtain⟨e,he⟩:=ih (.alt a b::st) (by rw[<- h];congr 1;simp;omega);exact⟨e,by rw[<- he,zl,zl,zl,hx];simp[post]⟩
     |[],_,h2=>simp at h2
     |[_],_,h2=>simp at h2
    ·have hx:=hb (by omega);rw[hk]at hx;have ho:ofK x.kind=1:=by rw[hk];rfl
     rw[ho]at h h2
     match st,h,h2 with
     |a::st,h,_=>
      obtain⟨e,he⟩:=ih (.star a::st) (by rw[<- h];congr 1;simp);exact⟨e,by rw[<- he,zl,zl,hx];simp[post]⟩
     |[],_,h2=>simp at h2
    ·have hx:=hb (by omega);rw[hk]at hx;have ho:ofK x.kind=1:=by rw[hk];rfl
     rw[ho]at h h2
     match st,h,h2 with
     |a::st,h,_=>
      obtain⟨e,he⟩:=ih (.plus a::st) (by rw[<- h];congr 1;simp);exact⟨e,by rw[<- he,zl,zl,hx];simp[post]⟩
     |[],_,h2=>simp at h2
    ·have hx:=hb (by omega);rw[hk]at hx;have ho:ofK x.kind=1:=by rw[hk];rfl
     rw[ho]at h h2
     match st,h,h2 with
     |a::st,h,_=>
      obtain⟨e,he⟩:=ih (.opt a::st) (by rw[<- h];congr 1;simp);exact⟨e,by rw[<- he,zl,zl,hx];simp[post]⟩
     |[],_,h2=>simp at h2
theorem jdy(l:List Rx)(h:zdl l=0):l.length<=512/\∃e,l=post e:=by
 unfold zdl at h;split at h
 ·omega
 ·obtain⟨e,he⟩:=z8i l [] h;exact⟨by omega,e,by simpa [z67]using he⟩
theorem z3v(e:E):∀(r:List Rx)(q:Int),0<=q->vk (post e++r) q=vk r (q+1):=by
 induction e with
 |set s0 s1 s2 s3=>intro r q hq;simp[post,vk,ofK];omega
 |empty=>intro r q hq;simp[post,yy,vk,ofK,Rx.bare,zjb];omega
 |cat a b iha ihb=>
  intro r q hq;simp only[post,weu];rw[iha _ q hq,ihb _ (q+1) (by omega)];simp[yy,vk,ofK,Rx.bare,zjb];rw[if_neg (by omega)];congr 1;omega
 |alt a b iha ihb=>
  intro r q hq;simp only[post,weu];rw[iha _ q hq,ihb _ (q+1) (by omega)];simp[yy,vk,ofK,Rx.bare,zjb];rw[if_neg (by omega)];congr 1;omega
 |star a iha=>
  intro r q hq;simp only[post,weu];rw[iha _ q hq];simp[yy,vk,ofK,Rx.bare,zjb];omega
 |plus a iha=>
  intro r q hq;simp only[post,weu];rw[iha _ q hq];simp[yy,vk,ofK,Rx.bare,zjb];omega
 |opt a iha=>
  intro r q hq;simp only[post,weu];rw[iha _ q hq];simp[yy,vk,ofK,Rx.bare,zjb];omega
theorem z27(e:E)(h:(post e).length<=512):zdl (post e)=0:=by
 unfold zdl;rw[if_neg (by omega)];have:=z3v e [] 0 (by omega);rw[weq]at this;rw[this];rfl
def Ye:E->Bool
 |.set ..=>false|.empty=>true|.cat a b=>Ye a && Ye b|.alt a b=>Ye a ||Ye b|.star _=>true|.plus a=>Ye a|.opt _=>true
end Go.Proofs.YtdllbdlnmjngcaaGreat
namespace Go.Proofs.YtdllbdlnmjngcaaGreat.T
set_option maxRecDepth 100000
set_option maxHeartbeats 8000000
set_option linter.unusedVariables false
set_option linter.unusedSimpArgs false
open Go Go.RowKit L
def zcl(x:ji):Rx:=⟨x.1,x.2.1.l.getD 0 0,x.2.1.l.getD 1 0,x.2.1.l.getD 2 0,x.2.1.l.getD 3 0⟩
theorem jfd{c:Int}{n:Nat}(h:arK c=some n):ofK c=n:=by
 unfold arK at h;unfold ofK;by_cases h1:c=3\/c=4
 ·rw[if_pos h1]at h;cases h;rw[if_neg (by omega),if_pos h1];rfl
 rw[if_neg h1]at h;by_cases h2:c=5\/c=6\/c=7
 ·rw[if_pos h2]at h;cases h;rw[if_neg (by omega),if_neg h1,if_pos h2];rfl
 rw[if_neg h2]at h;by_cases h3:c=1\/c=2
 ·rw[if_pos h3]at h;cases h;rw[if_pos h3];rfl
 ·rw[if_neg h3]at h;cases h
theorem jcr{x:ji}(h:¬(x.1≠1/\x.2.1.l≠List.replicate 4 0))(h1:x.1≠1):zcl x=yy x.1:=by
 have:x.2.1.l=List.replicate 4 0:=wf3 λc=>h ⟨h1,c⟩;unfold zcl yy;rw[this];rfl
theorem zzv:∀(l:List ji)(d:Nat),za4 l d=0->vk (l.map zcl) (d:Int)=0
 |[],d,h=>by
  unfold za4 at h;by_cases e:d=1
  ·subst e;rfl
  ·rw[if_neg e]at h;cases h
 |x::l,d,h=>by
  unfold za4 at h;cases har:arK x.1 with
  |none=>rw[har]at h;cases h
  |some n=>
   rw[har]at h;dsimp only at h;split at h
   ·cases h
   ·split at h
    ·cases h
    ·rename_i h1 h2;have ho:=jfd har;have ih:=zzv l _ h;rw[wen,vk];have ek:(zcl x).kind=x.1:=rfl;rw[ek,ho,if_neg,if_neg (by omega)]
     ·rw[<- ih];congr 1;omega
     ·rintro(h3|⟨h3,h4⟩)
      ·omega
      ·rw[jcr h1 h3]at h4;simp[yy,Rx.bare,zjb]at h4
theorem jd9{l:List ji}(h:zgs l=0):l.length<=512/\∃e,l.map zcl=post e:=by
 have hl:=zf7 h;refine⟨hl.2,?_⟩;unfold zgs at h;rw[if_neg (by have:=hl.2;omega)]at h;exact(jdy _ (by unfold zdl;rw[if_neg (by have:=hl.2;simp;omega)];exact zzv l 0 h)).2
def z0j(st:List E)(x:Rx):List E:=
 if x.kind=1 then .set x.s0 x.s1 x.s2 x.s3::st else if x.kind=2 then .empty::st else match st with
 |[]=>[]
 |b::r=>if x.kind=5 then .star b::r else if x.kind=6 then .plus b::r else if x.kind=7 then .opt b::r else match r with
  |[]=>[]
  |a::r=>if x.kind=3 then .cat a b::r else .alt a b::r
theorem zuh(e:E):∀st,(post e).foldl z0j st=e::st:=by
 induction e with
 |set=>intro st;simp[post,z0j]
 |empty=>intro st;simp[post,z0j,yy]
 |cat a b iha ihb=>intro st;simp[post,wfi,iha,ihb,z0j,yy]
 |alt a b iha ihb=>intro st;simp[post,wfi,iha,ihb,z0j,yy]
 |star a ih=>intro st;simp[post,wfi,ih,z0j,yy]
 |plus a ih=>intro st;simp[post,wfi,ih,z0j,yy]
 |opt a ih=>intro st;simp[post,wfi,ih,z0j,yy]
theorem jb4{a b:E}(h:post a=post b):a=b:=by
 have h1:=zuh a [];rw[h,zuh b []]at h1;exact(List.cons.inj h1).1.symm
open Classical in
noncomputable def zj9(l:List ji):E:=if h:∃e,l.map zcl=post e then h.choose else .empty
theorem z0o{l:List ji}{e:E}(h:l.map zcl=post e):zj9 l=e:=by
 have h1:∃e,l.map zcl=post e:=⟨e,h⟩
 unfold zj9;rw[dif_pos h1];exact jb4 (h1.choose_spec.symm.trans h)
theorem zz4{l:List ji}(h:zgs l=0):l.map zcl=post (zj9 l):=by
 obtain⟨e,he⟩:=(jd9 h).2;rw[z0o he];exact he
theorem z37{l:List Int}(h:qv l){i j:Nat}(hi:i<j)(hj:j<l.length):l[i]'(by omega)<l[j]:=by
 have:=List.pairwise_iff_getElem.1 h i j (by omega) hj hi;exact this
theorem n1{a b c:Nat}(h:a<b-c):c<b:=by omega
theorem n2{o k j:Nat}(h:o<=k)(hj:j<=o):j+1+(o-j)<=k+1:=by omega
theorem z3m(l:List Int)(hl:l.length<=1000):Tn (λnn=>zew nn l) (λr=>qv r/\∀x,x∈r↔x∈l):=by
 unfold zew;refine Tt.loop (λm s=>∃(k:Nat)(o:List Int),k<=l.length/\m=l.length-k/\s=(l,(k:Int),o)/\o.length<=k/\qv o/\∀x,x∈o↔x∈l.take k) l.length waa ⟨0,_,by omega,by omega,rfl,by simp,List.Pairwise.nil,by simp⟩ λm s⟨k,o,hk,hm,hs,hol,hor,hom⟩ nx hnx=>?_;subst hs;dsimp only;refine wab (λc=>?_) λc=>?_
 rotate_left
 ·have c:=wd4 c;have:k=l.length:=by omega
  rw[this,we1]at hom;exact Tt.pure ⟨hor,hom⟩
 have c:=wd3 c;have hlt:k<l.length:=by omega
 have htk:∀x,x∈l.take (k+1)↔x∈l.take k\/x=l[k]:=λx=>by rw[wel hlt,wej,wea]
 refine Tt.J (λs=>∃o,s=(l,(k:Int),o)/\o.length<=k+1/\qv o/\∀x,x∈o↔x∈l.take (k+1)) (λny hny=>?_) λs⟨o,hs,h1,h2,h3⟩=>?_
 rotate_left
 ·subst hs;dsimp only;refine wad ?_;rw[wI (by omega) (by omega)];exact hnx (l.length-(k+1)) _ (by omega) ⟨k+1,o,by omega,rfl,rfl,h1,h2,h3⟩
 refine wac _ (atN hlt) ?_;generalize l[k]=v at htk;refine Tt.bind (Tt.call (zi9 o v (by omega)) waa.fst) λr hr=>?_;subst hr;refine wab (λc1=>hny _ ⟨o,rfl,by omega,hor,λx=>?_⟩) λc1=>?_
 ·have c1:=wd3 c1;rw[hom,htk];exact⟨.inl,λh=>h.elim id λh=>h▸(hom v).1 c1⟩
 have c1:=wd4 c1;refine Tt.loop (λm s=>∃(j:Nat),j<=o.length/\m=o.length-j/\s=(v,(j:Int),o,o.take j)/\∀y∈o.take j,y<v) o.length waa.fst ⟨0,by omega,by omega,rfl,by simp⟩ λm s⟨j,hj,hmj,hs,hjv⟩ nz hnz=>?_;subst hs;dsimp only;refine Tt.J (λs=>∃b,s=(v,(j:Int),b,o,o.take j)/\(b=true↔∃h:j<o.length,o[j]<v)) (λnu hnu=>?_) λs⟨b,hs,hb⟩=>?_
 ·refine wad (wab (λc2=>?_) λc2=>hnu _ ⟨false,rfl,⟨λh=>(by cases h),λh=>?_⟩⟩)
  ·have c2:=wd3 c2;have hjl:j<o.length:=by omega
   refine wac _ (ye hjl) (wac _ (atN hjl) (hnu _ ⟨_,rfl,?_⟩));rw[wed];exact⟨λh=>⟨hjl,h⟩,λ⟨_,h⟩=>h⟩
  ·have c2:=wd4 c2;obtain⟨h,_⟩:=h;omega
 subst hs;dsimp only;refine wab (λc2=>?_) λc2=>?_
 ·obtain⟨hjl,hjv2⟩:=hb.1 c2;refine wac _ (ye hjl) (wac _ (atN hjl) (wac _ (Jw (by simp;omega) (by omega)) (wad ?_)));rw[wI (by omega) (by omega)];have htj:o.take (j+1)=o.take j++[o[j]]:=wel hjl;refine hnz (o.length-(j+1)) _ (by omega) ⟨j+1,by omega,rfl,by rw[htj];rfl,λy hy=>?_⟩;rw[htj]at hy;rcases wej.1 hy with h|h
  ·exact hjv y h
  ·rw[wea.1 h];exact hjv2
 ·have hnb:∀y∈o.drop j,v<y:=λy hy=>by
   obtain⟨q,hq,rfl⟩:=wgb hy;rw[List.getElem_drop];rw[wfc]at hq;have hjl:j<o.length:=n1 hq;have h1:¬o[j]<v:=λh=>by rw[hb.2 ⟨hjl,h⟩]at c2;cases c2
   have h2:o[j]≠v:=λh=>c1 (h▸wec hjl);by_cases h:q=0
   ·subst h;simp only[wfu];omega
   ·have:=z37 hor (i:=j) (j:=j+q) (by omega) (by omega);omega
  refine wac _ (Jw (by simp;omega) (by omega)) ?_;have hjl2:(o.take j).length=j:=by simp[hj]
  refine Tt.loop (λm s=>∃(q:Nat),j<=q/\q<=o.length/\m=o.length-q/\s=((q:Int),o,o.take j++[v]++(o.drop j).take (q-j))) (o.length-j) waa.fst.fst ⟨j,weh _,hj,rfl,by simp[hjl2]⟩ λm s⟨q,hjq,hq,hmq,hs⟩ nw hnw=>?_;subst hs;dsimp only;refine wab (λc3=>?_) λc3=>?_
  ·have c3:=wd3 c3;have hql:q<o.length:=by omega
   have htq:(o.drop j).take (q+1-j)=(o.drop j).take (q-j)++[o[q]]:=by
    rw[show q+1-j=(q-j)+1 from Nat.succ_sub hjq,wel (by rw[wfc];exact Nat.sub_lt_sub_right hjq hql),List.getElem_drop];congr 3;exact Nat.add_sub_cancel' hjq
   refine wac _ (ye hql) (wac _ (atN hql) (wac _ (Jw (by simp;omega) (by omega)) (wad ?_)));rw[wI (by omega) (by omega)];exact hnw (o.length-(q+1)) _ (by omega) ⟨q+1,by omega,by omega,rfl,by rw[htq];simp⟩
  ·have c3:=wd4 c3;have:q=o.length:=by omega
   have htq:(o.drop j).take (q-j)=o.drop j:=wfs (by rw[wfc,this];exact weh _);rw[htq];refine(Tt.fst (hny _ ⟨_,rfl,by rw[weo,weo,wfc,hjl2,wez];exact n2 hol hj,?_,λx=>?_⟩)).fst
   ·unfold qv;rw[weu,wg7];have hr1:(o.take j).Pairwise (· < ·):=wg4 (List.take_sublist _ _) hor;have hr2:(o.drop j).Pairwise (· < ·):=wg4 (List.drop_sublist _ _) hor;refine⟨hr1,wga.2 ⟨hnb,hr2⟩,λx hx y hy=>?_⟩;rcases wep.1 hy with h|h
    ·rw[h];exact hjv x hx
    ·have:=hjv x hx;have:=hnb y h;omega
   ·rw[htk,<- hom]
    conv=>rhs;rw[<- wfh j o]
    simp only[wej,wea];constructor
    ·rintro((h|h)|h)
     ·exact .inl (.inl h)
     ·exact .inr h
     ·exact .inl (.inr h)
    ·rintro((h|h)|h)
     ·exact .inl (.inl h)
     ·exact .inr h
     ·exact .inl (.inr h)
theorem z2i{L:List jc}:jn L=zd\/jn L∈L:=by
 induction L with
 |nil=>exact .inl rfl
 |cons d l ih=>
  unfold jn;split
  ·exact ih.imp id λh=>wg6 _ h
  ·exact .inr (by simp)
theorem zim{L:List jc}(h:(jn L).1=0):∀d∈L,d.1=0:=by
 induction L with
 |nil=>simp
 |cons d l ih=>
  unfold jn at h;by_cases c:d.1=0
  ·rw[if_pos c]at h;intro x hx;rcases wep.1 hx with e|e
   ·rw[e];exact c
   ·exact ih h x e
  ·rw[if_neg c]at h;exact absurd h c
theorem z4w{g:ja}(h:gFd g=zd):∀t∈g.1,zgs t.2.1=0:=λt ht=>by
 have h1:(gFd g).1=0:=by rw[h]
 unfold gFd at h1;have h2:=zim h1;obtain⟨i,hi⟩:=wes ht;have h3:=h2 (zhq g i t) (wej.2 (.inr (wej.2 (.inr (wej.2 (.inl (wd7 (i:=i) (by rw[zma,wf0,hi];rfl))))))));unfold zhq at h3;split at h3
 ·simp at h3
 split at h3
 ·simp at h3
 split at h3
 ·simp at h3
 ·rename_i h4;exact wgc.1 h4
theorem z83{kd mo:Int}(hk:kd≠0):∀{l:List Bool}{i:Nat},(fs2 kd mo l i).1=0->∀b∈l,b=true
 |[],_,_,b,hb=>by cases hb
 |true::l,i,h,b,hb=>by
  rcases wep.1 hb with e|e
  ·exact e
  ·exact z83 hk (l:=l) (i:=i+1) h b e
 |false::l,i,h,b,hb=>absurd h hk
theorem z3z{kd mo:Int}:∀{l:List Bool}{i:Nat},(fs2 kd mo l i).1=0\/(fs2 kd mo l i).1=kd
 |[],_ => .inl rfl
 |true::l,i=>z3z (l:=l) (i:=i+1)
 |false::l,i => .inr rfl
theorem zpx{kd:Int}:∀{l:List Bool}{i:Nat},(fsF kd l i).1=0\/(fsF kd l i).1=kd
 |[],_ => .inl rfl
 |true::l,i=>zpx (l:=l) (i:=i+1)
 |false::l,i => .inr rfl
structure Pre(g:ja)(d2 d3 d4 d5:jc):Prop where
 t2:∀y,Tn (λnn=>Jp nn (some (g,y))) (λd=>d=d2)
 t3:∀y,Tn (λnn=>Jv nn (some (g,y))) (λd=>d=d3)
 t4:∀y,Tn (λnn=>Jo nn (some (g,y))) (λd=>d=d4)
 t5:∀y,Tn (λnn=>Ve nn (some (g,y))) (λd=>d=d5)
 k:d2.1≠16/\d3.1≠16/\d4.1≠16/\d5.1≠16
theorem zyk{c:Prop}[Decidable c]{d:jc}(h:(if c then d else zd).1=0)(hd:d.1≠0):¬c:=λk=>hd (by rwa [if_pos k]at h)
theorem jdm{g:ja}{i:Nat}{p:jf}(h:(zhx g i p).1=0):PrOk g p:=by
 unfold zhx at h;split at h
 ·cases h
 split at h
 ·cases h
 ·refine⟨by omega,by omega,by omega,λx hx=>?_⟩;obtain⟨k,hk⟩:=wes hx;unfold z3y at h;exact itE_ok (zim h (itE g x,(i:Int),(k:Int)+1,()) (wd7 (i:=k) (by rw[wf0,hk];rfl)))
theorem z9f{g:ja}(h:gFd g=zd):GOk g:=by
 have h1:(gFd g).1=0:=by rw[h]
 unfold gFd at h1;have h2:=zim h1;simp only[wej]at h2;have hp:∀p∈g.2.2.1,PrOk g p:=λp hp=>by
  obtain⟨i,hi⟩:=wes hp;exact jdm (h2 (zhx g i p) (.inr (.inr (.inr (.inr (.inl (wd7 (i:=i) (by rw[zis,wf0,hi];rfl))))))))
 have z0:=zyk (h2 _ (.inl (wd7 (i:=0) rfl))) (show(4:Int)≠0 by decide);have z1:=zyk (h2 _ (.inl (wd7 (i:=1) rfl))) (show(4:Int)≠0 by decide);have z2:=zyk (h2 _ (.inl (wd7 (i:=2) rfl))) (show(4:Int)≠0 by decide);have z3:=zyk (h2 (zfw g) (.inr (.inr (.inr (.inr (.inr (.inl (wea.2 rfl)))))))) (by decide);exact⟨by omega,by omega,by omega,λt ht=>zf7 (z4w h t ht),λp h=>⟨(hp p h).l0,(hp p h).l1⟩,λp h=>(hp p h).n,λp h=>(hp p h).it,by omega⟩
theorem jfr{g:ja}(hg:Qv g)(hz:gFd g=zd):GR g/\GOk g:=by
 refine⟨?_,z9f hz⟩;unfold GR v7;exact Tt.bind (Tt.call (z4j g hg) waa) λr hr=>Tt.pure (by rw[hr,hz];rfl)
theorem z5p{g:ja}(hg:Qv g)(hz:(gFd g).1≠0):Tn (λnn=>Jq nn g) (λr=>r.2.2.1=gFd g):=by
 unfold Jq;refine Tt.J (λs=>s.2.2.2.2.2.1=gFd g) (λnx hnx=>?_) λs hs=>?_
 ·refine Tt.bind (Tt.call (zvc g hg _) waa) λd1 hd1=>?_;exact waq (wfb (by rw[hd1];exact hz)) (hnx _ hd1)
 ·obtain⟨a,b,c,d,e,f,x⟩:=s;dsimp only at hs⊢;subst hs;exact waq (wfb hz) (Tt.pure rfl)
theorem Tn.both{α:Type}{f:Nat->Option α}{Q R:α->Prop}(h:Tn f Q)(k:Tn f R):Tn f (λx=>Q x/\R x):=by
 obtain⟨r,⟨N,h1⟩,h2⟩:=h;obtain⟨s,⟨M,k1⟩,k2⟩:=k;have e:=(h1 (N+M) (by omega)).symm.trans (k1 (N+M) (by omega));cases e;exact⟨r,⟨N,h1⟩,h2,k2⟩
theorem Tn.eq{α:Type}{f:Nat->Option α}{Q:α->Prop}{v:α}(h:Tn f (λx=>x=v))(k:Tn f Q):Q v:=by
 obtain⟨r,_,rfl,h2⟩:=Tn.both h k;exact h2
noncomputable def z2p(g:ja):jc:=fs2 10 0 (g.1.map λx=>!zcq x.2.1) 0
theorem zwi(nn m:Nat)(t:ja×(List Bool)×(List je)×Int×(List Bool)):ym nn (m+1) t=Q5 nn (ym nn m) t:=rfl
def StQ(g:ja)(em:List Bool)(al:List (List Int))(tok:Int)(l:List je)(been:List Bool)(r:Bool×List Bool):Prop:=r.2.length=g.2.1.length/\q6 r.2<=q6 been/\(r.1=true->inF em al tok l)
theorem je9{r:List Bool}{z:Nat}(h:z<r.length):r.getD z false=r[z]:=by simp[List.getD,h]
theorem zpz(g:ja)(hok:GOk g)(em:List Bool)(al:List (List Int))(hel:em.length=g.2.1.length)(fic:∀p∈g.2.2.1,fiC em al p)(tok:Int):∀(k:Nat)(l:List je)(been:List Bool),q6 been<k->been.length=g.2.1.length->(∀x∈l,zai g x)->l.length<=1000000->Tt wcj (λi=>ym i.1 i.2 (g,em,l,tok,been)) (StQ g em al tok l been)
 |0,_,_,h,_,_,_=>by omega
 |k+1,l,been,hk,hbl,hit,hll=>by
  refine jbt (b:=λi=>Q5 i.1 (ym i.1 i.2) (g,em,l,tok,been)) ?_ λn m=>zwi n m _;unfold Q5;have hpl:=hok.p;refine Tt.loop (λm s=>∃(d:Nat)(e:List Bool),d<=l.length/\m=l.length-d/\s=(em,l,tok,(d:Int),e,g)/\e.length=g.2.1.length/\q6 e<=q6 been/\(inF em al tok (l.drop d)->inF em al tok l)) l.length wdo ⟨0,been,by omega,by omega,rfl,hbl,weh _,λh=>h⟩ λm s⟨d,e,hd,hm,hs,hel2,hce,hup⟩ nx hnx=>?_;subst hs;dsimp only;refine wab (λc=>?_) λc=>Tt.pure ⟨hel2,hce,λh=>by cases h⟩;have c:=wd3 c;have hlt:d<l.length:=by omega
  rw[we7 hlt]at hup;have hat:=atN hlt;have hx:=hit _ (wec hlt);generalize l[d]=x at hup hat hx;refine wac _ hat (wab (λc1=>wac _ hat (Tt.pure ⟨hel2,hce,λh=>hup ?_⟩)) λc1=>?_)
  ·have h:=wd3 h;have c1:x.1=false:=by simpa using c1
   unfold inF;rw[if_neg (by rw[c1];simp)];exact h.symm
  ·have c1:x.1=true:=by simpa using c1
   obtain⟨i1,i2⟩:=hx;rw[if_pos c1]at i2;obtain⟨z,hz⟩:∃z:Nat,x.2.1=z:=⟨x.2.1.toNat,by omega⟩
   have hze:z<e.length:=by omega
   have hzm:z<em.length:=by omega
   have hup1:tok∈al.getD z []->inF em al tok l:=λh=>hup (by
    unfold inF;rw[if_pos c1,hz,wem];exact .inl h)
   have hup2:em[z]=true->inF em al tok (l.drop (d+1))->inF em al tok l:=λh1 h2=>hup (by
    unfold inF;rw[if_pos c1,hz,wem];exact .inr ⟨by rw[je9 hzm,h1],h2⟩)
   refine Tt.J (λs=>∃(b:Bool)(o:List Bool),s=(em,l,tok,(d:Int),b,o,g)/\o.length=g.2.1.length/\q6 o<=q6 been/\(b=true->inF em al tok l)) (λnq hnq=>?_) λs⟨b,o,hs,ho,hco,hb⟩=>?_
   ·refine wac _ hat ?_;rw[hz];refine wac _ (ye hze) (wac _ (atN hze) (wab (λc2=>hnq _ ⟨_,_,rfl,hel2,hce,λh=>by cases h⟩) λc2=>wac _ (ye hze) (wac _ (zbz true hze) ?_)));have hcs:=Z8 (l:=e) (k:=z) (by rw[wd2 hze,c2]);refine Tt.loop (λm s=>∃(i:Nat)(e2:List Bool),i<=g.2.2.1.length/\m=g.2.2.1.length-i/\s=(em,(z:Int),tok,(i:Int),e2,g)/\e2.length=g.2.1.length/\q6 e2<q6 been) g.2.2.1.length wdo.fst ⟨0,_,by omega,by omega,rfl,by rw[wfz];exact hel2,by omega⟩ λm2 s⟨i,e2,hi,hm2,hs,he2,hce2⟩ ny hny=>?_;subst hs;dsimp only;refine wab (λc3=>?_) λc3=>(hnq _ ⟨_,_,rfl,he2,by omega,λh=>by cases h⟩).fst;have c3:=wd3 c3;have hilt:i<g.2.2.1.length:=by omega
    have hatp:=atN hilt;have hmem:g.2.2.1[i]∈g.2.2.1:=wec hilt;generalize g.2.2.1[i]=p at hatp hmem;refine Tt.J (λs=>∃(b:Bool)(e3:List Bool),s=(em,(z:Int),tok,(i:Int),b,e3,g)/\e3.length=g.2.1.length/\q6 e3<q6 been/\(b=true->inF em al tok l)) (λnu hnu=>?_) λs⟨b,e3,hs,he3,hc3,hb⟩=>?_
    ·refine wac _ hatp (wad (wab (λc4=>wac _ hatp ?_) λc4=>hnu _ ⟨_,_,rfl,he2,hce2,λh=>by cases h⟩));have c4:=wd3 c4;have ih:=zpz g hok em al hel fic tok k p.2.1 e2 (by omega) he2 (hok.items p hmem) (by have:=hok.len p hmem;omega);refine Tt.bind ih.fst.fst λr⟨r1,r2,r3⟩=>hnu _ ⟨_,_,rfl,r1,by omega,λh=>hup1 ?_⟩;have:=fic p hmem tok (r3 h);rwa [c4,wem]at this
    ·subst hs;dsimp only;refine wab (λc5=>(hnq _ ⟨_,_,rfl,he3,by omega,λ_=>hb c5⟩).fst) λc5=>wad ?_;rw[wI (by omega) (by omega)];exact hny (g.2.2.1.length-(i+1)) _ (by omega) ⟨i+1,e3,by omega,rfl,rfl,he3,hc3⟩
   ·subst hs;dsimp only;refine wab (λc5=>Tt.pure ⟨ho,hco,λ_=>hb c5⟩) λc5=>wac _ hat ?_;rw[hz];refine wac _ (atN hzm) (wab (λc6=>Tt.pure ⟨ho,hco,λh=>by cases h⟩) λc6=>wad ?_);rw[wI (by omega) (by omega)];exact hnx (l.length-(d+1)) _ (by omega) ⟨d+1,o,by omega,rfl,rfl,ho,hco,hup2 (by simpa using c6)⟩
theorem zkw(g:ja)(l:List je)(hl:l.length<=1000000):Tn (λnn=>Vs nn g l) (λ_=>True):=by
 unfold Vs;refine Tt.loop (λm s=>∃d:Nat,d<=l.length/\m=l.length-d/\s=(l,(d:Int),g)) l.length waa ⟨0,by omega,by omega,rfl⟩ λm s⟨d,hd,hm,hs⟩ nx hnx=>?_;subst hs;dsimp only;refine wab (λc=>?_) λc=>Tt.pure trivial;have c:=wd3 c;have hat:=atN (show d<l.length by omega);refine Tt.J (λs=>∃b,s=(l,(d:Int),b,g)) (λny hny=>?_) λs⟨b,hs⟩=>?_
 ·refine wac _ hat (wad (wab (λ_=>hny _ ⟨_,rfl⟩) λ_=>wac _ hat (wab (λ_=>wac _ hat (wab (λ_=>hny _ ⟨_,rfl⟩) λ_=>wac _ hat (wad (wab (λ_=>wac _ hat (hny _ ⟨_,rfl⟩)) λ_=>hny _ ⟨_,rfl⟩)))) λ_=>wac _ hat (wad (wab (λ_=>wac _ hat (hny _ ⟨_,rfl⟩)) λ_=>hny _ ⟨_,rfl⟩)))))
 ·subst hs;dsimp only;refine wab (λ_=>Tt.pure trivial) λ_=>wad ?_;rw[wI (by omega) (by omega)];exact hnx (l.length-(d+1)) _ (by omega) ⟨d+1,by omega,rfl,rfl⟩
theorem RN.snoc{n:Nat}{l:List Int}(h:RN n l){i:Nat}(hi:i<n)(hb:∀x∈l,x<(i:Int)):RN n (l++[(i:Int)]):=by
 refine⟨?_,λx hx=>?_⟩
 ·unfold qv;rw[wg7];exact⟨h.r,by simp,λa ha b hb2=>by simp at hb2;subst hb2;exact hb a ha⟩
 ·rcases wej.1 hx with hx|hx
  ·exact h.b x hx
  ·simp at hx;subst hx;omega
theorem z5c(g:ja)(hg:zc6 g)(hz:gFd g=zd)(hok:GOk g)(em:List Bool)(al:List (List Int))(hE:Tn (λnn=>y9 nn g) (λr=>r=em))(hel:em.length=g.2.1.length)(fic:∀p∈g.2.2.1,fiC em al p)(l:List je)(hl:l.length<=1000000)(hit:∀x∈l,zai g x):Tn (λnn=>Zm nn g l) (λr=>RN g.1.length r/\∀t∈r,inF em al t l):=by
 have ht:=hok.t;have hr:=hok.r;unfold Zm;refine Tt.J (λs=>∃b,s=(l,b,g,[])) (λnx hnx=>?_) λs⟨b,hs⟩=>?_
 ·refine Tt.bind (Tt.call (Yi g hg) waa) λb hb=>wad (wab (λ_=>hnx _ ⟨_,rfl⟩) λ_=>?_);exact Tt.bind (Tt.call (zkw g l hl) waa) λb _=>hnx _ ⟨_,rfl⟩
 ·subst hs;dsimp only;refine wab (λ_=>Tt.pure ⟨RN.nil _,by simp⟩) λ_=>Tt.bind (Tt.call hE waa) λe he=>?_;subst he;refine Tt.loop (λm s=>∃(i:Nat)(k:List Int),i<=g.1.length/\m=g.1.length-i/\s=(l,e,(i:Int),g,k)/\RN g.1.length k/\(∀x∈k,x<(i:Int))/\∀t∈k,inF e al t l) g.1.length waa ⟨0,[],by omega,by omega,rfl,RN.nil _,by simp,by simp⟩ λm s⟨i,k,hi,hm,hs,hk,hkb,hki⟩ nx hnx=>?_;subst hs;dsimp only;refine wab (λc=>?_) λc=>Tt.pure ⟨hk,hki⟩;have c:=wd3 c;refine Tt.J (λs=>∃k',s=(l,e,(i:Int),g,k')/\RN g.1.length k'/\(∀x∈k',x<(i:Int)+1)/\∀t∈k',inF e al t l) (λny hny=>?_) λs⟨k',hs,h1,h2,h3⟩=>?_
  ·refine wad (wac _ (mkN (by omega) (by omega)) ?_);refine Tt.bind (Tt.call (z93 (zpz g hok e al hel fic (i:Int) (q6 (List.replicate g.2.1.length false)+1) l _ (by omega) (by simp) hit hl)) waa.fst) λw⟨_,_,hw⟩=>?_;have hkl:=hk.len;refine wab (λc2=>wac _ (Jw (by simp;omega) (by omega)) (hny _ ⟨_,rfl,hk.snoc (by omega) hkb,λx hx=>?_,λt ht=>?_⟩)) λc2=>hny _ ⟨_,rfl,hk,λx hx=>by have:=hkb x hx;omega,hki⟩
   ·rcases wej.1 hx with h|h
    ·have:=hkb x h;omega
    ·simp at h;omega
   ·rcases wej.1 ht with h|h
    ·exact hki t h
    ·simp at h;subst h;exact hw c2
  ·subst hs;dsimp only;refine wad ?_;rw[wI (by omega) (by omega)];exact hnx (g.1.length-(i+1)) _ (by omega) ⟨i+1,k',by omega,rfl,rfl,h1,λx hx=>by have:=h2 x hx;omega,h3⟩
theorem n3{o k j n:Nat}(h:o<=k+n)(hj:j<=o):j+1+(o-j)<=k+1+n:=by omega
theorem zf1{n:Nat}(hn:n<=1000){l0 l:List Int}(h0:RN n l0)(h1:RN n l):Tn (λnn=>Jh nn l0 l) (λr=>RN n r/\∀x,x∈r↔x∈l0\/x∈l):=by
 have hl:=h1.len;have hl0:=h0.len;unfold Jh;refine Tt.bind (R:=λr=>(qv r/\∀x,x∈r↔x∈l0)/\r.length<=1000) ?_ λo0⟨⟨hr0,hm0⟩,hol0⟩=>?_
 ·refine Tt.mono (Tt.call (z3m l0 (by omega)) waa) λr⟨k1,k2⟩=>⟨⟨k1,k2⟩,?_⟩
  have:=(RN.len (n:=n) ⟨k1,λx hx=>h0.b x ((k2 x).1 hx)⟩)
  omega
 refine Tt.mono (Q:=λr=>qv r/\∀x,x∈r↔x∈o0\/x∈l) ?_ λr⟨k1,k2⟩=>⟨⟨k1,λx hx=>?_⟩,λx=>by rw[k2,hm0]⟩
 rotate_left
 ·rcases(k2 x).1 hx with h|h
  ·exact h0.b x ((hm0 x).1 h)
  ·exact h1.b x h
 clear h1;refine Tt.loop (λm s=>∃(k:Nat)(o:List Int),k<=l.length/\m=l.length-k/\s=(l,(k:Int),o)/\o.length<=k+o0.length/\qv o/\∀x,x∈o↔x∈o0\/x∈l.take k) l.length waa ⟨0,_,by omega,by omega,rfl,by omega,hr0,by simp⟩ λm s⟨k,o,hk,hm,hs,hol,hor,hom⟩ nx hnx=>?_;subst hs;dsimp only;refine wab (λc=>?_) λc=>?_
 rotate_left
 ·have c:=wd4 c;have:k=l.length:=by omega
  rw[this,we1]at hom;exact Tt.pure ⟨hor,hom⟩
 have c:=wd3 c;have hlt:k<l.length:=by omega
 have htk:∀x,x∈l.take (k+1)↔x∈l.take k\/x=l[k]:=λx=>by rw[wel hlt,wej,wea]
 refine Tt.J (λs=>∃o,s=(l,(k:Int),o)/\o.length<=k+1+o0.length/\qv o/\∀x,x∈o↔x∈o0\/x∈l.take (k+1)) (λny hny=>?_) λs⟨o,hs,h1,h2,h3⟩=>?_
 rotate_left
 ·subst hs;dsimp only;refine wad ?_;rw[wI (by omega) (by omega)];exact hnx (l.length-(k+1)) _ (by omega) ⟨k+1,o,by omega,rfl,rfl,h1,h2,h3⟩
 refine wac _ (atN hlt) ?_;generalize l[k]=v at htk;refine Tt.bind (Tt.call (zi9 o v (by omega)) waa.fst) λr hr=>?_;subst hr;refine wab (λc1=>hny _ ⟨o,rfl,by omega,hor,λx=>?_⟩) λc1=>?_
 ·have c1:=wd3 c1;rw[htk,<- or_assoc,<- hom];exact⟨.inl,λh=>h.elim id λh=>h▸c1⟩
 have c1:=wd4 c1;refine Tt.loop (λm s=>∃(j:Nat),j<=o.length/\m=o.length-j/\s=(v,(j:Int),o,o.take j)/\∀y∈o.take j,y<v) o.length waa.fst ⟨0,by omega,by omega,rfl,by simp⟩ λm s⟨j,hj,hmj,hs,hjv⟩ nz hnz=>?_;subst hs;dsimp only;refine Tt.J (λs=>∃b,s=(v,(j:Int),b,o,o.take j)/\(b=true↔∃h:j<o.length,o[j]<v)) (λnu hnu=>?_) λs⟨b,hs,hb⟩=>?_
 ·refine wad (wab (λc2=>?_) λc2=>hnu _ ⟨false,rfl,⟨λh=>(by cases h),λh=>?_⟩⟩)
  ·have c2:=wd3 c2;have hjl:j<o.length:=by omega
   refine wac _ (ye hjl) (wac _ (atN hjl) (hnu _ ⟨_,rfl,?_⟩));rw[wed];exact⟨λh=>⟨hjl,h⟩,λ⟨_,h⟩=>h⟩
  ·have c2:=wd4 c2;obtain⟨h,_⟩:=h;omega
 subst hs;dsimp only;refine wab (λc2=>?_) λc2=>?_
 ·obtain⟨hjl,hjv2⟩:=hb.1 c2;refine wac _ (ye hjl) (wac _ (atN hjl) (wac _ (Jw (by simp;omega) (by omega)) (wad ?_)));rw[wI (by omega) (by omega)];have htj:o.take (j+1)=o.take j++[o[j]]:=wel hjl;refine hnz (o.length-(j+1)) _ (by omega) ⟨j+1,by omega,rfl,by rw[htj];rfl,λy hy=>?_⟩;rw[htj]at hy;rcases wej.1 hy with h|h
  ·exact hjv y h
  ·rw[wea.1 h];exact hjv2
 ·have hnb:∀y∈o.drop j,v<y:=λy hy=>by
   obtain⟨q,hq,rfl⟩:=wgb hy;rw[List.getElem_drop];rw[wfc]at hq;have hjl:j<o.length:=n1 hq;have h1:¬o[j]<v:=λh=>by rw[hb.2 ⟨hjl,h⟩]at c2;cases c2
   have h2:o[j]≠v:=λh=>c1 (h▸wec hjl);by_cases h:q=0
   ·subst h;simp only[wfu];omega
   ·have:=z37 hor (i:=j) (j:=j+q) (by omega) (by omega);omega
  refine wac _ (Jw (by simp;omega) (by omega)) ?_;have hjl2:(o.take j).length=j:=by simp[hj]
  refine Tt.loop (λm s=>∃(q:Nat),j<=q/\q<=o.length/\m=o.length-q/\s=((q:Int),o,o.take j++[v]++(o.drop j).take (q-j))) (o.length-j) waa.fst.fst ⟨j,weh _,hj,rfl,by simp[hjl2]⟩ λm s⟨q,hjq,hq,hmq,hs⟩ nw hnw=>?_;subst hs;dsimp only;refine wab (λc3=>?_) λc3=>?_
  ·have c3:=wd3 c3;have hql:q<o.length:=by omega
   have htq:(o.drop j).take (q+1-j)=(o.drop j).take (q-j)++[o[q]]:=by
    rw[show q+1-j=(q-j)+1 from Nat.succ_sub hjq,wel (by rw[wfc];exact Nat.sub_lt_sub_right hjq hql),List.getElem_drop];congr 3;exact Nat.add_sub_cancel' hjq
   refine wac _ (ye hql) (wac _ (atN hql) (wac _ (Jw (by simp;omega) (by omega)) (wad ?_)));rw[wI (by omega) (by omega)];exact hnw (o.length-(q+1)) _ (by omega) ⟨q+1,by omega,by omega,rfl,by rw[htq];simp⟩
  ·have c3:=wd4 c3;have:q=o.length:=by omega
   have htq:(o.drop j).take (q-j)=o.drop j:=wfs (by rw[wfc,this];exact weh _);rw[htq];refine(Tt.fst (hny _ ⟨_,rfl,by rw[weo,weo,wfc,hjl2,wez];exact n3 hol hj,?_,λx=>?_⟩)).fst
   ·unfold qv;rw[weu,wg7];have hr1:(o.take j).Pairwise (· < ·):=wg4 (List.take_sublist _ _) hor;have hr2:(o.drop j).Pairwise (· < ·):=wg4 (List.drop_sublist _ _) hor;refine⟨hr1,wga.2 ⟨hnb,hr2⟩,λx hx y hy=>?_⟩;rcases wep.1 hy with h|h
    ·rw[h];exact hjv x hx
    ·have:=hjv x hx;have:=hnb y h;omega
   ·rw[htk,<- or_assoc,<- hom]
    conv=>rhs;rw[<- wfh j o]
    simp only[wej,wea];constructor
    ·rintro((h|h)|h)
     ·exact .inl (.inl h)
     ·exact .inr h
     ·exact .inl (.inr h)
    ·rintro((h|h)|h)
     ·exact .inl (.inl h)
     ·exact .inr h
     ·exact .inl (.inr h)
theorem zqb(g:ja)(hg:zc6 g)(em:List Bool)(hE:Tn (λnn=>y9 nn g) (λr=>r=em))(hel:em.length=g.2.1.length)(l:List je)(hl:l.length<=1000000)(hit:∀x∈l,zai g x):Tn (λnn=>Y5 nn g l) (λb=>b=true->∀x∈l,x.1=true/\em[x.2.1.toNat]?=some true):=by
 unfold Y5;refine Tt.J (λb=>b=true->∀x∈l,x.1=true/\em[x.2.1.toNat]?=some true) (λnx hnx=>?_) λs hs=>Tt.pure hs;refine Tt.bind (Tt.call (Yi g hg) waa) λb _=>wab (λ_=>?_) λ_=>hnx _ λh=>by cases h
 refine Tt.bind (Tt.call (zkw g l hl) waa) λb _=>wab (λ_=>?_) λ_=>hnx _ λh=>by cases h
 refine Tt.bind (Tt.call hE waa) λe he=>?_;subst he;refine Tt.bind (Tt.call (z5g g l e false hl hel hit) waa) λb hb=>hnx _ λh x hx=>?_;obtain⟨h1,h2⟩:=hb.1 h x hx;have h3:x.1=true:=by
  cases hh:x.1 with
  |true=>rfl
  |false=>exact absurd (h2 hh) (by simp)
 exact⟨h3,h1 h3⟩
theorem sliD'{α:Type}{l:List α}{k:Nat}(h:k<=l.length):zhi l (some (k:Int)) none=some (l.drop k):=by
 unfold zhi bdN;simp[h]
structure EmA(g:ja)(em:List Bool)(al:List (List Int)):Prop where
 e:Tn (λnn=>y9 nn g) (λr=>r=em)
 l:em.length=g.2.1.length
 f:∀p∈g.2.2.1,fiC em al p
theorem zxb(g:ja)(hg:zc6 g)(hz:gFd g=zd)(hok:GOk g){em:List Bool}{al:List (List Int)}(hA:EmA g em al){p:jf}(hp:p∈g.2.2.1){k:Nat}(hk:k<p.2.1.length):Tn (λnn=>Ys nn g p (k:Int)) (λr=>RN g.1.length r.1/\(∀t∈r.1,inF em al t (p.2.1.drop (k+1)))/\(r.2.1=true->∀x∈p.2.1.drop (k+1),x.1=true/\em[x.2.1.toNat]?=some true)):=by
 have hl:=hok.len p hp;have hit:∀x∈p.2.1.drop (k+1),zai g x:=λx hx=>hok.items p hp x (wgh hx);have hll:(p.2.1.drop (k+1)).length<=1000000:=by rw[wfc];omega
 unfold Ys;rw[wI (by omega) (by omega)];refine wac _ (sliD' (k:=k+1) (by omega)) ?_;refine Tt.bind (Tt.call (z5c g hg hz hok em al hA.e hA.l hA.f _ hll hit) waa) λr⟨r1,r2⟩=>?_;exact Tt.bind (Tt.call (zqb g hg em hA.e hA.l _ hll hit) waa) λb hb=>Tt.pure ⟨r1,r2,hb⟩
structure FoS(g:ja)(B out:List (List Int)):Prop where
 l:out.length=g.2.1.length
 n:∀r∈out,RN (g.1.length+1) r
 s:∀i:Nat,∀t∈out.getD i [],t∈B.getD i []
theorem FoS.at{g:ja}{B out:List (List Int)}(h:FoS g B out){i:Nat}(hi:i<out.length):RN (g.1.length+1) out[i]/\∀t∈out[i],t∈B.getD i []:=by
 refine⟨h.n _ (wec hi),λt ht=>h.s i t ?_⟩;simpa [List.getD,hi]using ht
theorem FoS.set{g:ja}{B out:List (List Int)}(h:FoS g B out){i:Nat}{r:List Int}(hr:RN (g.1.length+1) r)(hs:∀t∈r,t∈B.getD i []):FoS g B (out.set i r):=by
 refine⟨by rw[wfz];exact h.l,λx hx=>?_,λj t ht=>?_⟩
 ·rcases wf4 hx with h1|h1
  ·exact h.n x h1
  ·rw[h1];exact hr
 ·simp only[List.getD,wev]at ht;split at ht
  ·rename_i e;subst e;split at ht
   ·exact hs t ht
   ·cases ht
  ·exact h.s j t ht
theorem zwf(g:ja)(hg:zc6 g)(hz:gFd g=zd)(hok:GOk g){em re:List Bool}{al B:List (List Int)}(hA:EmA g em al)(hRe:Tn (λnn=>q7 nn g) (λr=>r=re))(hrl:re.length=g.2.1.length)(hBe:(g.1.length:Int)∈B.getD g.2.2.2.1.toNat [])(foc:∀p∈g.2.2.1,re[p.1.toNat]?=some true->foC em al B p):Tn (λnn=>zao nn g) (FoS g B):=by
 have ht:=hok.t;have hr:=hok.r;have hp:=hok.p;unfold zao;refine Tt.bind (Tt.call (Yi g hg) waa) λb hb=>?_;have hbt:=hb.2 hz;subst hbt;refine wap rfl (Tt.bind (Tt.call hRe waa) λw hw=>?_);subst hw;refine Tt.loop (λm s=>∃(d:Nat),d<=g.2.1.length/\m=g.2.1.length-d/\s=(w,(d:Int),g,List.replicate d ([]:List Int))) g.2.1.length waa ⟨0,by omega,by omega,rfl⟩ λm s⟨d,hd,hm,hs⟩ nx hnx=>?_;subst hs;dsimp only;refine wab (λc=>?_) λc=>?_
 ·have c:=wd3 c;refine wac _ (Jw (by simp;omega) (by omega)) (wad ?_);rw[wI (by omega) (by omega)];exact hnx (g.2.1.length-(d+1)) _ (by omega) ⟨d+1,by omega,rfl,by rw[List.replicate_succ'];rfl⟩
 have c:=wd4 c;have hde:d=g.2.1.length:=by omega
 subst hde;obtain⟨st,hst⟩:∃st:Nat,g.2.2.2.1=st:=⟨g.2.2.2.1.toNat,by have:=hok.start;omega⟩
 have hs1:=hok.start.2;rw[hst]at hs1 hBe⊢;rw[wem]at hBe;have hsl:st<(List.replicate g.2.1.length ([]:List Int)).length:=by simp;omega
 refine wac _ (ye hsl) (wac _ (zbz _ hsl) ?_);have h0:FoS g B (List.replicate g.2.1.length []):=⟨by simp,λr h=>by rw[List.eq_of_mem_replicate h];exact RN.nil _,λi t h=>by
  simp only[List.getD,wfw]at h;split at h<;>cases h⟩
 have h0:=h0.set (i:=st) (r:=[(g.1.length:Int)]) (RN.one (by omega) (by omega)) λt h=>by rw[wea.1 h];exact hBe
 generalize (List.replicate g.2.1.length ([]:List Int)).set st [(g.1.length:Int)]=o0 at h0⊢;refine Tt.J (FoS g B) (λnf hnf=>?_) λs hs=>Tt.pure hs;have hbig:(g.2.1.length:Int)*((g.1.length:Int)+1)<=5000:=by
  have h1:(g.2.1.length:Int)<=64:=by omega
  have h2:(g.1.length:Int)+1<=65:=by omega
  calc (g.2.1.length:Int)*((g.1.length:Int)+1)<=64*65:=Int.mul_le_mul h1 h2 (by omega) (by omega)
   _<=5000:=by decide
 have hpos:(0:Int)<=(g.2.1.length:Int)*((g.1.length:Int)+1):=Int.mul_nonneg (by omega) (by omega);generalize hM:(g.2.1.length:Int)*((g.1.length:Int)+1)=M at hbig hpos;have hM2:T.w64 ((g.2.1.length:Int)*T.w64 ((g.1.length:Int)+1))=M:=by
  rw[wI (z:=(g.1.length:Int)+1) (by omega) (by omega),hM,wI (by omega) (by omega)]
 refine Tt.loop (λm s=>∃(n:Nat)(o:List (List Int)),(n:Int)<=M+1/\m=M.toNat+1-n/\s=(w,(n:Int),g,o)/\FoS g B o) (M.toNat+1) waa.fst ⟨0,o0,by omega,by omega,rfl,h0⟩ λm s⟨n,o,hn,hm,hs,ho⟩ ny hny=>?_;subst hs;dsimp only;rw[hM2];refine wab (λc1=>?_) λc1=>(hnf _ ho).fst;have c1:=wd3 c1;refine Tt.loop (λm s=>∃(fr:Bool)(i:Nat)(o:List (List Int)),i<=g.2.2.1.length/\m=g.2.2.1.length-i/\s=(w,(n:Int),fr,(i:Int),g,o)/\FoS g B o) g.2.2.1.length waa.fst.fst ⟨false,0,o,by omega,by omega,rfl,ho⟩ λm s⟨fr,i,o,hi,hm,hs,ho⟩ nz hnz=>?_;subst hs;dsimp only;refine wab (λc2=>?_) λc2=>wab (λ_=>(hnf _ ho).fst.fst) λ_=>wad ?_
 rotate_left
 ·rw[wI (by omega) (by omega)];exact(hny (M.toNat+1-(n+1)) _ (by omega) ⟨n+1,o,by omega,rfl,rfl,ho⟩).fst
 have c2:=wd3 c2;have hil:i<g.2.2.1.length:=by omega
 have hmem:g.2.2.1[i]∈g.2.2.1:=wec hil;refine wac _ (atN hil) ?_;generalize g.2.2.1[i]=p at hmem⊢;obtain⟨l0,l1⟩:=hok.left p hmem;have hpl:=hok.len p hmem;obtain⟨q,hq⟩:∃q:Nat,p.1=q:=⟨p.1.toNat,by omega⟩
 have hqr:q<w.length:=by omega
 refine Tt.loop (λm s=>∃(fr:Bool)(k:Nat)(o:List (List Int)),k<=p.2.1.length/\m=p.2.1.length-k/\s=(w,(n:Int),fr,(i:Int),(k:Int),g,o,p)/\FoS g B o) p.2.1.length waa.fst.fst.fst ⟨fr,0,o,by omega,by omega,rfl,ho⟩ λm s⟨fr,k,o,hk,hm,hs,ho⟩ nw hnw=>?_;subst hs;dsimp only;refine Tt.J (λs=>∃b,s=(w,(n:Int),fr,(i:Int),(k:Int),b,g,o,p)/\(b=true->k<p.2.1.length/\w[q]?=some true)) (λnu hnu=>?_) λs⟨b,hs,hb⟩=>?_
 ·rw[hq];refine wac _ (atN hqr) (wab (λc3=>hnu _ ⟨_,rfl,λh=>⟨by have:=wd3 h;omega,by rw[wd2 hqr,c3]⟩⟩) λc3=>hnu _ ⟨_,rfl,λh=>by cases h⟩)
 subst hs;dsimp only;refine wab (λc3=>?_) λc3=>wad ?_
 rotate_left
 ·rw[wI (by omega) (by omega)];exact(hnz (g.2.2.1.length-(i+1)) _ (by omega) ⟨fr,i+1,o,by omega,rfl,rfl,ho⟩).fst
 obtain⟨hkl,hwq⟩:=hb c3;have hfo:=foc p hmem (by rw[hq,wem];exact hwq);have hgx:p.2.1[k]?=some p.2.1[k]:=wd2 hkl;have hxi:=hok.items p hmem _ (wec hkl);have hat:=atN hkl;generalize p.2.1[k]=x at hgx hxi hat;refine Tt.J (λs=>∃(fr:Bool)(o:List (List Int)),s=(w,(n:Int),fr,(i:Int),(k:Int),g,o,p)/\FoS g B o) (λnv hnv=>?_) λs⟨fr,o,hs,ho⟩=>?_
 rotate_left
 ·subst hs;dsimp only;refine wad ?_;rw[wI (by omega) (by omega)];exact hnw (p.2.1.length-(k+1)) _ (by omega) ⟨fr,k+1,o,by omega,rfl,rfl,ho⟩
 refine wac _ hat (wab (λ_=>hnv _ ⟨_,_,rfl,ho⟩) λcx=>?_);have cx:x.1=true:=by simpa using cx
 obtain⟨i1,i2⟩:=hxi;rw[if_pos cx]at i2;obtain⟨z,hz2⟩:∃z:Nat,x.2.1=z:=⟨x.2.1.toNat,by omega⟩
 have hzo:z<o.length:=by rw[ho.l];omega
 have hqo:q<o.length:=by rw[ho.l];omega
 have hfz:∀t,inT em al (B.getD q []) t (p.2.1.drop (k+1))->t∈B.getD z []:=λt h=>by
  have:=hfo k x hgx cx t (by rw[hq,wem];exact h);rwa [hz2,wem]at this
 refine Tt.bind (Tt.call (zxb g hg hz hok hA hmem hkl) waa.fst.fst.fst.fst) λr⟨r1,r2,r3⟩=>?_;refine Tt.J (λs=>∃u:List Int,s=(w,(n:Int),fr,(i:Int),(k:Int),u,g,o,p,x)/\RN (g.1.length+1) u/\∀t∈u,t∈B.getD z []) (λna hna=>?_) λs⟨u,hs,hu,hub⟩=>?_
 ·refine wab (λcv=>?_) λ_=>hna _ ⟨_,rfl,r1.up (by omega),λt h=>hfz t (zev.2 (.inl (r2 t h)))⟩;rw[hq];refine wac _ (ye hqo) (wac _ (atN hqo) ?_);obtain⟨o1,o2⟩:=ho.at hqo;refine Tt.bind (Tt.call (zf1 (n:=g.1.length+1) (by omega) (r1.up (by omega)) o1) waa.fst.fst.fst.fst) λv⟨v1,v2⟩=>hna _ ⟨_,rfl,v1,λt h=>hfz t (zev.2 ?_)⟩;rcases(v2 t).1 h with h|h
  ·exact .inl (r2 t h)
  ·exact .inr ⟨r3 cv,o2 t h⟩
 ·subst hs;dsimp only;rw[hz2];obtain⟨o1,o2⟩:=ho.at hzo;refine wac _ (ye hzo) (wac _ (atN hzo) ?_);refine Tt.bind (Tt.call (zf1 (n:=g.1.length+1) (by omega) hu o1) waa.fst.fst.fst.fst) λv⟨v1,v2⟩=>?_;have ho2:FoS g B (o.set z v):=ho.set v1 λt h=>((v2 t).1 h).elim (hub t) (o2 t);refine Tt.J (λs=>∃fr:Bool,s=(w,(n:Int),fr,(i:Int),(k:Int),v,g,o,p,x)) (λnb hnb=>wab (λ_=>hnb _ ⟨_,rfl⟩) λ_=>?_) λs⟨fr,hs⟩=>?_
  ·exact wac _ (ye hzo) (wac _ (atN hzo) (hnb _ ⟨_,rfl⟩))
  ·subst hs;dsimp only;rw[hz2];exact wac _ (ye hzo) (wac _ (zbz _ hzo) (hnv _ ⟨_,_,rfl,ho2⟩))
def PrS(g:ja)(em:List Bool)(al B:List (List Int))(p:jf)(r:List Int):Prop:=r.length<=1000/\∀t∈r,inT em al (B.getD p.1.toNat []) t p.2.1
section
variable{g:ja}(hg:zc6 g)(hz:gFd g=zd)(hok:GOk g){em:List Bool}{al B:List (List Int)}(hA:EmA g em al)(hF:Tn (fun nn => zao nn g) (FoS g B))
include hg hz hok hA hF
theorem zsz{k:Nat}(hk:k<g.2.2.1.length):Tn (λnn=>J3 nn g (k:Int)) (PrS g em al B g.2.2.1[k]):=by
 have ht:=hok.t;have hat:=atN hk;have hmem:g.2.2.1[k]∈g.2.2.1:=wec hk;unfold J3;generalize g.2.2.1[k]=p at hat hmem;have hit:=hok.items p hmem;have hll:=hok.len p hmem;obtain⟨l0,l1⟩:=hok.left p hmem;obtain⟨q,hq⟩:∃q:Nat,p.1=q:=⟨p.1.toNat,by omega⟩
 refine Tt.J (λs=>s=((k:Int),false,g)) (λnx hnx=>?_) λs hs=>?_
 ·refine Tt.bind (Tt.call (Yi g hg) waa) λb hb=>?_;have hbt:=hb.2 hz;subst hbt;refine wad (wap rfl (wap (wf5 (by omega)) (hnx _ ?_)));rw[wf5 (by omega)]
 ·subst hs;refine wap rfl ?_;refine wac _ hat ?_;have hOf:Tn (λnn=>zst nn g p.2.1) (λr=>RN g.1.length r/\∀t∈r,inF em al t p.2.1):=z5c g hg hz hok em al hA.e hA.l hA.f _ (by omega) hit;refine Tt.bind (Tt.call hOf waa) λr⟨r1,r2⟩=>?_;refine Tt.J (PrS g em al B p) (λny hny=>?_) λs hs=>Tt.pure hs;refine wac _ hat (Tt.bind (Tt.call (zqb g hg em hA.e hA.l _ (by omega) hit) waa) λb hb=>wab (λcv=>?_) λ_=>hny _ ⟨by have:=r1.len;omega,λt h=>zev.2 (.inl (r2 t h))⟩);refine Tt.bind (Tt.call hF waa) λo ho=>wac _ hat ?_;have hqo:q<o.length:=by rw[ho.l];omega
  rw[hq];refine wac _ (atN hqo) ?_;obtain⟨o1,o2⟩:=ho.at hqo;have hU:Tn (λnn=>zh8 nn r o[q]) (λv=>RN (g.1.length+1) v/\∀x,x∈v↔x∈r\/x∈o[q]):=zf1 (by omega) (r1.up (by omega)) o1;refine Tt.bind (Tt.call hU waa) λv⟨v1,v2⟩=>hny _ ⟨by have:=v1.len;omega,λt h=>zev.2 ?_⟩;rcases(v2 t).1 h with h|h
  ·exact .inl (r2 t h)
  ·exact .inr ⟨hb cv,by rw[hq,wem];exact o2 t h⟩
theorem znz:Tn (λnn=>Qg nn g) (λr=>r.length=g.2.2.1.length/\∀(k:Nat)(p:jf)(l:List Int),g.2.2.1[k]?=some p->r[k]?=some l->PrS g em al B p l):=by
 have hp:=hok.p;unfold Qg;refine Tt.loop (λm s=>∃(d:Nat)(o:List (List Int)),d<=g.2.2.1.length/\m=g.2.2.1.length-d/\s=((d:Int),g,o)/\o.length=d/\∀(k:Nat)(p:jf)(l:List Int),g.2.2.1[k]?=some p->o[k]?=some l->PrS g em al B p l) g.2.2.1.length waa ⟨0,[],by omega,by omega,rfl,rfl,λk p l _ h=>by simp at h⟩ λm s⟨d,o,hd,hm,hs,hol,ho⟩ nx hnx=>?_;subst hs;dsimp only;refine wab (λc=>?_) λc=>Tt.pure ⟨by have:=wd4 c;omega,ho⟩;have c:=wd3 c;have hdl:d<g.2.2.1.length:=by omega
 refine Tt.bind (Tt.call (zsz hg hz hok hA hF hdl) waa.fst) λr hr=>wac _ (Jw (by simp;omega) (by omega)) (wad ?_);rw[wI (by omega) (by omega)];refine hnx (g.2.2.1.length-(d+1)) _ (by omega) ⟨d+1,_,by omega,rfl,rfl,by simp[hol],λk p l h1 h2=>?_⟩;by_cases hk:k<o.length
 ·rw[weg hk]at h2;exact ho k p l h1 h2
 ·rw[wei (by omega)]at h2;have:k=d:=by
   have:=(wd5.1 h2).1;simp at this;omega
  subst this;rw[wd2 hdl]at h1;rw[hol,wg2]at h2;cases h1;simp at h2;subst h2;exact hr
theorem zzp(hn:NC g em al B):Tn (λnn=>Vx nn g) (λr=>r.1.1=0):=by
 have ht:=hok.t;have hr:=hok.r;have hp:=hok.p;unfold Vx;refine Tt.bind (Tt.call (Yi g hg) waa) λb hb=>?_;have hbt:=hb.2 hz;subst hbt;refine wap rfl (Tt.bind (Tt.call (znz hg hz hok hA hF) waa) λa⟨ha,hs2⟩=>?_);have key:∀r t:Int,Tn (λnn=>Ju nn g a r t) (λl=>l.length<=1):=λr t=>by
  unfold Ju;refine Tt.loop (λm s=>∃(d:Nat)(f:List Int),d<=g.2.2.1.length/\m=g.2.2.1.length-d/\s=(a,r,t,(d:Int),g,f)/\f.length<=1/\(f≠[]->∃(k:Nat)(p:jf),k<d/\g.2.2.1[k]?=some p/\p.1=r/\inT em al (B.getD p.1.toNat []) t p.2.1)) g.2.2.1.length waa ⟨0,[],by omega,by omega,rfl,by simp,λh=>absurd rfl h⟩ λm s⟨d,f,hd,hm,hs,hf1,hf2⟩ nx hnx=>?_;subst hs;dsimp only;refine wab (λc=>?_) λc=>Tt.pure hf1;have c:=wd3 c;have hdl:d<g.2.2.1.length:=by omega
  have hda:d<a.length:=by omega
  have hat:=atN hdl;have hgp:g.2.2.1[d]?=some g.2.2.1[d]:=wd2 hdl;generalize g.2.2.1[d]=p at hat hgp;have hps:=hs2 d p _ hgp (wd2 hda);refine Tt.J (λs=>∃f:List Int,s=(a,r,t,(d:Int),g,f)/\f.length<=1/\(f≠[]->∃(k:Nat)(p:jf),k<d+1/\g.2.2.1[k]?=some p/\p.1=r/\inT em al (B.getD p.1.toNat []) t p.2.1)) (λny hny=>?_) λs⟨f,hs,h1,h2⟩=>?_
  ·refine Tt.J (λs=>∃b,s=(a,r,t,(d:Int),b,g,f)/\(b=true->p.1=r/\inT em al (B.getD p.1.toNat []) t p.2.1)) (λnz hnz=>?_) λs⟨b,hs,hb⟩=>?_
   ·refine wac _ hat (wad (wab (λc1=>wac _ (atN hda) ?_) λc1=>hnz _ ⟨_,rfl,λh=>by cases h⟩));have hl:=hps.1;refine Tt.bind (Tt.call (zi9 _ t (by omega)) waa.fst) λb hb=>hnz _ ⟨_,rfl,λh=>⟨wd3 c1,?_⟩⟩;subst hb;exact hps.2 t (wd3 h)
   ·subst hs;dsimp only;have hmono:f≠[]->∃(k:Nat)(p:jf),k<d+1/\g.2.2.1[k]?=some p/\p.1=r/\inT em al (B.getD p.1.toNat []) t p.2.1:=λh=>by
     obtain⟨k,p,k1,k2⟩:=hf2 h;exact⟨k,p,by omega,k2⟩
    refine wab (λc1=>?_) λ_=>hny _ ⟨f,rfl,hf1,hmono⟩;obtain⟨b1,b2⟩:=hb c1;have hfe:f=[]:=wf3 λh=>by
     obtain⟨k,p',k1,k2,k3,k4⟩:=hf2 h;have:=hn k d p' p k2 hgp (by rw[k3,b1]) t k4 b2;omega
    subst hfe;exact wac _ (Jw (by simp) (by omega)) (hny _ ⟨_,rfl,by simp,λ_=>⟨d,p,by omega,hgp,b1,b2⟩⟩)
  ·subst hs;dsimp only;refine wad ?_;rw[wI (by omega) (by omega)];exact hnx (g.2.2.1.length-(d+1)) _ (by omega) ⟨d+1,f,by omega,rfl,rfl,h1,h2⟩
 refine Tt.loop (λm s=>∃d:Nat,d<=g.2.1.length/\m=g.2.1.length-d/\s=(a,(d:Int),g,(0,0,0,()))) g.2.1.length waa ⟨0,by omega,by omega,rfl⟩ λm s⟨d,hd,hm,hs⟩ nx hnx=>?_;subst hs;dsimp only;refine wab (λc=>?_) λc=>Tt.pure rfl;have c:=wd3 c;refine Tt.loop (λm s=>∃j:Nat,j<=g.1.length+1/\m=g.1.length+1-j/\s=(a,(d:Int),(j:Int),g,(0,0,0,()))) (g.1.length+1) waa.fst ⟨0,by omega,by omega,rfl⟩ λm s⟨j,hj,hm,hs⟩ ny hny=>?_;subst hs;dsimp only;refine wab (λc1=>?_) λc1=>wad ?_
 ·have c1:=wd3 c1;refine Tt.bind (Tt.call (key _ _) waa.fst.fst) λl hl=>wap (wf5 (by omega)) (wad ?_);rw[wI (by omega) (by omega)];exact hny (g.1.length+1-(j+1)) _ (by omega) ⟨j+1,by omega,rfl,rfl⟩
 ·rw[wI (by omega) (by omega)];exact(hnx (g.2.1.length-(d+1)) _ (by omega) ⟨d+1,by omega,rfl,rfl⟩).fst
end
end Go.Proofs.YtdllbdlnmjngcaaGreat.T
namespace Go.Proofs.YtdllbdlnmjngcaaGreat
set_option maxRecDepth 100000
set_option maxHeartbeats 8000000
set_option linter.unusedVariables false
set_option linter.unusedSimpArgs false
open Go Go.RowKit L
theorem wbd{P:Program}{W:Env}{n:Nat}{F:PFrame}{H:PHeap}{o:Oper}{l:List Oper}{ops:Array Oper}{K:PFrame->PHeap->Prop}{s x:Operand}{t e:TypeId}{k b d id ver m m2:Nat}{z:Value}{cs cs2:List PV}{px:PV}(hg:o.guard=none)(ho:o.op=.call { callee :=.builtin .append,args:=#[s,x],argTypes:=#[t,t] })(hd:o.dst=some d)(hdn:d<n)(ht:yq P t=some (e,k,b,z))
  (hs:evP F s=.ps id ver) (hr:H id=⟨ver,some (.row e k m cs)⟩) (hp:evP F x=px) (hx:zdj H k px=some (m2,cs2)) (hleaf:∀p∈cs2,qh H p=true) (h63:m+m2<=maxLen) (hbytes:(m+m2)*b<=140737488355328)
  (h:∀ver' H',H' id=⟨ver',some (.row e k (m+m2) (cs++cs2))⟩->(∀j,j≠id->H' j=H j)->PL P W n ops l (F.put (some d) (.ps id ver')) H' K):PL P W n ops (o::l) F H K:=by
 subst hp;refine waz hg (PE.append (cs:=cs) ho hd hdn ht hs (by simp[qm,hr]) hx hleaf h63 hbytes ?_);rw[hd];exact zw4 (h _)
theorem ja4{x:Rx}{r:List Rx}{q:Int}(h:vk (x::r) q=0):(x.kind=1\/x.kind=2\/x.kind=3\/x.kind=4\/x.kind=5\/x.kind=6\/x.kind=7)/\ofK x.kind<=q/\vk r (q-ofK x.kind+1)=0:=by
 rw[vk]at h;split at h
 ·omega
 ·rename_i h1;split at h
  ·omega
  ·rename_i h2;refine⟨?_,by omega,h⟩;have:¬ofK x.kind<0:=λh=>h1 (Or.inl h);unfold ofK at this;split at this
   ·omega
   ·split at this
    ·omega
    ·split at this<;>omega
theorem z18{l:List Rx}(h:zdl l=0):l.length<=512:=by
 unfold zdl at h;split at h
 ·omega
 ·omega
def WfX(l:List Rx)(e:E):Prop:=l.length<=512/\l=post e
theorem WfX.check{l:List Rx}{e:E}(h:WfX l e):zdl l=0:=by obtain⟨h1,rfl⟩:=h;exact z27 e h1
def qr(N:Nat)(f:Nat->Bool):PV :=.sl 1 ((List.range N).map λq=>B (f q))
def qx(N:Nat)(f:Nat->Nat->Bool):PV :=.sl 1 ((List.range N).map λp=>qr N (f p))
def MatAt(H:PHeap)(b v:Nat)(g:Nat->Nat)(N:Nat)(f:Nat->Nat->Bool):Prop:=
 H b=⟨v,some (.row 42 1 N ((List.range N).map λp=> .ps (b+1+p) (g p)))⟩/\∀p,p<N->H (b+1+p)=⟨g p,some (.row 4 1 N ((List.range N).map λq=>B (f p q)))⟩
theorem Zr{N q:Nat}(hq:q<N)(f:Nat->PV)(x:PV):setMany ((List.range N).map f) q [x]=(List.range N).map λi=>if i=q then x else f i:=by
 apply wfj;intro i;rw[za _ _ _ (by simp;omega)];by_cases h:q<=i/\i<q+[x].length
 ·have:i=q:=by simp at h;omega
  subst this;rw[if_pos h];simp[hq]
 ·rw[if_neg h];have:¬i=q:=by simp at h;omega
  simp only[web];cases h:(List.range N)[i]? with
  |none=>rfl
  |some j=>
   have:=(wd5.1 h).2;simp at this;subst this;simp[*]
def zrf(f:Nat->Nat->Bool)(p q:Nat)(x:Bool):Nat->Nat->Bool:=λp' q'=>if p'=p/\q'=q then x else f p' q'
theorem MatAt.set{H H':PHeap}{b v:Nat}{g:Nat->Nat}{N:Nat}{f:Nat->Nat->Bool}(h:MatAt H b v g N f){p q:Nat}{x:Bool}(hp:p<N)(h1:H' (b+1+p)=⟨g p,some (.row 4 1 N ((List.range N).map λi=>if i=q then B x else B (f p i)))⟩)(ho:∀j,j≠b+1+p->H' j=H j):MatAt H' b v g N (zrf f p q x):=by
 refine⟨by rw[ho b (by omega)];exact h.1,λi hi=>?_⟩;by_cases e:i=p
 ·subst e;rw[h1];congr 3;apply we9;intro j _;unfold zrf;by_cases e:j=q<;>simp[e]
 ·rw[ho _ (by omega),h.2 i hi];congr 3;apply we9;intro j _;unfold zrf;simp[e]
theorem z2s(N:Nat)(f:Nat->Bool):NoP (qr N f) :=.sl _ _ λc hc=>by obtain⟨q,_,rfl⟩:=wef.1 hc;exact .u _
theorem Yn(N:Nat)(f:Nat->Nat->Bool):NoP (qx N f) :=.sl _ _ λc hc=>by obtain⟨q,_,rfl⟩:=wef.1 hc;exact z2s _ _
theorem MatAt.view{H:PHeap}{b v:Nat}{g:Nat->Nat}{N:Nat}{f:Nat->Nat->Bool}(h:MatAt H b v g N f):View H (.ps b v) (qx N f):=by
 refine View.row (t:=42) (k:=1) (n:=N) (cs:=(List.range N).map λp=> .ps (b+1+p) (g p)) (by simp[qm,h.1]) _ (by simp) (λy hy=>by obtain⟨z,_,rfl⟩:=wef.1 hy;rfl) λi p q h1 h2=>?_;have e:((List.range N).map λp=>qr N (f p)).flatMap PV.cells=(List.range N).map λp=>qr N (f p):=by
  induction List.range N with
  |nil=>rfl
  |cons x l ih=>rw[wen,wex,ih];rfl
 rw[e]at h2;simp only[web,wee]at h1 h2;obtain⟨a,ha,rfl⟩:=h1;obtain⟨a',ha',rfl⟩:=h2;rw[ha]at ha';cases ha';have hlt:i<N:=by have:=(wd5.1 ha).1;simpa using this
 have hai:a=i:=by have:=(wd5.1 ha).2;simpa using this.symm
 subst hai;exact wcb (t:=4) (n:=N) (by simp[qm,h.2 a hlt]) (by simp) λc hc=>by obtain⟨q,_,rfl⟩:=wef.1 hc;exact⟨.u _,rfl⟩
theorem zph(b:Nat)(w:ByteArray)(N:Nat)(hN:N=w.size+1)(H:PHeap)(hw:w.size<=1000):
  PIn Tryz.prog 178 [S w] H (λq H'=>∃v g,q=.ps b v/\MatAt H' b v g N (λ_ _=>false)/\∀j,j<b->H' j=H j):=by
 refine wbx Tryz.func178 rfl Tryz.ntmps178 (by simp) (by kernel_rfl) λW=>?_
 repeat (first|(refine PC.seq λK hK=>?_)|(refine PC.region ?_)|(refine PL.k rfl λKK hKK=>?_;simp (disch:=omega) [go_sem,jj];refine hKK _ ?_;clear hKK KK)|(refine PL.done hK ?_;clear hK))
 refine wba b (d:=5) rfl rfl rfl (by simp) zlh rfl (by omega) (by unfold maxLen;omega) (ips:=[]) (by simp[go_sem]) (by simp[zal]) (cs:=[]) rfl λv0 H0 b0 o0=>?_
 repeat (first|(refine PC.seq λK hK=>?_)|(refine PC.block ?_)|(refine PC.region ?_)|(refine PL.k rfl λKK hKK=>?_;simp (disch:=omega) [go_sem,jj];refine hKK _ ?_;clear hKK KK)|(refine PL.done hK ?_;clear hK))
 refine PC.loop (λm F H'=>∃(p v:Nat)(g:Nat->Nat),p<=N/\m=N-p/\F 0=S w/\F 3=.ps b v/\F 4=I p/\H' b=⟨v,some (.row 42 1 p ((List.range p).map λi=> .ps (b+1+i) (g i)))⟩ /\
  (∀i,i<p->H' (b+1+i)=⟨g i,some (.row 4 1 N ((List.range N).map λq=>B false))⟩)/\∀j,j<b->H' j=H j) (m:=N) ⟨0,v0,λ_=>0,by omega,by omega,by simp[go_sem],by simp[go_sem],by simp[go_sem],b0,by omega,λj hj=>o0 j (by omega)⟩ λm F H' hI=>?_
 obtain⟨p,v,g,hp,hm,f0,f3,f4,h0,hr,ho⟩:=hI;by_cases hlt:p<=w.size
 ·repeat (first|(refine PC.seq λK hK=>?_)|(refine PC.block ?_)|(refine PC.region ?_)|(refine PL.k rfl λKK hKK=>?_;simp (disch:=omega) [go_sem,jj,f0,f3,f4,hlt];refine hKK _ ?_;clear hKK KK)|(refine PL.done hK ?_;clear hK)|(refine PC.skip (hK _ _ ?_);clear hK)|(refine wah ?_ ?_;focus (simp[go_sem,f0,f3,f4,hlt];done)))
  refine wa4 (kx :=.i64) (ky :=.i64) (b+1+p) (d:=16) (m:=N) rfl rfl rfl (by simp) zyu rfl (by simp[go_sem,hN]) (by simp[go_sem,hN]) (by unfold maxLen;omega) (by omega) λv1 H1 b1 o1=>?_;have h01:H1 b=_:=(o1 b (by omega)).trans h0;refine way (d:=17) rfl rfl rfl (by simp) zlh rfl (by omega) (ips:=[(0,.ps (b+1+p) v1)]) (by simp[go_sem]) (by simp[zal,go_sem,okC,qh,b1]) (ps:=[.ps (b+1+p) v1]) rfl ?_;refine wbd (d:=18) (id:=b) (ver:=v) (m:=p) (m2:=1) (cs:=(List.range p).map λi=> .ps (b+1+i) (g i)) (cs2:=[.ps (b+1+p) v1]) (px :=.sl 1 [.ps (b+1+p) v1]) rfl rfl rfl (by simp) zlh (by simp[go_sem,f3]) h01 (by simp[go_sem]) (by simp[zdj,PV.cells]) (by simp[qh,qm,b1]) (by unfold maxLen;omega) (by omega) λv2 H2 b2 o2=>?_
  repeat (first|(refine PC.region ?_)|(refine PL.k rfl λKK hKK=>?_;simp (disch:=omega) [go_sem,jj,f0,f4];refine hKK _ ?_;clear hKK KK)|(refine PL.done hK ?_;clear hK))
  refine PL.nil ⟨N-(p+1),by omega,p+1,v2,λi=>if i=p then v1 else g i,by omega,by omega,by simp[go_sem,f0],by simp[go_sem],by simp[go_sem],?_,?_,?_⟩
  ·rw[b2];congr 3;rw[List.range_succ,wfl];congr 1
   ·apply we9;intro i hi;have:i<p:=by simpa using hi
    simp[show ¬i=p by omega]
   ·simp
  ·intro i hi;by_cases e:i=p
   ·subst e;rw[o2 _ (by omega),b1];simp[List.map_const']
   ·rw[o2 _ (by omega),o1 _ (by omega),hr i (by omega)];simp[e]
  ·intro j hj;rw[o2 _ (by omega),o1 _ (by omega),ho j hj]
 ·repeat (first|(refine PC.seq λK hK=>?_)|(refine PC.region ?_)|(refine PL.k rfl λKK hKK=>?_;simp (disch:=omega) [go_sem,jj,f0,f3,f4,hlt];refine hKK _ ?_;clear hKK KK)|(refine PL.done hK ?_;clear hK)|(refine wag ?_ ?_;focus (simp[go_sem,f0,f3,f4,hlt];done))|(refine PC.exit ?_;first|(refine hK _ _ ?_;clear hK)|(clear hK;refine hK _ _ ?_;clear hK)|(clear hK;clear hK;refine hK _ _ ?_;clear hK)))
  have hpe:p=N:=by omega
  subst hpe;refine PC.ret ?_;refine⟨.inr rfl,.ps b v,?_,v,g,rfl,⟨h0,hr⟩,ho⟩;simp[Qi,z6,Tryz.results178,go_sem]
theorem zks{N:Nat}{f f':Nat->Nat->Bool}(h:∀i j,i<N->j<N->f i j=f' i j):qx N f=qx N f':=by
 unfold qx qr;congr 1;apply we9;intro i hi;congr 1;apply we9;intro j hj;rw[h i j (by simpa using hi) (by simpa using hj)]
theorem jdv(w:ByteArray)(N:Nat)(hN:N=w.size+1)(hw:w.size<=1000):PCall Tryz.prog 126 [S w] (· = qx N λp q=>decide (p=q)):=by
 refine waf Tryz.func126 rfl Tryz.ntmps126 (by simp) λW=>?_
 repeat (first|(refine PC.seq λK hK=>?_)|(refine PC.region ?_)|(refine PL.k rfl λKK hKK=>?_;simp (disch:=omega) [go_sem,jj];refine hKK _ ?_;clear hKK KK)|(refine PL.done hK ?_;clear hK))
 refine PL.inl rfl rfl (zph 50 w N hN _ hw) (by simp[go_sem]) (by simp[yr,go_sem]) ?_;rintro q H1 ⟨v,g,rfl,hm1,ho1⟩
 repeat (first|(refine PC.seq λK hK=>?_)|(refine PC.block ?_)|(refine PC.region ?_)|(refine PL.k rfl λKK hKK=>?_;simp (disch:=omega) [go_sem,jj];refine hKK _ ?_;clear hKK KK)|(refine PL.done hK ?_;clear hK))
 refine PC.loop (λm F H'=>∃(p:Nat),p<=N/\m=N-p/\F 0=S w/\F 3=.ps 50 v/\F 4=I p/\∃f,MatAt H' 50 v g N f/\∀i j,f i j=decide (i=j/\i<p)) (m:=N) ⟨0,by omega,by omega,by simp[go_sem],by simp[go_sem],by simp[go_sem],_,hm1,by simp⟩ λm F H' hI=>?_;obtain⟨p,hp,hm,f0,f3,f4,f,hM,hf⟩:=hI;by_cases hlt:p<=w.size
 ·have hr0:=hM.1;have hpl:p<N:=by omega
  have hr1:=hM.2 p hpl
  repeat (first|(refine PC.seq λK hK=>?_)|(refine PC.block ?_)|(refine PC.region ?_)|(refine PL.k rfl λKK hKK=>?_;simp (disch:=omega) [go_sem,jj,f0,f3,f4,hlt,hr0,hr1,hpl];refine hKK _ ?_;clear hKK KK)|(refine PL.k rfl λKK hKK=>?_;simp[go_sem,jj,f0,f3,f4,hlt,hr0,hr1,hpl];refine hKK _ ?_;clear hKK KK)|(refine PL.done hK ?_;clear hK)|(refine PC.skip (hK _ _ ?_);clear hK)|(refine wah ?_ ?_;focus (simp[go_sem,f0,f3,f4,hlt,hr0,hr1,hpl];done)))
  refine wa5 (id:=50+1+p) rfl rfl (by simp[jo]) (by simp[go_sem]) hr1 zrj (v:=B true) (by simp[go_sem]) (by simp[go_sem]) rfl rfl (by simp;omega) (Zr hpl _ _) λH2 b2 o2=>?_
  repeat (first|(refine PC.region ?_)|(refine PL.k rfl λKK hKK=>?_;simp (disch:=omega) [go_sem,jj,f0,f4];refine hKK _ ?_;clear hKK KK)|(refine PL.done hK ?_;clear hK))
  refine PL.nil ⟨N-(p+1),by omega,p+1,by omega,by omega,by simp[go_sem,f0],by simp[go_sem,f3],by simp[go_sem],_,hM.set hpl b2 o2,?_⟩;intro i j;unfold zrf;split
  ·rename_i h;obtain⟨rfl,rfl⟩:=h;simp
  ·rename_i h;rw[hf];by_cases e:i=j
   ·subst e;have:¬i=p:=λh'=>h ⟨h',h'⟩;simp;omega
   ·simp[e]
 ·repeat (first|(refine PC.seq λK hK=>?_)|(refine PC.region ?_)|(refine PL.k rfl λKK hKK=>?_;simp (disch:=omega) [go_sem,jj,f0,f3,f4,hlt];refine hKK _ ?_;clear hKK KK)|(refine PL.done hK ?_;clear hK)|(refine wag ?_ ?_;focus (simp[go_sem,f0,f3,f4,hlt];done))|(refine PC.exit ?_;first|(refine hK _ _ ?_;clear hK)|(clear hK;refine hK _ _ ?_;clear hK)|(clear hK;clear hK;refine hK _ _ ?_;clear hK)))
  have hff:qx N f=qx N λp q=>decide (p=q):=zks λi j hi hj=>by rw[hf];simp;omega
  refine PC.ret ?_;refine⟨.inr rfl,.ps 50 v,_,?_,hM.view,Yn _ _,hff⟩;simp[Qi,z6,Tryz.results126,go_sem]
def z6y(x:Rx)(w:ByteArray)(p q:Nat):Bool:=false
theorem set_ok(x:Rx)(w:ByteArray)(N:Nat)(hN:N=w.size+1)(hw:w.size=0):PCall Tryz.prog 127 [z9r x,S w] (· = qx N (z6y x w)):=by
 refine waf Tryz.func127 rfl Tryz.ntmps127 (by simp) λW=>?_;refine PC.seq λK hK=>?_;refine PC.region ?_;refine wbg 40 (d:=2) rfl rfl rfl (by simp) (v:=z9r x) (by simp[go_sem]) (by simp[go_sem,z9r,W64]) rfl λv0 H0 b0 o0=>?_
 repeat (first|(refine PC.seq λK hK=>?_)|(refine PC.region ?_)|(refine PL.k rfl λKK hKK=>?_;simp (disch:=omega) [go_sem,jj];refine hKK _ ?_;clear hKK KK)|(refine PL.done hK ?_;clear hK))
 refine PL.inl rfl rfl (zph 50 w N hN _ (by omega)) (by simp[go_sem]) (by simp[yr,go_sem]) ?_;rintro q H1 ⟨v,g,rfl,hm1,ho1⟩;have b1:H1 40=_:=(ho1 40 (by omega)).trans b0
 repeat (first|(refine PC.seq λK hK=>?_)|(refine PC.block ?_)|(refine PC.region ?_)|(refine PL.k rfl λKK hKK=>?_;simp (disch:=omega) [go_sem,jj];refine hKK _ ?_;clear hKK KK)|(refine PL.done hK ?_;clear hK))
 refine PC.loop (λm F H'=>∃(p:Nat),p<=w.size/\m=w.size-p/\F 1=S w/\F 2=.pp 40 0 v0/\F 5=.ps 50 v/\F 6=I p/\H' 40=⟨v0,some (.box 97 (z9r x).cells)⟩/\∃f,MatAt H' 50 v g N f/\∀i j,f i j=(decide (i<p) && z6y x w i j)) (m:=w.size) ⟨0,by omega,by omega,by simp[go_sem],by simp[go_sem],by simp[go_sem],by simp[go_sem],b1,_,hm1,by simp⟩ λm F H' hI=>?_;obtain⟨p,hp,hm,f1,f2,f5,f6,h40,f,hM,hf⟩:=hI;by_cases hlt:p<w.size
 ·omega
 ·repeat (first|(refine PC.seq λK hK=>?_)|(refine PC.region ?_)|(refine PL.k rfl λKK hKK=>?_;simp (disch:=omega) [go_sem,jj,f1,f2,f5,f6,hlt];refine hKK _ ?_;clear hKK KK)|(refine PL.done hK ?_;clear hK)|(refine wag ?_ ?_;focus (simp[go_sem,f1,f2,f5,f6,hlt];done))|(refine PC.exit ?_;first|(refine hK _ _ ?_;clear hK)|(clear hK;refine hK _ _ ?_;clear hK)|(clear hK;clear hK;refine hK _ _ ?_;clear hK)))
  have hff:qx N f=qx N (z6y x w):=zks λi j hi hj=>by
   rw[hf,show z6y x w i j=false from rfl,Bool.and_false]
  refine PC.ret ?_;refine⟨.inr rfl,.ps 50 v,_,?_,hM.view,Yn _ _,hff⟩;simp[Qi,z6,Tryz.results127,go_sem]
theorem zpi(fa fb:Nat->Nat->Bool)(w:ByteArray)(N:Nat)(hN:N=w.size+1)(hw:w.size<=1000):PCall Tryz.prog 129 [qx N fa,qx N fb,S w] (· = qx N λp q=>fa p q ||fb p q):=by
 refine waf Tryz.func129 rfl Tryz.ntmps129 (by simp) λW=>?_
 repeat (first|(refine PC.seq λK hK=>?_)|(refine PC.region ?_)|(refine PL.k rfl λKK hKK=>?_;simp (disch:=omega) [go_sem,jj];refine hKK _ ?_;clear hKK KK)|(refine PL.done hK ?_;clear hK))
 refine PL.inl rfl rfl (zph 50 w N hN _ hw) (by simp[go_sem]) (by simp[yr,go_sem]) ?_;rintro q H1 ⟨v,g,rfl,hm1,ho1⟩
 repeat (first|(refine PC.seq λK hK=>?_)|(refine PC.block ?_)|(refine PC.region ?_)|(refine PL.k rfl λKK hKK=>?_;simp (disch:=omega) [go_sem,jj];refine hKK _ ?_;clear hKK KK)|(refine PL.done hK ?_;clear hK))
 refine PC.loop (λm F H'=>∃(p:Nat),p<=N/\m=N-p/\F 0=qx N fa/\F 1=qx N fb/\F 2=S w/\F 7=.ps 50 v/\F 8=I p/\∃f,MatAt H' 50 v g N f/\∀i j,i<p->j<N->f i j=(fa i j ||fb i j)) (m:=N) ⟨0,by omega,by omega,by simp[go_sem],by simp[go_sem],by simp[go_sem],by simp[go_sem],by simp[go_sem],_,hm1,by omega⟩ λm F H' hI=>?_;obtain⟨p,hp,hm,f0,f1,f2,f7,f8,f,hM,hf⟩:=hI;by_cases hlt:p<=w.size
 ·have hpl:p<N:=by omega
  repeat (first|(refine PC.seq λK hK=>?_)|(refine PC.block ?_)|(refine PC.region ?_)|(refine PL.k rfl λKK hKK=>?_;simp (disch:=omega) [go_sem,jj,f2,f8,hlt];refine hKK _ ?_;clear hKK KK)|(refine PL.done hK ?_;clear hK)|(refine PC.skip (hK _ _ ?_);clear hK)|(refine wah ?_ ?_;focus (simp[go_sem,f2,f8,hlt];done)))
  refine PC.loop (λm F H'=>∃(q:Nat),q<=N/\m=N-q/\F 0=qx N fa/\F 1=qx N fb/\F 2=S w/\F 7=.ps 50 v/\F 8=I p/\F 9=I q/\∃f,MatAt H' 50 v g N f/\(∀i j,i<p->j<N->f i j=(fa i j ||fb i j))/\∀j,j<q->f p j=(fa p j ||fb p j)) (m:=N) ⟨0,by omega,by omega,by simp[go_sem,f0],by simp[go_sem,f1],by simp[go_sem,f2],by simp[go_sem,f7],by simp[go_sem,f8],by simp[go_sem],_,hM,hf,by omega⟩ λm2 F H' hI=>?_;clear f0 f1 f2 f7 f8 hM hf f;obtain⟨q,hq,hm2,f0,f1,f2,f7,f8,f9,f,hM,hf,hfq⟩:=hI;by_cases hlq:q<=w.size
  ·have hr0:=hM.1;have hql:q<N:=by omega
   have hr1:=hM.2 p hpl
   repeat (first|(refine PC.seq λK hK=>?_)|(refine PC.block ?_)|(refine PC.region ?_)|(refine PL.k rfl λKK hKK=>?_;simp (disch:=omega) [go_sem,jj,f2,f9,hlq];refine hKK _ ?_;clear hKK KK)|(refine PL.done hK ?_;clear hK)|(refine PC.skip (hK _ _ ?_);clear hK)|(refine wah ?_ ?_;focus (simp[go_sem,f2,f9,hlq];done)))
   refine wb5 21 mixed (by kernel_rfl) ?_;cases hfa:fa p q
   all_goals
    repeat (first|(refine QF.k rfl λKK hKK=>?_;simp (disch:=omega) [go_sem,jj,f0,f1,f7,f8,f9,hr0,hr1,hpl,hql,qx,qr,hfa];refine hKK _ ?_;clear hKK KK)|(refine QF.k rfl λKK hKK=>?_;simp[go_sem,jj,f0,f1,f7,f8,f9,hr0,hr1,hpl,hql,qx,qr,hfa];refine hKK _ ?_;clear hKK KK)|(refine QF.g rfl rfl λKK hKK=>?_;simp (disch:=omega) [go_sem,L.stepG,f0,f1,f7,f8,f9,hr0,hr1,hpl,hql,qx,qr,hfa];refine hKK _ ?_;clear hKK KK)|(refine QF.g rfl rfl λKK hKK=>?_;simp[go_sem,L.stepG,f0,f1,f7,f8,f9,hr0,hr1,hpl,hql,qx,qr,hfa];refine hKK _ ?_;clear hKK KK))
    refine QF.nil ?_
    repeat (refine PL.k rfl λKK hKK=>?_;simp (disch:=omega) [go_sem,jj,hr0,hr1,hpl,hql];refine hKK _ ?_;clear hKK KK)
   ·refine wa5 (id:=50+1+p) rfl rfl (by simp[jo]) (by simp[go_sem]) hr1 zrj (v:=B (fa p q ||fb p q)) (by simp[go_sem,hfa]) (by simp[go_sem]) rfl rfl (by simp;omega) (Zr hql _ _) λH2 b2 o2=>?_
    repeat (first|(refine PC.region ?_)|(refine PL.k rfl λKK hKK=>?_;simp (disch:=omega) [go_sem,jj,f9];refine hKK _ ?_;clear hKK KK)|(refine PL.done hK ?_;clear hK))
    refine PL.nil ⟨N-(q+1),by omega,q+1,by omega,by omega,by simp[go_sem,f0],by simp[go_sem,f1],by simp[go_sem,f2],by simp[go_sem,f7],by simp[go_sem,f8],by simp[go_sem],_,hM.set hpl b2 o2,?_,?_⟩
    ·intro i j hi hj;unfold zrf;rw[if_neg (by omega)];exact hf i j hi hj
    ·intro j hj;unfold zrf;split
     ·rename_i h;obtain⟨_,rfl⟩:=h;rfl
     ·exact hfq j (by omega)
   ·refine wa5 (id:=50+1+p) rfl rfl (by simp[jo]) (by simp[go_sem]) hr1 zrj (v:=B (fa p q ||fb p q)) (by simp[go_sem,hfa]) (by simp[go_sem]) rfl rfl (by simp;omega) (Zr hql _ _) λH2 b2 o2=>?_
    repeat (first|(refine PC.region ?_)|(refine PL.k rfl λKK hKK=>?_;simp (disch:=omega) [go_sem,jj,f9];refine hKK _ ?_;clear hKK KK)|(refine PL.done hK ?_;clear hK))
    refine PL.nil ⟨N-(q+1),by omega,q+1,by omega,by omega,by simp[go_sem,f0],by simp[go_sem,f1],by simp[go_sem,f2],by simp[go_sem,f7],by simp[go_sem,f8],by simp[go_sem],_,hM.set hpl b2 o2,?_,?_⟩
    ·intro i j hi hj;unfold zrf;rw[if_neg (by omega)];exact hf i j hi hj
    ·intro j hj;unfold zrf;split
     ·rename_i h;obtain⟨_,rfl⟩:=h;rfl
     ·exact hfq j (by omega)
  ·repeat (first|(refine PC.seq λK hK=>?_)|(refine PC.region ?_)|(refine PL.k rfl λKK hKK=>?_;simp (disch:=omega) [go_sem,jj,f2,f8,f9,hlq];refine hKK _ ?_;clear hKK KK)|(refine PL.done hK ?_;clear hK)|(refine wag ?_ ?_;focus (simp[go_sem,f2,f8,f9,hlq];done))|(refine PC.exit ?_;first|(refine hK _ _ ?_;clear hK)|(clear hK;refine hK _ _ ?_;clear hK)|(clear hK;clear hK;refine hK _ _ ?_;clear hK)))
   refine PL.nil ⟨N-(p+1),by omega,p+1,by omega,by omega,by simp[go_sem,f0],by simp[go_sem,f1],by simp[go_sem,f2],by simp[go_sem,f7],by simp[go_sem],f,hM,λi j hi hj=>?_⟩;by_cases e:i=p
   ·subst e;exact hfq j (by omega)
   ·exact hf i j (by omega) hj
 ·repeat (first|(refine PC.seq λK hK=>?_)|(refine PC.region ?_)|(refine PL.k rfl λKK hKK=>?_;simp (disch:=omega) [go_sem,jj,f2,f7,f8,hlt];refine hKK _ ?_;clear hKK KK)|(refine PL.done hK ?_;clear hK)|(refine wag ?_ ?_;focus (simp[go_sem,f2,f7,f8,hlt];done))|(refine PC.exit ?_;first|(refine hK _ _ ?_;clear hK)|(clear hK;refine hK _ _ ?_;clear hK)|(clear hK;clear hK;refine hK _ _ ?_;clear hK)))
  have hff:qx N f=qx N λp q=>fa p q ||fb p q:=zks λi j hi hj=>hf i j (by omega) hj
  refine PC.ret ?_;refine⟨.inr rfl,.ps 50 v,_,?_,hM.view,Yn _ _,hff⟩;simp[Qi,z6,Tryz.results129,go_sem]
def zfb(fa fb:Nat->Nat->Bool)(k p q:Nat):Bool:=(List.range k).any λr=>decide (p<=r/\r<=q) && fa p r && fb r q
theorem zmf(fa fb:Nat->Nat->Bool)(k p q:Nat):zfb fa fb (k+1) p q=(zfb fa fb k p q ||(decide (p<=k/\k<=q) && fa p k && fb k q)):=by simp[zfb,List.range_succ]
theorem jdq(fa fb:Nat->Nat->Bool){k p q:Nat}(h:k<=p):zfb fa fb k p q=false:=by
 simp[zfb];intro r hr h1;omega
theorem zuz(fa fb:Nat->Nat->Bool)(w:ByteArray)(N:Nat)(hN:N=w.size+1)(hw:w.size<=1000):PCall Tryz.prog 128 [qx N fa,qx N fb,S w] (· = qx N (zfb fa fb N)):=by
 refine waf Tryz.func128 rfl Tryz.ntmps128 (by simp) λW=>?_
 repeat (first|(refine PC.seq λK hK=>?_)|(refine PC.region ?_)|(refine PL.k rfl λKK hKK=>?_;simp (disch:=omega) [go_sem,jj];refine hKK _ ?_;clear hKK KK)|(refine PL.done hK ?_;clear hK))
 refine PL.inl rfl rfl (zph 50 w N hN _ hw) (by simp[go_sem]) (by simp[yr,go_sem]) ?_;rintro q H1 ⟨v,g,rfl,hm1,ho1⟩
 repeat (first|(refine PC.seq λK hK=>?_)|(refine PC.block ?_)|(refine PC.region ?_)|(refine PL.k rfl λKK hKK=>?_;simp (disch:=omega) [go_sem,jj];refine hKK _ ?_;clear hKK KK)|(refine PL.done hK ?_;clear hK))
 refine PC.loop (λm F H'=>∃(p:Nat),p<=N/\m=N-p/\F 0=qx N fa/\F 1=qx N fb/\F 2=S w/\F 7=.ps 50 v/\F 8=I p/\∃f,MatAt H' 50 v g N f/\(∀i j,i<p->j<N->f i j=zfb fa fb N i j)/\∀i j,p<=i->f i j=false) (m:=N) ⟨0,by omega,by omega,by simp[go_sem],by simp[go_sem],by simp[go_sem],by simp[go_sem],by simp[go_sem],_,hm1,by omega,by simp⟩ λm F H' hI=>?_;obtain⟨p,hp,hm,f0,f1,f2,f7,f8,f,hM,hf,hz⟩:=hI;by_cases hlt:p<=w.size
 ·have hpl:p<N:=by omega
  repeat (first|(refine PC.seq λK hK=>?_)|(refine PC.block ?_)|(refine PC.region ?_)|(refine PL.k rfl λKK hKK=>?_;simp (disch:=omega) [go_sem,jj,f2,f8,hlt];refine hKK _ ?_;clear hKK KK)|(refine PL.done hK ?_;clear hK)|(refine PC.skip (hK _ _ ?_);clear hK)|(refine wah ?_ ?_;focus (simp[go_sem,f2,f8,hlt];done)))
  refine PC.loop (λm F H'=>∃(k:Nat),p<=k/\k<=N/\m=N-k/\F 0=qx N fa/\F 1=qx N fb/\F 2=S w/\F 7=.ps 50 v/\F 8=I p/\F 9=I k/\∃f,MatAt H' 50 v g N f/\(∀i j,i<p->j<N->f i j=zfb fa fb N i j)/\(∀i j,p+1<=i->f i j=false)/\∀j,j<N->f p j=zfb fa fb k p j) (m:=N-p) ⟨p,by omega,by omega,by omega,by simp[go_sem,f0],by simp[go_sem,f1],by simp[go_sem,f2],by simp[go_sem,f7],by simp[go_sem,f8],by simp[go_sem],_,hM,hf,λi j h=>hz i j (by omega),λj hj=>by rw[hz p j (by omega),jdq _ _ (by omega)]⟩ λm2 F H' hI=>?_;clear f0 f1 f2 f7 f8 hM hf hz f;obtain⟨k,hpk,hk,hm2,f0,f1,f2,f7,f8,f9,f,hM,hf,hz,hfp⟩:=hI;by_cases hlk:k<=w.size
  ·have hkl:k<N:=by omega
   repeat (first|(refine PC.seq λK hK=>?_)|(refine PC.block ?_)|(refine PC.region ?_)|(refine PL.k rfl λKK hKK=>?_;simp (disch:=omega) [go_sem,jj,f2,f9,hlk];refine hKK _ ?_;clear hKK KK)|(refine PL.done hK ?_;clear hK)|(refine PC.skip (hK _ _ ?_);clear hK)|(refine wah ?_ ?_;focus (simp[go_sem,f2,f9,hlk];done)))
   refine PC.loop (λm F H'=>∃(q:Nat),k<=q/\q<=N/\m=N-q/\F 0=qx N fa/\F 1=qx N fb/\F 2=S w/\F 7=.ps 50 v/\F 8=I p/\F 9=I k/\F 10=I q/\∃f,MatAt H' 50 v g N f/\(∀i j,i<p->j<N->f i j=zfb fa fb N i j)/\(∀i j,p+1<=i->f i j=false)/\∀j,j<N->f p j=zfb fa fb (if j<q then k+1 else k) p j) (m:=N-k) ⟨k,by omega,by omega,by omega,by simp[go_sem,f0],by simp[go_sem,f1],by simp[go_sem,f2],by simp[go_sem,f7],by simp[go_sem,f8],by simp[go_sem,f9],by simp[go_sem],_,hM,hf,hz,?_⟩ λm3 F H' hI=>?_
   ·intro j hj;rw[hfp j hj];split
    ·rw[zmf];simp;omega
    ·rfl
   clear f0 f1 f2 f7 f8 f9 hM hf hz hfp f;obtain⟨q,hkq,hq,hm3,f0,f1,f2,f7,f8,f9,f10,f,hM,hf,hz,hfp⟩:=hI;cases hfa:fa p k
   ·repeat (first|(refine PC.seq λK hK=>?_)|(refine PC.region ?_)|(refine PL.k rfl λKK hKK=>?_;simp (disch:=omega) [go_sem,jj,f0,f1,f2,f8,f9,f10,hpl,hkl,qx,qr,hfa];refine hKK _ ?_;clear hKK KK)|(refine PL.k rfl λKK hKK=>?_;simp[go_sem,jj,f0,f1,f2,f8,f9,f10,hpl,hkl,qx,qr,hfa];refine hKK _ ?_;clear hKK KK)|(refine PL.g rfl rfl λKK hKK=>?_;simp (disch:=omega) [go_sem,L.stepG,f0,f1,f2,f8,f9,f10,hpl,hkl,qx,qr,hfa];refine hKK _ ?_;clear hKK KK)|(refine PL.done hK ?_;clear hK)|(refine wag ?_ ?_;focus (simp[go_sem,f0,f1,f2,f8,f9,f10,hpl,hkl,qx,qr,hfa];done))|(refine PC.exit ?_;first|(refine hK _ _ ?_;clear hK)|(clear hK;refine hK _ _ ?_;clear hK)|(clear hK;clear hK;refine hK _ _ ?_;clear hK)))
    refine PL.nil ⟨N-(k+1),by omega,k+1,by omega,by omega,by omega,by simp[go_sem,f0,qx,qr],by simp[go_sem,f1,qx,qr],by simp[go_sem,f2],by simp[go_sem,f7],by simp[go_sem,f8],by simp[go_sem],f,hM,hf,hz,λj hj=>?_⟩;rw[hfp j hj];split
    ·rfl
    ·rw[zmf];simp[hfa]
   ·by_cases hlq:q<=w.size
    ·have hr0:=hM.1;have hql:q<N:=by omega
     have hr1:=hM.2 p hpl;have hnum:(q:Int)<=w.size:=by omega
     repeat (first|(refine PC.seq λK hK=>?_)|(refine PC.block ?_)|(refine PC.region ?_)|(refine PL.k rfl λKK hKK=>?_;simp (disch:=omega) [go_sem,jj,f0,f1,f2,f8,f9,f10,hpl,hkl,qx,qr,hfa,hnum,hlq];refine hKK _ ?_;clear hKK KK)|(refine PL.k rfl λKK hKK=>?_;simp[go_sem,jj,f0,f1,f2,f8,f9,f10,hpl,hkl,qx,qr,hfa,hnum,hlq];refine hKK _ ?_;clear hKK KK)|(refine PL.g rfl rfl λKK hKK=>?_;simp (disch:=omega) [go_sem,L.stepG,f0,f1,f2,f8,f9,f10,hpl,hkl,qx,qr,hfa,hnum,hlq];refine hKK _ ?_;clear hKK KK)|(refine PL.done hK ?_;clear hK)|(refine PC.skip (hK _ _ ?_);clear hK)|(refine wah ?_ ?_;focus (simp[go_sem,f0,f1,f2,f8,f9,f10,hpl,hkl,qx,qr,hfa,hnum,hlq];done)))
     refine wb5 21 mixed (by kernel_rfl) ?_;cases hfq:f p q
     all_goals
      repeat (first|(refine QF.k rfl λKK hKK=>?_;simp (disch:=omega) [go_sem,jj,f0,f1,f7,f8,f9,f10,hr0,hr1,hpl,hkl,hql,qx,qr,hfq];refine hKK _ ?_;clear hKK KK)|(refine QF.k rfl λKK hKK=>?_;simp[go_sem,jj,f0,f1,f7,f8,f9,f10,hr0,hr1,hpl,hkl,hql,qx,qr,hfq];refine hKK _ ?_;clear hKK KK)|(refine QF.g rfl rfl λKK hKK=>?_;simp (disch:=omega) [go_sem,L.stepG,f0,f1,f7,f8,f9,f10,hr0,hr1,hpl,hkl,hql,qx,qr,hfq];refine hKK _ ?_;clear hKK KK)|(refine QF.g rfl rfl λKK hKK=>?_;simp[go_sem,L.stepG,f0,f1,f7,f8,f9,f10,hr0,hr1,hpl,hkl,hql,qx,qr,hfq];refine hKK _ ?_;clear hKK KK))
      refine QF.nil ?_
      repeat (refine PL.k rfl λKK hKK=>?_;simp (disch:=omega) [go_sem,jj,hr0,hr1,hpl,hql];refine hKK _ ?_;clear hKK KK)
     all_goals
      refine wa5 (id:=50+1+p) rfl rfl (by simp[jo]) (by simp[go_sem]) hr1 zrj (v:=B (f p q ||fb k q)) (by simp[go_sem,hfq]) (by simp[go_sem]) rfl rfl (by simp;omega) (Zr hql _ _) λH2 b2 o2=>?_
      repeat (first|(refine PC.region ?_)|(refine PL.k rfl λKK hKK=>?_;simp (disch:=omega) [go_sem,jj,f10];refine hKK _ ?_;clear hKK KK)|(refine PL.done hK ?_;clear hK))
      refine PL.nil ⟨N-(q+1),by omega,q+1,by omega,by omega,by omega,by simp[go_sem,f0,qx,qr],by simp[go_sem,f1,qx,qr],by simp[go_sem,f2],by simp[go_sem,f7],by simp[go_sem,f8],by simp[go_sem,f9],by simp[go_sem],_,hM.set hpl b2 o2,?_,?_,?_⟩
      ·intro i j hi hj;unfold zrf;rw[if_neg (by omega)];exact hf i j hi hj
      ·intro i j hi;unfold zrf;rw[if_neg (by omega)];exact hz i j hi
      ·intro j hj;unfold zrf;split
       ·rename_i h;obtain⟨_,rfl⟩:=h;rw[hfp j hj,if_neg (by omega),if_pos (by omega),zmf];simp[hfa,hpk,hkq]
       ·rename_i h;have:¬j=q:=λe=>h ⟨rfl,e⟩;rw[hfp j hj];congr 1;by_cases e:j<q
        ·rw[if_pos e,if_pos (by omega)]
        ·rw[if_neg e,if_neg (by omega)]
    ·have hnum:¬(q:Int)<=w.size:=by omega
     repeat (first|(refine PC.seq λK hK=>?_)|(refine PC.region ?_)|(refine PL.k rfl λKK hKK=>?_;simp (disch:=omega) [go_sem,jj,f0,f1,f2,f8,f9,f10,hpl,hkl,qx,qr,hfa,hnum,hlq];refine hKK _ ?_;clear hKK KK)|(refine PL.k rfl λKK hKK=>?_;simp[go_sem,jj,f0,f1,f2,f8,f9,f10,hpl,hkl,qx,qr,hfa,hnum,hlq];refine hKK _ ?_;clear hKK KK)|(refine PL.g rfl rfl λKK hKK=>?_;simp (disch:=omega) [go_sem,L.stepG,f0,f1,f2,f8,f9,f10,hpl,hkl,qx,qr,hfa,hnum,hlq];refine hKK _ ?_;clear hKK KK)|(refine PL.done hK ?_;clear hK)|(refine wag ?_ ?_;focus (simp[go_sem,f0,f1,f2,f8,f9,f10,hpl,hkl,qx,qr,hfa,hnum,hlq];done))|(refine PC.exit ?_;first|(refine hK _ _ ?_;clear hK)|(clear hK;refine hK _ _ ?_;clear hK)|(clear hK;clear hK;refine hK _ _ ?_;clear hK)))
     refine PL.nil ⟨N-(k+1),by omega,k+1,by omega,by omega,by omega,by simp[go_sem,f0,qx,qr],by simp[go_sem,f1,qx,qr],by simp[go_sem,f2],by simp[go_sem,f7],by simp[go_sem,f8],by simp[go_sem],f,hM,hf,hz,λj hj=>?_⟩;rw[hfp j hj,if_pos (by omega)]
  ·repeat (first|(refine PC.seq λK hK=>?_)|(refine PC.region ?_)|(refine PL.k rfl λKK hKK=>?_;simp (disch:=omega) [go_sem,jj,f2,f8,f9,hlk];refine hKK _ ?_;clear hKK KK)|(refine PL.done hK ?_;clear hK)|(refine wag ?_ ?_;focus (simp[go_sem,f2,f8,f9,hlk];done))|(refine PC.exit ?_;first|(refine hK _ _ ?_;clear hK)|(clear hK;refine hK _ _ ?_;clear hK)|(clear hK;clear hK;refine hK _ _ ?_;clear hK)))
   refine PL.nil ⟨N-(p+1),by omega,p+1,by omega,by omega,by simp[go_sem,f0],by simp[go_sem,f1],by simp[go_sem,f2],by simp[go_sem,f7],by simp[go_sem],f,hM,λi j hi hj=>?_,λi j hi=>hz i j hi⟩;have hkN:k=N:=by omega
   by_cases e:i=p
   ·subst e;rw[hfp j hj,hkN]
   ·exact hf i j (by omega) hj
 ·repeat (first|(refine PC.seq λK hK=>?_)|(refine PC.region ?_)|(refine PL.k rfl λKK hKK=>?_;simp (disch:=omega) [go_sem,jj,f2,f7,f8,hlt];refine hKK _ ?_;clear hKK KK)|(refine PL.done hK ?_;clear hK)|(refine wag ?_ ?_;focus (simp[go_sem,f2,f7,f8,hlt];done))|(refine PC.exit ?_;first|(refine hK _ _ ?_;clear hK)|(clear hK;refine hK _ _ ?_;clear hK)|(clear hK;clear hK;refine hK _ _ ?_;clear hK)))
  have hff:qx N f=qx N (zfb fa fb N):=zks λi j hi hj=>hf i j (by omega) hj;refine PC.ret ?_;refine⟨.inr rfl,.ps 50 v,_,?_,hM.view,Yn _ _,hff⟩;simp[Qi,z6,Tryz.results128,go_sem]
@[go_sem] theorem sliceP_to {P:Program}{t:TypeId}{k:Nat}{xs:List PV}{kd:IntKind}{z:Int}(he:esz P t=some k) (h0:0<=z) (h1:z.toNat<=xs.length):zeu P t (.sl k xs) none (some (.u (.int kd z)))=some (.sl k (xs.take z.toNat)):=by
 simp[zeu,zdd,h0,he,h1]
abbrev Mt:=Nat->Nat->Bool
def sqF(N:Nat)(f:Mt):Mt:=λp q=>f p q ||zfb f f N p q
def ziz(N:Nat):Nat->Nat->Mt->Mt
 |0,_,f=>f
 |k+1,n,f=>if n<=N then ziz N k (2*n) (sqF N f)else f
def zby(N:Nat)(f:Mt):Mt:=ziz N N 1 f
theorem zzt(fa:Mt)(w:ByteArray)(N:Nat)(hN:N=w.size+1)(hw:w.size<=1000):PCall Tryz.prog 130 [qx N fa,S w] (· = qx N (zby N fa)):=by
 refine waf Tryz.func130 rfl Tryz.ntmps130 (by simp) λW=>?_
 repeat (first|(refine PC.seq λK hK=>?_)|(refine PC.block ?_)|(refine PC.region ?_)|(refine PL.k rfl λKK hKK=>?_;simp (disch:=omega) [go_sem,jj];refine hKK _ ?_;clear hKK KK)|(refine PL.done hK ?_;clear hK))
 refine PC.loop (λm F H'=>∃(n k:Nat)(f:Mt),1<=n/\n<=2*N/\m=2*N-n/\N<n+k/\F 1=S w/\F 5=qx N f/\F 6=I n/\ziz N k n f=zby N fa) (m:=2*N-1) ⟨1,N,fa,by omega,by omega,by omega,by omega,by simp[go_sem],by simp[go_sem],by simp[go_sem],rfl⟩ λm F H' hI=>?_;obtain⟨n,k,f,hn1,hn2,hm,hk,f1,f5,f6,hA⟩:=hI;have nM:∀f,NoP (qx N f):=Yn N;by_cases hlt:n<=N
 ·have hn':(n:Int)<=w.size+1:=by omega
  repeat (first|(refine PC.seq λK hK=>?_)|(refine PC.block ?_)|(refine PC.region ?_)|(refine PL.k rfl λKK hKK=>?_;simp (disch:=omega) [go_sem,jj,f1,f5,f6,hn'];refine hKK _ ?_;clear hKK KK)|(refine PL.done hK ?_;clear hK)|(refine PC.skip (hK _ _ ?_);clear hK)|(refine wah ?_ ?_;focus (simp[go_sem,f1,f5,f6,hn'];done)))
  refine waj rfl rfl (by kernel_rfl) (zuz f f w N hN hw) (by simp[go_sem]) (by simp[go_sem,f1,nM]) (by simp[go_sem,f1,nM]) ?_
  repeat (refine PL.k rfl λKK hKK=>?_;simp (disch:=omega) [go_sem,jj,f1];refine hKK _ ?_;clear hKK KK)
  refine waj rfl rfl (by kernel_rfl) (zpi f (zfb f f N) w N hN hw) (by simp[go_sem]) (by simp[go_sem,f1,nM]) (by simp[go_sem,f1,nM]) ?_
  repeat (first|(refine PC.region ?_)|(refine PL.k rfl λKK hKK=>?_;simp (disch:=omega) [go_sem,jj,f6];refine hKK _ ?_;clear hKK KK)|(refine PL.done hK ?_;clear hK))
  obtain⟨k,rfl⟩:∃k',k=k'+1:=⟨k-1,by omega⟩
  rw[ziz,if_pos hlt]at hA;refine PL.nil ⟨2*N-2*n,by omega,2*n,k,_,by omega,by omega,by omega,by omega,by simp[go_sem,f1],by simp[go_sem];rfl,by simp[go_sem],hA⟩
 ·have hn':¬(n:Int)<=w.size+1:=by omega
  repeat (first|(refine PC.seq λK hK=>?_)|(refine PC.region ?_)|(refine PL.k rfl λKK hKK=>?_;simp (disch:=omega) [go_sem,jj,f1,f5,f6,hn'];refine hKK _ ?_;clear hKK KK)|(refine PL.done hK ?_;clear hK)|(refine wag ?_ ?_;focus (simp[go_sem,f1,f5,f6,hn'];done))|(refine PC.exit ?_;first|(refine hK _ _ ?_;clear hK)|(clear hK;refine hK _ _ ?_;clear hK)|(clear hK;clear hK;refine hK _ _ ?_;clear hK)))
  have:f=zby N fa:=by
   rw[<- hA];cases k with
   |zero=>rfl
   |succ k=>rw[ziz,if_neg hlt]
  subst this
  (refine PC.ret ?_;refine fin (.inr rfl) (by simp[Qi,z6,Tryz.results130,go_sem,nM,Yn]) (by simp[go_sem,nM,Yn]))
def zdq(w:ByteArray)(x:Rx)(ms:List Mt)(n:Nat):Mt:=
 let N:=w.size+1
 let at_:=λi=>ms.getD i λ_ _=>false
 if x.kind=1 then z6y x w
 else if x.kind=3 then zfb (at_ n) (at_ (n+1)) N
 else if x.kind=4 then λp q=>at_ n p q ||at_ (n+1) p q
 else if x.kind=7 then λp q=>decide (p=q) ||at_ n p q
 else if x.kind=6 then zby N (at_ n)
 else if x.kind=5 then λp q=>decide (p=q) ||zby N (at_ n) p q
 else λp q=>decide (p=q)
def zfl(w:ByteArray)(ms:List Mt)(x:Rx):List Mt:=ms.take (ms.length-(ofK x.kind).toNat)++[zdq w x ms (ms.length-(ofK x.kind).toNat)]
def zlv(w:ByteArray)(l:List Rx):List Mt:=l.foldl (zfl w) []
theorem z7m(w:ByteArray)(l:List Rx)(k:Nat)(hk:k<l.length):zlv w (l.take (k+1))=zfl w (zlv w (l.take k)) l[k]:=by
 unfold zlv;rw[wel hk,wfi];rfl
theorem z6t(w:ByteArray)(ms:List Mt)(x:Rx)(h0:0<=ofK x.kind)(h:ofK x.kind<=ms.length):((zfl w ms x).length:Int)=ms.length-ofK x.kind+1:=by
 simp[zfl];omega
def msV(N:Nat)(ms:List Mt):PV :=.sl 1 (ms.map (qx N))
theorem zu7(N:Nat)(ms:List Mt):(ms.map (qx N)).flatMap PV.cells=ms.map (qx N):=by
 induction ms with
 |nil=>rfl
 |cons m ms ih=>rw[wen,wex,ih];rfl
def MidT(w:ByteArray)(l:List Rx)(N i n:Nat)(ms:List Mt)(f:Mt)(F:PFrame)(H:PHeap):Prop:=
 F 0=slX l/\F 1=S w/\F 5=msV N ms/\F 6=I i/\F 7=I n/\F 8=qx N f
theorem jbr(l:List Rx)(w:ByteArray)(N:Nat)(hN:N=w.size+1)(hw:w.size<=1000)(hw0:w.size=0)(hOf:∀k,PCall Tryz.prog 125 [I k] (· = I (ofK k)))(hl:zdl l=0)(m0:Mt)(hr:zlv w l=[m0]):PCall Tryz.prog 83 [slX l,S w] (· = qx N m0):=by
 have hl512:=z18 hl;have nM:∀f,NoP (qx N f):=Yn N;refine waf Tryz.func83 rfl Tryz.ntmps83 (by simp) λW=>?_
 repeat (first|(refine PC.seq λK hK=>?_)|(refine PC.region ?_)|(refine PL.k rfl λKK hKK=>?_;simp (disch:=omega) [go_sem,jj];refine hKK _ ?_;clear hKK KK)|(refine PL.done hK ?_;clear hK))
 refine way (d:=9) rfl rfl rfl (by simp) zd9 rfl (by omega) (ips:=[]) (by simp[go_sem]) (by simp[zal]) (ps:=[]) rfl ?_
 repeat (first|(refine PC.seq λK hK=>?_)|(refine PC.block ?_)|(refine PC.region ?_)|(refine PL.k rfl λKK hKK=>?_;simp (disch:=omega) [go_sem,jj];refine hKK _ ?_;clear hKK KK)|(refine PL.done hK ?_;clear hK))
 refine PC.loop (λm F H'=>∃i:Nat,i<=l.length/\m=l.length-i/\F 0=slX l/\F 1=S w/\F 5=msV N (zlv w (l.take i))/\F 6=I i/\vk (l.drop i) (zlv w (l.take i)).length=0/\(zlv w (l.take i)).length<=i) (m:=l.length) ⟨0,by omega,by omega,by simp[go_sem],by simp[go_sem],by simp[go_sem,msV,zlv],by simp[go_sem],?_,by simp[zlv]⟩ λm F H' hI=>?_
 ·unfold zdl at hl;rw[if_neg (by omega)]at hl;simpa [zlv]using hl
 obtain⟨i,hi,hm,f0,f1,f5,f6,hchk,hlen⟩:=hI;by_cases hlt:i<l.length
 ·have hsucc:=z7m w l i hlt;rw[z6s l i hlt]at hchk;obtain⟨hkind,hof,hnext⟩:=ja4 hchk;generalize hS:zlv w (l.take i)=ms at *;obtain⟨n,hn⟩:∃n,n=ms.length-(ofK l[i].kind).toNat:=⟨_,rfl⟩
  have h0:0<=ofK l[i].kind:=by unfold ofK;rcases hkind with e|e|e|e|e|e|e<;>rw[e]<;>decide
  have hnI:(ms.length:Int)-ofK l[i].kind=n:=by omega
  have f0':F 0=.sl 5 (l.map Va):=f0;have f5':F 5=.sl 1 (ms.map (qx N)):=f5;have hkm:i<(l.map Va).length:=by simpa using hlt
  repeat (first|(refine PC.seq λK hK=>?_)|(refine PC.block ?_)|(refine PC.region ?_)|(refine PL.k rfl λKK hKK=>?_;simp (disch:=omega) [go_sem,jj,f0',f5',f6,hlt,hkm,Va];refine hKK _ ?_;clear hKK KK)|(refine PL.k rfl λKK hKK=>?_;simp[go_sem,jj,f0',f5',f6,hlt,hkm,Va];refine hKK _ ?_;clear hKK KK)|(refine PL.done hK ?_;clear hK)|(refine PC.skip (hK _ _ ?_);clear hK)|(refine wah ?_ ?_;focus (simp[go_sem,f0',f5',f6,hlt,hkm,Va];done)))
  refine waj rfl rfl (by kernel_rfl) (hOf l[i].kind) (by simp[go_sem]) (by simp[go_sem]) (by simp[go_sem]) ?_
  repeat (first|(refine PC.seq λK hK=>?_)|(refine PC.region ?_)|(refine PL.k rfl λKK hKK=>?_;simp (disch:=omega) [go_sem,jj,hnI,f1];refine hKK _ ?_;clear hKK KK)|(refine PL.done hK ?_;clear hK))
  refine waj rfl rfl (by kernel_rfl) (jdv w N hN hw) (by simp[go_sem]) (by simp[go_sem]) (by simp[go_sem]) ?_
  repeat (refine PL.k rfl λKK hKK=>?_;simp[go_sem,jj];refine hKK _ ?_;clear hKK KK)
  refine PL.done hK ?_;clear hK;refine wca (MidT w l N i n ms (zdq w l[i] ms n)) ?_ ?_
  ·have k567:ofK l[i].kind=1->n<ms.length:=by omega
   have k34:ofK l[i].kind=2->n<ms.length/\n+1<ms.length:=by omega
   have p1:(0:Int)<=(n:Int)+1:=by omega
   have p2:((n:Int)+1).toNat=n+1:=by omega
   rcases hkind with e|e|e|e|e|e|e
   ·repeat (first|(refine PC.seq λK hK=>?_)|(refine PC.block ?_)|(refine PC.region ?_)|(refine PL.k rfl λKK hKK=>?_;simp (disch:=omega) [go_sem,jj,f0',f6,hlt,hkm,Va,e,f1];refine hKK _ ?_;clear hKK KK)|(refine PL.k rfl λKK hKK=>?_;simp[go_sem,jj,f0',f6,hlt,hkm,Va,e,f1];refine hKK _ ?_;clear hKK KK)|(refine PL.done hK ?_;clear hK)|(refine wah ?_ ?_;focus (simp[go_sem,f0',f6,hlt,hkm,Va,e,f1];done)))
    refine waj rfl rfl (by kernel_rfl) (set_ok l[i] w N hN hw0) (by simp[go_sem]) (by simp[go_sem,W64]) (by simp[go_sem,z9r,W64]) ?_
    repeat (refine PL.k rfl λKK hKK=>?_;simp[go_sem,jj];refine hKK _ ?_;clear hKK KK)
    refine PL.nil ⟨by simp[go_sem,f0],by simp[go_sem,f1],by simp[go_sem,f5],by simp[go_sem,f6],by simp[go_sem],by simp[go_sem,zdq,e]⟩
   ·repeat (first|(refine PC.seq λK hK=>?_)|(refine PC.block ?_)|(refine PC.region ?_)|(refine PL.k rfl λKK hKK=>?_;simp (disch:=omega) [go_sem,jj,f0',f6,hlt,hkm,Va,e,f1];refine hKK _ ?_;clear hKK KK)|(refine PL.k rfl λKK hKK=>?_;simp[go_sem,jj,f0',f6,hlt,hkm,Va,e,f1];refine hKK _ ?_;clear hKK KK)|(refine PL.done hK ?_;clear hK)|(refine wag ?_ ?_;focus (simp[go_sem,f0',f6,hlt,hkm,Va,e,f1];done)))
    refine PC.skip ?_;refine⟨by simp[go_sem,f0],by simp[go_sem,f1],by simp[go_sem,f5],by simp[go_sem,f6],by simp[go_sem],by simp[go_sem,zdq,e]⟩
   ·obtain⟨n1,n2⟩:=k34 (by rw[e];rfl)
    repeat (first|(refine PC.seq λK hK=>?_)|(refine PC.block ?_)|(refine PC.region ?_)|(refine PL.k rfl λKK hKK=>?_;simp (disch:=omega) [go_sem,jj,f0',f6,hlt,hkm,Va,e,f1];refine hKK _ ?_;clear hKK KK)|(refine PL.k rfl λKK hKK=>?_;simp[go_sem,jj,f0',f6,hlt,hkm,Va,e,f1];refine hKK _ ?_;clear hKK KK)|(refine PL.done hK ?_;clear hK)|(refine wah ?_ ?_;focus (simp[go_sem,f0',f6,hlt,hkm,Va,e,f1];done))|(refine wag ?_ ?_;focus (simp[go_sem,f0',f6,hlt,hkm,Va,e,f1];done)))
    refine wb6 mixed (by kernel_rfl) ?_
    repeat (first|(refine QF.k rfl λKK hKK=>?_;simp (disch:=omega) [go_sem,jj,f5',f1,n1,n2,p1,p2];refine hKK _ ?_;clear hKK KK)|(refine QF.k rfl λKK hKK=>?_;simp[go_sem,jj,f5',f1,n1,n2,p1,p2];refine hKK _ ?_;clear hKK KK)|(refine QF.g rfl rfl λKK hKK=>?_;simp (disch:=omega) [go_sem,L.stepG,f5',f1,n1,n2,p1,p2];refine hKK _ ?_;clear hKK KK)|(refine QF.g rfl rfl λKK hKK=>?_;simp[go_sem,L.stepG,f5',f1,n1,n2,p1,p2];refine hKK _ ?_;clear hKK KK))
    refine wcv rfl rfl (by kernel_rfl) (zuz ms[n] ms[n+1] w N hN hw) (by simp[go_sem]) (by simp[go_sem,nM]) (by simp[go_sem,nM]) ?_
    repeat (first|(refine QF.k rfl λKK hKK=>?_;simp (disch:=omega) [go_sem,jj];refine hKK _ ?_;clear hKK KK)|(refine QF.k rfl λKK hKK=>?_;simp[go_sem,jj];refine hKK _ ?_;clear hKK KK)|(refine QF.g rfl rfl λKK hKK=>?_;simp (disch:=omega) [go_sem,L.stepG];refine hKK _ ?_;clear hKK KK)|(refine QF.g rfl rfl λKK hKK=>?_;simp[go_sem,L.stepG];refine hKK _ ?_;clear hKK KK))
    refine QF.nil ⟨by simp[go_sem,f0],by simp[go_sem,f1],by simp[go_sem,f5],by simp[go_sem,f6],by simp[go_sem],by simp[go_sem,zdq,e,n1,n2,hN]⟩
   ·obtain⟨n1,n2⟩:=k34 (by rw[e];rfl)
    repeat (first|(refine PC.seq λK hK=>?_)|(refine PC.block ?_)|(refine PC.region ?_)|(refine PL.k rfl λKK hKK=>?_;simp (disch:=omega) [go_sem,jj,f0',f6,hlt,hkm,Va,e,f1];refine hKK _ ?_;clear hKK KK)|(refine PL.k rfl λKK hKK=>?_;simp[go_sem,jj,f0',f6,hlt,hkm,Va,e,f1];refine hKK _ ?_;clear hKK KK)|(refine PL.done hK ?_;clear hK)|(refine wah ?_ ?_;focus (simp[go_sem,f0',f6,hlt,hkm,Va,e,f1];done))|(refine wag ?_ ?_;focus (simp[go_sem,f0',f6,hlt,hkm,Va,e,f1];done)))
    refine wb6 mixed (by kernel_rfl) ?_
    repeat (first|(refine QF.k rfl λKK hKK=>?_;simp (disch:=omega) [go_sem,jj,f5',f1,n1,n2,p1,p2];refine hKK _ ?_;clear hKK KK)|(refine QF.k rfl λKK hKK=>?_;simp[go_sem,jj,f5',f1,n1,n2,p1,p2];refine hKK _ ?_;clear hKK KK)|(refine QF.g rfl rfl λKK hKK=>?_;simp (disch:=omega) [go_sem,L.stepG,f5',f1,n1,n2,p1,p2];refine hKK _ ?_;clear hKK KK)|(refine QF.g rfl rfl λKK hKK=>?_;simp[go_sem,L.stepG,f5',f1,n1,n2,p1,p2];refine hKK _ ?_;clear hKK KK))
    refine wcv rfl rfl (by kernel_rfl) (zpi ms[n] ms[n+1] w N hN hw) (by simp[go_sem]) (by simp[go_sem,nM]) (by simp[go_sem,nM]) ?_
    repeat (first|(refine QF.k rfl λKK hKK=>?_;simp (disch:=omega) [go_sem,jj];refine hKK _ ?_;clear hKK KK)|(refine QF.k rfl λKK hKK=>?_;simp[go_sem,jj];refine hKK _ ?_;clear hKK KK)|(refine QF.g rfl rfl λKK hKK=>?_;simp (disch:=omega) [go_sem,L.stepG];refine hKK _ ?_;clear hKK KK)|(refine QF.g rfl rfl λKK hKK=>?_;simp[go_sem,L.stepG];refine hKK _ ?_;clear hKK KK))
    refine QF.nil ⟨by simp[go_sem,f0],by simp[go_sem,f1],by simp[go_sem,f5],by simp[go_sem,f6],by simp[go_sem],by simp[go_sem,zdq,e,n1,n2,hN]⟩
   ·have n1:=k567 (by rw[e];rfl)
    repeat (first|(refine PC.seq λK hK=>?_)|(refine PC.block ?_)|(refine PC.region ?_)|(refine PL.k rfl λKK hKK=>?_;simp (disch:=omega) [go_sem,jj,f0',f5',f6,hlt,hkm,Va,e,f1,n1];refine hKK _ ?_;clear hKK KK)|(refine PL.k rfl λKK hKK=>?_;simp[go_sem,jj,f0',f5',f6,hlt,hkm,Va,e,f1,n1];refine hKK _ ?_;clear hKK KK)|(refine PL.done hK ?_;clear hK)|(refine wah ?_ ?_;focus (simp[go_sem,f0',f5',f6,hlt,hkm,Va,e,f1,n1];done))|(refine wag ?_ ?_;focus (simp[go_sem,f0',f5',f6,hlt,hkm,Va,e,f1,n1];done)))
    refine waj rfl rfl (by kernel_rfl) (zzt ms[n] w N hN hw) (by simp[go_sem]) (by simp[go_sem,nM]) (by simp[go_sem,nM]) ?_
    repeat (refine PL.k rfl λKK hKK=>?_;simp (disch:=omega) [go_sem,jj,f1];refine hKK _ ?_;clear hKK KK)
    refine waj rfl rfl (by kernel_rfl) (zpi (λp q=>decide (p=q)) (zby N ms[n]) w N hN hw) (by simp[go_sem]) (by simp[go_sem,nM]) (by simp[go_sem,nM]) ?_
    repeat (refine PL.k rfl λKK hKK=>?_;simp[go_sem,jj];refine hKK _ ?_;clear hKK KK)
    refine PL.nil ⟨by simp[go_sem,f0],by simp[go_sem,f1],by simp[go_sem,f5],by simp[go_sem,f6],by simp[go_sem],by simp[go_sem,zdq,e,n1,hN]⟩
   ·have n1:=k567 (by rw[e];rfl)
    repeat (first|(refine PC.seq λK hK=>?_)|(refine PC.block ?_)|(refine PC.region ?_)|(refine PL.k rfl λKK hKK=>?_;simp (disch:=omega) [go_sem,jj,f0',f5',f6,hlt,hkm,Va,e,f1,n1];refine hKK _ ?_;clear hKK KK)|(refine PL.k rfl λKK hKK=>?_;simp[go_sem,jj,f0',f5',f6,hlt,hkm,Va,e,f1,n1];refine hKK _ ?_;clear hKK KK)|(refine PL.done hK ?_;clear hK)|(refine wah ?_ ?_;focus (simp[go_sem,f0',f5',f6,hlt,hkm,Va,e,f1,n1];done))|(refine wag ?_ ?_;focus (simp[go_sem,f0',f5',f6,hlt,hkm,Va,e,f1,n1];done)))
    refine waj rfl rfl (by kernel_rfl) (zzt ms[n] w N hN hw) (by simp[go_sem]) (by simp[go_sem,nM]) (by simp[go_sem,nM]) ?_
    repeat (refine PL.k rfl λKK hKK=>?_;simp[go_sem,jj];refine hKK _ ?_;clear hKK KK)
    refine PL.nil ⟨by simp[go_sem,f0],by simp[go_sem,f1],by simp[go_sem,f5],by simp[go_sem,f6],by simp[go_sem],by simp[go_sem,zdq,e,n1,hN]⟩
   ·have n1:=k567 (by rw[e];rfl)
    repeat (first|(refine PC.seq λK hK=>?_)|(refine PC.block ?_)|(refine PC.region ?_)|(refine PL.k rfl λKK hKK=>?_;simp (disch:=omega) [go_sem,jj,f0',f5',f6,hlt,hkm,Va,e,f1,n1];refine hKK _ ?_;clear hKK KK)|(refine PL.k rfl λKK hKK=>?_;simp[go_sem,jj,f0',f5',f6,hlt,hkm,Va,e,f1,n1];refine hKK _ ?_;clear hKK KK)|(refine PL.done hK ?_;clear hK)|(refine wah ?_ ?_;focus (simp[go_sem,f0',f5',f6,hlt,hkm,Va,e,f1,n1];done))|(refine wag ?_ ?_;focus (simp[go_sem,f0',f5',f6,hlt,hkm,Va,e,f1,n1];done)))
    refine waj rfl rfl (by kernel_rfl) (zpi (λp q=>decide (p=q)) ms[n] w N hN hw) (by simp[go_sem]) (by simp[go_sem,nM]) (by simp[go_sem,nM]) ?_
    repeat (refine PL.k rfl λKK hKK=>?_;simp[go_sem,jj];refine hKK _ ?_;clear hKK KK)
    refine PL.nil ⟨by simp[go_sem,f0],by simp[go_sem,f1],by simp[go_sem,f5],by simp[go_sem,f6],by simp[go_sem],by simp[go_sem,zdq,e,n1,hN]⟩
  ·clear f0 f1 f5 f6 f0' f5' F;intro F H2 ⟨f0,f1,f5,f6,f7,f8⟩;have hst:zfl w ms l[i]=ms.take n++[zdq w l[i] ms n]:=by rw[hn];rfl
   generalize zdq w l[i] ms n=f at *;have f5':F 5=.sl 1 (ms.map (qx N)):=f5;have hnm:n<=ms.length:=by omega
   refine PC.region ?_;refine wba 60 (d:=95) rfl rfl rfl (by simp) zd9 rfl (by omega) (by unfold maxLen;omega) (ips:=[]) (by simp[go_sem]) (by simp[zal]) (cs:=[]) rfl λv3 H3 b3 o3=>?_
   repeat (first|(refine PL.k rfl λKK hKK=>?_;simp (disch:=omega) [go_sem,jj,f5',f7,hnm];refine hKK _ ?_;clear hKK KK)|(refine PL.k rfl λKK hKK=>?_;simp[go_sem,jj,f5',f7,hnm];refine hKK _ ?_;clear hKK KK))
   refine wbd (d:=99) (id:=60) (ver:=v3) (m:=0) (m2:=n) (cs:=[]) (cs2:=(ms.take n).map (qx N)) (px :=.sl 1 ((ms.take n).map (qx N))) rfl rfl rfl (by simp) zd9 (by simp[go_sem]) b3 (by simp[go_sem]) (by rw[zdj,zu7];simp;omega) (λp hp=>by obtain⟨y,_,rfl⟩:=wef.1 hp;rfl) (by unfold maxLen;omega) (by omega) λv4 H4 b4 o4=>?_
   repeat (refine PL.k rfl λKK hKK=>?_;simp (disch:=omega) [go_sem,jj,f8];refine hKK _ ?_;clear hKK KK)
   refine way (d:=101) rfl rfl rfl (by simp) zd9 rfl (by omega) (ips:=[(0,qx N f)]) (by simp[go_sem]) (by simp[zal,go_sem,okC,qx]) (ps:=[qx N f]) rfl ?_;refine wbd (d:=102) (id:=60) (ver:=v4) (m:=0+n) (m2:=1) (cs:=[]++(ms.take n).map (qx N)) (cs2:=[qx N f]) (px :=.sl 1 [qx N f]) rfl rfl rfl (by simp) zd9 (by simp[go_sem]) b4 (by simp[go_sem]) (by simp[zdj,qx,PV.cells]) (by simp[qh,qx]) (by unfold maxLen;omega) (by omega) λv5 H5 b5 o5=>?_
   repeat (refine PL.k rfl λKK hKK=>?_;simp[go_sem,jj];refine hKK _ ?_;clear hKK KK)
   refine PL.done hK ?_;clear hK;refine PC.freeze 5 ((ms.take n++[f]).map (qx N)) (by simp[go_sem]) b5 (by rw[zu7];simp) (λy hy=>by obtain⟨z,_,rfl⟩:=wef.1 hy;rfl) (by simp;omega) λH6 o6=>?_;refine PC.region ?_
   repeat (refine PL.k rfl λKK hKK=>?_;simp (disch:=omega) [go_sem,jj,f6];refine hKK _ ?_;clear hKK KK)
   have hl2:=z6t w ms l[i] h0 hof;refine PL.nil ⟨l.length-(i+1),by omega,i+1,by omega,by omega,by simp[go_sem,f0],by simp[go_sem,f1],by simp[go_sem,hsucc,hst,msV],by simp[go_sem],by rw[hsucc,hl2];exact hnext,by rw[hsucc];omega⟩
 ·have hie:i=l.length:=by omega
  rw[hie,we1,hr]at f5
  repeat (first|(refine PC.seq λK hK=>?_)|(refine PC.region ?_)|(refine PL.k rfl λKK hKK=>?_;simp (disch:=omega) [go_sem,jj,f0,f5,f6,hlt,msV];refine hKK _ ?_;clear hKK KK)|(refine PL.done hK ?_;clear hK)|(refine wag ?_ ?_;focus (simp[go_sem,f0,f5,f6,hlt,msV];done))|(refine PC.exit ?_;first|(refine hK _ _ ?_;clear hK)|(clear hK;refine hK _ _ ?_;clear hK)|(clear hK;clear hK;refine hK _ _ ?_;clear hK)))
  (refine PC.ret ?_;refine fin (.inr rfl) (by simp[Qi,z6,Tryz.results83,go_sem,nM]) (by simp[go_sem,nM]))
end Go.Proofs.YtdllbdlnmjngcaaGreat
