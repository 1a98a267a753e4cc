/-
  Texts of this proof, put together: Ql, Qm, Qn, Qo, Qp, Qq, Pm, Yk, Yn, Yo, Pa, Rg, Ri, Qs, Qt, Qv, Qw, Qx, Qy, Qz, Ra, Rj, Kq, Rk, Yp, Yq, Yr, Ys, Yt, Yu, Yv, Yw, Yx, Yy, Yz, Za, Zb, Zc, Zd, Ze, Zf, Zg, Zh, Zi, Zj, Zk, Zl, Zm, Tree, Subs, Zn, Zo, Zp, Zq, Zr, Zs.
-/

import Derived.Test.YtdllbdlnmjngcaaGreatQ5AcceptBound

namespace Go.Proofs.YtdllbdlnmjngcaaGreat.T
set_option maxRecDepth 100000
set_option maxHeartbeats 8000000
set_option linter.unusedVariables false
set_option linter.unusedSimpArgs false
open Go Go.RowKit L
theorem RN.up{n m:Nat}{l:List Int}(h:RN n l)(hm:n<=m):RN m l:=⟨h.r,λx hx=>by have:=h.b x hx;omega⟩
theorem RN.one{n:Nat}{x:Int}(h0:0<=x)(h1:x<n):RN n [x]:=⟨by simp[jx],λy hy=>by simp at hy;subst hy;exact⟨h0,h1⟩⟩
theorem zjr{n:Nat}{a b:List Int}(hn:n<=1000)(ha:RN n a)(hb:RN n b):Tn (λnn=>Je nn a b) (λr=>RN n r/\∀x,x∈r↔x∈a\/x∈b):=zdb hn ha hb
def inT(em:List Bool)(al:List (List Int))(B:List Int)(t:Int):List jm->Prop
 |[]=>t∈B
 |x::l=>if x.1=true then t∈al.getD x.2.1.toNat []\/(em.getD x.2.1.toNat false=true/\inT em al B t l)else t=x.2.1
def foC(em:List Bool)(al B:List (List Int))(p:ji):Prop:=∀j x,p.2.1[j]?=some x->x.1=true->∀t,inT em al (B.getD p.1.toNat []) t (p.2.1.drop (j+1))->t∈B.getD x.2.1.toNat []
theorem jc4{B:List (List Int)}{z st:Nat}{u:List Int}{t:Int}(hz:z<B.length)(h:∀x∈B[z],x∈u)(ht:t∈B.getD st []):t∈(B.set z u).getD st []:=by
 simp only[List.getD,we1];split
 ·rename_i e;subst e;simp only[hz,if_true,we9];simp only[List.getD,wdy hz,we9]at ht;exact h t ht
 ·simpa [List.getD]using ht
theorem zu7(g:jb)(hg:Vf g)(hR:GR g)(hok:GOk g)(em re:List Bool)(al:List (List Int))(hE:Tn (λnn=>yb nn g) (λr=>r=em))(hel:em.length=g.2.1.length)(hl:al.length=g.2.1.length)(hrn:∀l∈al,RN g.1.length l)(hA:Tn (λnn=>Qk nn g) (λr=>r=al))(hRe:Tn (λnn=>ve nn g) (λr=>r=re))(hrl:re.length=g.2.1.length):
  Tn (λnn=>Jf nn g) (λB=>B.length=g.2.1.length/\(∀l∈B,RN (g.1.length+1) l)/\(g.1.length:Int)∈B.getD g.2.2.2.1.toNat []/\∀p∈g.2.2.1,re[p.1.toNat]?=some true->foC em al B p):=by
 unfold Jf;refine Tt.bind (Tt.call hR waa) λb hb=>?_;subst hb;refine waf rfl ?_;have hp:=hg.p;have htk:=hok.t;refine Tt.bind (Tt.call hA waa) λr hr=>?_;subst hr;refine Tt.bind (Tt.call hE waa) λe he=>?_;subst he;refine Tt.bind (Tt.call hRe waa) λw hw=>?_;subst hw;refine wad (wac _ (mkN hg.r (by omega)) ?_);refine Tt.bind (Tt.call (jgq g hR) waa) λen hen=>?_;subst hen;obtain⟨st,hst⟩:∃st:Nat,g.2.2.2.1=st:=⟨g.2.2.2.1.toNat,by have:=hok.start;omega⟩
 have hs1:=hok.start.2;rw[hst];have hsl:st<(List.replicate g.2.1.length ([]:List Int)).length:=by simp;omega
 refine wac _ (zh hsl) (wac _ (zit _ hsl) ?_);rw[wew];obtain⟨T,hT⟩:∃T,g.1.length+1=T:=⟨_,rfl⟩
 rw[hT];refine Tt.loop (λm s=>∃(more:Bool)(B:List (List Int)),m=2*Z1 T B+(if more=true then 1 else 0)/\s=(more,g,r,e,w,B)/\B.length=g.2.1.length/\(∀l∈B,RN T l)/\(g.1.length:Int)∈B.getD st []/\(more=false->∀p∈g.2.2.1,w[p.1.toNat]?=some true->foC e r B p)) (2*Z1 T ((List.replicate g.2.1.length []).set st [(g.1.length:Int)])+1) waa ⟨true,_,rfl,rfl,by simp,λl hl=>?_,?_,λh=>by cases h⟩ λm s⟨more,B,hm,hs,hBl,hBr,hBe,hcl⟩ nx hnx=>?_
 ·rcases wgj hl with h|h
  ·rw[List.eq_of_mem_replicate h];exact RN.nil _
  ·rw[h];exact RN.one (by omega) (by omega)
 ·simp only[List.getD,we1];simp at hsl;simp[hsl]
 subst hs;dsimp only;refine wab (λc=>?_) (λc=>Tt.pure ⟨hBl,hBr,hBe,hcl c⟩);subst c;rw[if_pos rfl]at hm;refine Tt.loop (λm s=>∃(k:Nat)(more:Bool)(B1:List (List Int)),k<=g.2.2.1.length/\m=g.2.2.1.length-k/\s=(more,g.2.2.1,(g.2.2.1.length:Int),(k:Int),g,r,e,w,B1)/\B1.length=g.2.1.length/\(∀l∈B1,RN T l)/\(g.1.length:Int)∈B1.getD st []/\(more=true->Z1 T B1<Z1 T B)/\(more=false->B1=B/\∀i,i<k->∀p,g.2.2.1[i]?=some p->w[p.1.toNat]?=some true->foC e r B p)) g.2.2.1.length waa.fst ⟨0,false,B,by omega,by omega,rfl,hBl,hBr,hBe,λh=>(by cases h),λ_=>⟨rfl,λi hi=>by omega⟩⟩ λm2 s⟨k,more,B1,hk,hm2,hs,hl1,hr1,he1,ht,hf⟩ ny hny=>?_;subst hs;dsimp only;refine wab (λc=>?_) (λc=>?_)
 ·have c:=wdz c;have hlt:k<g.2.2.1.length:=by omega
  have hmem:g.2.2.1[k]∈g.2.2.1:=wec hlt;have egp:g.2.2.1[k]?=some g.2.2.1[k]:=wdy hlt;refine Tt.J (λs=>∃(more:Bool)(B1:List (List Int)),s=(more,g.2.2.1,(g.2.2.1.length:Int),(k:Int),g,r,e,w,B1)/\B1.length=g.2.1.length/\(∀l∈B1,RN T l)/\(g.1.length:Int)∈B1.getD st []/\(more=true->Z1 T B1<Z1 T B)/\(more=false->B1=B/\∀i,i<k+1->∀p,g.2.2.1[i]?=some p->w[p.1.toNat]?=some true->foC e r B p)) (λnz hnz=>?_) (λs⟨more,B1,hs,hl1,hr1,he1,ht,hf⟩=>?_)
  ·refine wac _ (atN hlt) ?_;obtain⟨p,ep⟩:∃p,g.2.2.1[k]=p:=⟨_,rfl⟩
   rw[ep]at hmem egp⊢;obtain⟨l0,l1⟩:=hok.left p hmem;have hit:=hok.items p hmem;have hpl:=hok.len p hmem;obtain⟨q,hq⟩:∃q:Nat,p.1=q:=⟨p.1.toNat,by omega⟩
   have hqw:q<w.length:=by omega
   have hql:q<B1.length:=by omega
   refine Tt.J (λs=>∃(news:Bool)(B2:List (List Int)),s=(more,g.2.2.1,(g.2.2.1.length:Int),(k:Int),news,g,r,e,w,B2)/\B2.length=g.2.1.length/\(∀l∈B2,RN T l)/\(g.1.length:Int)∈B2.getD st []/\(news=true->Z1 T B2<Z1 T B1)/\(news=false->B2=B1/\(w[q]?=some true->foC e r B1 p))) (λnw hnw=>?_) (λs⟨news,B2,hs,hl2,hr2,he2,ht2,hf2⟩=>?_)
   ·rw[hq];refine wac _ (atN hqw) ?_;refine wab (λcw=>?_) (λcw=>hnw _ ⟨false,B1,rfl,hl1,hr1,he1,λh=>(by cases h),λ_=>⟨rfl,λh=>?_⟩⟩)
    ·refine wac _ (zh hql) (wac _ (atN hql) (wad ?_));rw[wI (by omega) (by omega)];refine Tt.loop (λm s=>∃(i:Nat)(tail:List Int)(news:Bool)(B2:List (List Int)),i<=p.2.1.length/\m=i/\s=(tail,(i:Int)-1,r,e,w,B2,p,news)/\RN T tail/\(∀t,t∈tail↔inT e r B1[q] t (p.2.1.drop i))/\B2.length=g.2.1.length/\(∀l∈B2,RN T l)/\(g.1.length:Int)∈B2.getD st []/\(news=true->Z1 T B2<Z1 T B1)/\(news=false->B2=B1/\∀j,i<=j->∀x,p.2.1[j]?=some x->x.1=true->∀t,inT e r B1[q] t (p.2.1.drop (j+1))->t∈B1.getD x.2.1.toNat [])) p.2.1.length waa.fst.fst ⟨p.2.1.length,B1[q],false,B1,by omega,rfl,rfl,hr1 _ (wec hql),λt=>by rw[wfg];rfl,hl1,hr1,he1,λh=>(by cases h),λ_=>⟨rfl,λj hj x hx=>by rw[wfe (by omega)]at hx;cases hx⟩⟩ λm3 s⟨i,tail,news,B2,hi,hm3,hs,htr,htm,hl2,hr2,he2,ht2,hf2⟩ nv hnv=>?_;subst hs;dsimp only;refine wab (λc=>?_) (λc=>?_)
     ·have c:=wdz c;obtain⟨i,rfl⟩:∃i',i=i'+1:=⟨i-1,by omega⟩
      have ei:((i+1:Nat):Int)-1=(i:Int):=by omega
      rw[ei];have hil:i<p.2.1.length:=by omega
      have hxm:p.2.1[i]∈p.2.1:=wec hil;have egx:p.2.1[i]?=some p.2.1[i]:=wdy hil;have hdr:p.2.1.drop i=p.2.1[i]::p.2.1.drop (i+1):=wet hil;refine Tt.J (λs=>∃(tail:List Int)(news:Bool)(B2:List (List Int)),s=(tail,(i:Int),r,e,w,B2,p,news)/\RN T tail/\(∀t,t∈tail↔inT e r B1[q] t (p.2.1.drop i))/\B2.length=g.2.1.length/\(∀l∈B2,RN T l)/\(g.1.length:Int)∈B2.getD st []/\(news=true->Z1 T B2<Z1 T B1)/\(news=false->B2=B1/\∀j,i<=j->∀x,p.2.1[j]?=some x->x.1=true->∀t,inT e r B1[q] t (p.2.1.drop (j+1))->t∈B1.getD x.2.1.toNat [])) (λnu hnu=>?_) (λs⟨tail,news,B2,hs,htr,htm,hl2,hr2,he2,ht2,hf2⟩=>?_)
      ·refine wac _ (atN hil) ?_;obtain⟨x,ex⟩:∃x,p.2.1[i]=x:=⟨_,rfl⟩
       rw[ex]at hxm egx hdr⊢;obtain⟨i1,i2⟩:=hit x hxm;refine wab (λcx=>?_) (λcx=>?_)
       ·have cx:x.1=false:=by simpa using cx
        rw[cx]at i2;simp only[we6,if_false]at i2;refine hnu _ ⟨_,news,B2,rfl,RN.one i1 (by omega),λt=>?_,hl2,hr2,he2,ht2,λhn=>?_⟩
        ·rw[hdr];simp[inT,cx]
        ·obtain⟨e1,e2⟩:=hf2 hn;refine⟨e1,λj hj y hy hy1=>?_⟩;by_cases hji:i+1<=j
         ·exact e2 j hji y hy hy1
         ·have:j=i:=by omega
          subst this;rw[egx]at hy;cases hy;rw[cx]at hy1;cases hy1
       ·have cx:x.1=true:=by simpa using cx
        rw[if_pos cx]at i2;obtain⟨z,hz⟩:∃z:Nat,x.2.1=z:=⟨x.2.1.toNat,by omega⟩
        have hzl:z<B2.length:=by omega
        have hze:z<e.length:=by omega
        have hzr:z<r.length:=by omega
        rw[hz];refine wac _ (zh hzl) (wac _ (atN hzl) ?_);have hBz:RN T B2[z]:=hr2 _ (wec hzl);have hrz:RN T r[z]:=(hrn _ (wec hzr)).up (by omega);refine Tt.bind (Tt.call (zjr (n:=T) (by omega) hBz htr) waa.fst.fst.fst) λu⟨u1,u2⟩=>?_;obtain⟨s1,s2⟩:=zij hBz.r u1.r λy hy=>(u2 y).2 (.inl hy);have hl3:(B2.set z u).length=g.2.1.length:=by rw[wf4];exact hl2
        have hr3:∀l∈B2.set z u,RN T l:=λl h=>by
         rcases wgj h with h|h
         ·exact hr2 l h
         ·rw[h];exact u1
        have he3:(g.1.length:Int)∈(B2.set z u).getD st []:=jc4 hzl (λy hy=>(u2 y).2 (.inl hy)) he2;refine Tt.J (λs=>∃(news:Bool),s=((z:Int),u,r,e,w,B2,news)/\(news=true->Z1 T (B2.set z u)<Z1 T B1)/\(news=false->B2.set z u=B1/\B2=B1/\B2[z]=u/\∀j,i+1<=j->∀x,p.2.1[j]?=some x->x.1=true->∀t,inT e r B1[q] t (p.2.1.drop (j+1))->t∈B1.getD x.2.1.toNat [])) (λnt hnt=>?_) (λs⟨news,hs,ht3,hf3⟩=>?_)
        ·refine wab (λcn=>hnt _ ⟨true,rfl,λ_=>?_,λh=>by cases h⟩) (λcn=>?_)
         ·have h1:=ht2 cn;by_cases hlu:B2[z].length<u.length
          ·have:=zld (T:=T) (al:=B2) (k:=z) (o:=B2[z]) (n:=u) (wdy hzl) hlu u1.len;omega
          ·have e1:=s2 (by omega);have es:B2.set z u=B2:=by rw[<- e1];exact List.set_getElem_self hzl
           rw[es];exact h1
         ·obtain⟨e1,e2⟩:=hf2 cn;refine wac _ (zh hzl) (wac _ (atN hzl) (hnt _ ⟨_,rfl,λh=>?_,λh=>?_⟩))
          ·have h:=wdz h;have:=zld (T:=T) (al:=B2) (k:=z) (o:=B2[z]) (n:=u) (wdy hzl) (by omega) u1.len;rw[e1]at this⊢;omega
          ·have h:=wd0 h;have e3:=s2 (by omega);have es:B2.set z u=B2:=by rw[<- e3];exact List.set_getElem_self hzl
           exact⟨es.trans e1,e1,e3,e2⟩
        ·subst hs;dsimp only;have hdone:(news=false->B2.set z u=B1/\∀j,i<=j->∀x,p.2.1[j]?=some x->x.1=true->∀t,inT e r B1[q] t (p.2.1.drop (j+1))->t∈B1.getD x.2.1.toNat []):=λhn=>by
          obtain⟨e1,e2,e3,e4⟩:=hf3 hn;refine⟨e1,λj hj y hy hy1 t hin=>?_⟩;by_cases hji:i+1<=j
          ·exact e4 j hji y hy hy1 t hin
          ·have:j=i:=by omega
           subst this;rw[egx]at hy;cases hy;rw[hz,wew];have hzl':z<B1.length:=by rw[<- e2];exact hzl
           have h1:t∈u:=(u2 t).2 (.inr ((htm t).2 hin));have h2:B1.getD z []=u:=by rw[<- e2,<- e3];simp[List.getD,hzl]
           rw[h2];exact h1
         refine wac _ (zh hzl) (wac _ (zit u hzl) (wac _ (atN hze) ?_));refine wab (λce=>?_) (λce=>?_)
         ·refine wac _ (atN hzr) ?_;refine Tt.bind (Tt.call (zjr (n:=T) (by omega) htr hrz) waa.fst.fst.fst) λv⟨v1,v2⟩=>?_;refine hnu _ ⟨v,news,_,rfl,v1,λt=>?_,hl3,hr3,he3,ht3,hdone⟩;rw[v2,htm,hdr];simp only[inT,cx,if_true,hz,wew,List.getD,wdy hze,wdy hzr,we9,ce,true_and];exact or_comm
         ·refine wac _ (atN hzr) ?_;refine hnu _ ⟨_,news,_,rfl,hrz,λt=>?_,hl3,hr3,he3,ht3,hdone⟩;rw[hdr];simp only[inT,cx,if_true,hz,wew,List.getD,wdy hze,wdy hzr,we9,ce,we6,false_and,or_false]
      ·subst hs;dsimp only;refine wad ?_;rw[wI (by omega) (by omega)];exact hnv i _ (by omega) ⟨i,tail,news,B2,by omega,rfl,rfl,htr,htm,hl2,hr2,he2,ht2,hf2⟩
     ·have c:=wd0 c;have:i=0:=by omega
      subst this;refine hnw.fst _ ⟨news,B2,rfl,hl2,hr2,he2,ht2,λhn=>?_⟩;obtain⟨e1,e2⟩:=hf2 hn;refine⟨e1,λ_ j x hx hx1 t hin=>e2 j (by omega) x hx hx1 t ?_⟩;have:B1.getD p.1.toNat []=B1[q]:=by rw[hq];simp[List.getD,hql]
      rwa [this]at hin
    ·rw[wdy hqw,cw]at h;cases h
   ·subst hs;dsimp only;refine wab (λcn=>hnz _ ⟨true,B2,rfl,hl2,hr2,he2,λ_=>?_,λh=>by cases h⟩) (λcn=>?_)
    ·have:=ht2 cn;cases hmo:more with
     |true=>have:=ht hmo;omega
     |false=>have:=(hf hmo).1;subst this;omega
    ·obtain⟨e1,e2⟩:=hf2 cn;subst e1;refine hnz _ ⟨more,B2,rfl,hl2,hr2,he2,ht,λhmf=>?_⟩;obtain⟨e3,e4⟩:=hf hmf;refine⟨e3,λj hj y hy=>?_⟩;by_cases hjk:j<k
     ·exact e4 j hjk y hy
     ·have:j=k:=by omega
      subst this;rw[egp]at hy;cases hy;rw[hq,wew,<- e3];exact e2
  ·subst hs;dsimp only;refine wad ?_;rw[wI (by omega) (by omega)];exact hny (g.2.2.1.length-(k+1)) _ (by omega) ⟨k+1,more,B1,by omega,rfl,by simp,hl1,hr1,he1,ht,hf⟩
 ·have c:=wd0 c;cases hmo:more with
  |true=>
   have:=ht hmo;exact Tt.fst (hnx (2*Z1 T B1+1) _ (by omega) ⟨true,B1,rfl,rfl,hl1,hr1,he1,λh=>by cases h⟩)
  |false=>
   obtain⟨e1,e2⟩:=hf hmo;subst e1;exact Tt.fst (hnx (2*Z1 T B1) _ (by omega) ⟨false,B1,rfl,rfl,hl1,hr1,he1,λ_ p hp=>by
    obtain⟨i,hi⟩:=we4 hp;exact e2 i (by have:=(wd1.1 hi).1;omega) p hi⟩)
theorem z0k{em:List Bool}{al:List (List Int)}{B:List Int}{t:Int}:∀{its:List jm},inT em al B t its↔inF em al t its\/((∀x∈its,x.1=true/\em[x.2.1.toNat]?=some true)/\t∈B)
 |[]=>by simp[inT,inF]
 |x::l=>by
  have ih:=z0k (em:=em) (al:=al) (B:=B) (t:=t) (its:=l);have he:em.getD x.2.1.toNat false=true↔em[x.2.1.toNat]?=some true:=by
   simp only[List.getD];cases em[x.2.1.toNat]? with
   |none=>simp
   |some b=>simp
  cases hx:x.1 with
  |false=>
   simp only[inT,inF,hx,we6,if_false];constructor
   ·exact .inl
   ·rintro(h|⟨h,_⟩)
    ·exact h
    ·have:=(h x (by simp)).1;rw[hx]at this;cases this
  |true=>
   simp only[inT,inF,hx,if_true,he,ih,wek,forall_eq_or_imp,true_and];constructor
   ·rintro(h|⟨h1,h2|⟨h2,h3⟩⟩)
    ·exact .inl (.inl h)
    ·exact .inl (.inr ⟨h1,h2⟩)
    ·exact .inr ⟨⟨h1,h2⟩,h3⟩
   ·rintro((h|⟨h1,h2⟩)|⟨⟨h1,h2⟩,h3⟩)
    ·exact .inl h
    ·exact .inr ⟨h1,.inl h2⟩
    ·exact .inr ⟨h1,.inr ⟨h2,h3⟩⟩
theorem z3j(g:jb)(hg:Vf g)(hok:GOk g)(em:List Bool)(al B:List (List Int))(hE:Tn (λnn=>yb nn g) (λr=>r=em))(hel:em.length=g.2.1.length)(hl:al.length=g.2.1.length)(hrn:∀l∈al,RN g.1.length l)(hK:Tn (λnn=>yp nn g) (λr=>r=some (em,al,())))(hBl:B.length=g.2.1.length)(hBr:∀l∈B,RN (g.1.length+1) l)
  (p:ji) (hp:p∈g.2.2.1):Tn (λnn=>qw nn g B p) (λr=>RN (g.1.length+1) r/\∀t,t∈r↔inT em al (B.getD p.1.toNat []) t p.2.1):=by
 have ht:=hok.t;have hpl:=hok.len p hp;have hit:=hok.items p hp;obtain⟨l0,l1⟩:=hok.left p hp;unfold qw;refine Tt.bind (Tt.call (z29 g hg hok em al hel hl hrn hK p.2.1 (by omega) hit) waa) λr⟨r1,r2⟩=>?_;refine Tt.J (λr=>RN (g.1.length+1) r/\∀t,t∈r↔inT em al (B.getD p.1.toNat []) t p.2.1) (λnx hnx=>?_) (λs hs=>Tt.pure hs);refine Tt.bind (Tt.call (jeo g hok em hE hel p.2.1 (by omega) hit) waa) λv hv=>?_;refine wab (λc=>?_) (λc=>hnx _ ⟨r1.up (by omega),λt=>?_⟩)
 ·have hbl:p.1.toNat<B.length:=by omega
  refine wac _ (zdj l0 (wdy hbl)) ?_;refine Tt.bind (Tt.call (zdb (n:=g.1.length+1) (by omega) (r1.up (by omega)) (hBr _ (wec hbl))) waa) λu⟨u1,u2⟩=>hnx _ ⟨u1,λt=>?_⟩;rw[u2,r2,z0k];have:B.getD p.1.toNat []=B[p.1.toNat]:=by simp[List.getD,hbl]
  rw[this];have:=hv.1 c;constructor
  ·rintro(h|h)
   ·exact .inl h
   ·exact .inr ⟨this,h⟩
  ·rintro(h|⟨_,h⟩)
   ·exact .inl h
   ·exact .inr h
 ·rw[r2,z0k];constructor
  ·exact .inl
  ·rintro(h|⟨h,_⟩)
   ·exact h
   ·have:=hv.2 h;rw[c]at this;cases this
theorem z1u{α β:Type}{p:Nat->α->Option β}{R:α->β->Prop}:∀{l:List α},(∀a∈l,Tn (λnn=>p nn a) (R a))->Tn (λnn=>z5s (p nn) l) (λ(r:List β)=>r.length=l.length/\∀(i:Nat)(a:α),l[i]?=some a->∃b,r[i]?=some b/\R a b)
 |[],_=>Tt.pure ⟨rfl,λi a h=>by simp at h⟩
 |a::l,h=>by
  refine Tt.bind (h a (by simp)) λb hb=>?_;refine Tt.bind (z1u (p:=p) (R:=R) (l:=l) λx hx=>h x (by simp[hx])) λr⟨r1,r2⟩=>Tt.pure ⟨by simp[r1],λi x hx=>?_⟩;cases i with
  |zero=>simp at hx;subst hx;exact⟨b,rfl,hb⟩
  |succ i=>simpa using r2 i x (by simpa using hx)
theorem zzo{a b:Int×Int}:plq a b=true↔a=b:=⟨jiu a b,λh=>by subst h;simp[plq,ple]⟩
theorem zte{k:Int×Int}:∀{ks:List (Int×Int)},kIx plq k ks=none->k∉ks
 |[],_=>by simp
 |e::es,h=>by
  unfold kIx at h;split at h
  ·cases h
  ·rename_i he;have:=zte (Option.map_eq_none_iff.1 h);intro hm;rcases wek.1 hm with h1|h1
   ·exact he (zzo.2 h1)
   ·exact this h1
structure z1p(C:Int×Int->Int->Prop)(c:Nat)(m:PM):Prop where
 nd:(m.map (·.1)).Nodup
 ne:∀e∈m,e.2≠[]
 len:∀e∈m,e.2.length<=c
 says:∀e∈m,∀i∈e.2,C e.1 i
def zjd(m:PM)(a:Int×Int)(i:Int):Prop:=∃e∈m,e.1=a/\i∈e.2
theorem add_ok{C:Int×Int->Int->Prop}{c:Nat}{m:PM}{a:Int×Int}{v:Int}(h:z1p C c m)(hc:c<=1000000)(hv:C a v):∃m',ztu plq 8 m a v=some m'/\z1p C (c+1) m'/\zjd m' a v/\∀b i,zjd m b i->zjd m' b i:=by
 unfold ztu;cases hk:kIx plq a (m.map (·.1))with
 |none=>
  have hn:=zte hk;rw[z42 (by simp) (by simp)];refine⟨m++[(a,[v])],rfl,⟨?_,?_,?_,?_⟩,⟨(a,[v]),by simp,rfl,by simp⟩,?_⟩
  ·rw[we8,List.nodup_append];refine⟨h.nd,by simp,λx hx y hy=>?_⟩;simp at hy;subst hy;intro e;subst e;exact hn hx
  ·intro e he;rcases wd7.1 he with h1|h1
   ·exact h.ne e h1
   ·simp at h1;subst h1;simp
  ·intro e he;rcases wd7.1 he with h1|h1
   ·have:=h.len e h1;omega
   ·simp at h1;subst h1;simp
  ·intro e he;rcases wd7.1 he with h1|h1
   ·exact h.says e h1
   ·simp at h1;subst h1;intro i hi;simp at hi;subst hi;exact hv
  ·rintro b i ⟨e,he,e1,e2⟩;exact⟨e,by simp[he],e1,e2⟩
 |some j=>
  obtain⟨x,hx,he⟩:=zh3 hk;have he:=zzo.1 he;subst he;rw[wd9]at hx;obtain⟨e,hj,hxe⟩:=wef.1 hx;have hem:=wd3 hj;have hjl:=(wd1.1 hj).1;have hl:=h.len e hem;simp only[hj];rw[z42 (by simp;omega) (by simp;omega)];refine⟨m.set j (e.1,e.2++[v]),rfl,⟨?_,?_,?_,?_⟩,⟨(e.1,e.2++[v]),wd3 (i:=j) (by rw[we1];simp[hjl]),hxe,by simp⟩,?_⟩
  ·have:(m.set j (e.1,e.2++[v])).map (·.1)=m.map (·.1):=by
    rw[List.map_set];apply wfi;intro i;rw[we1];split
    ·rename_i e2;subst e2;simp only[weh,hjl,if_true];rw[wd9,hj];rfl
    ·rfl
   rw[this];exact h.nd
  ·intro y hy;rcases wgj hy with h1|h1
   ·exact h.ne y h1
   ·subst h1;simp
  ·intro y hy;rcases wgj hy with h1|h1
   ·have:=h.len y h1;omega
   ·subst h1;simp;omega
  ·intro y hy;rcases wgj hy with h1|h1
   ·exact h.says y h1
   ·subst h1;intro i hi;rcases wd7.1 hi with h2|h2
    ·exact h.says e hem i h2
    ·simp at h2;subst h2;simp only;rw[hxe];exact hv
  ·rintro b i ⟨y,hy,y1,y2⟩;obtain⟨n,hn⟩:=we4 hy;by_cases hnj:j=n
   ·subst hnj;rw[hj]at hn;cases hn;exact⟨(e.1,e.2++[v]),wd3 (i:=j) (by rw[we1];simp[hjl]),y1,by simp[y2]⟩
   ·exact⟨y,wd3 (i:=n) (by rw[we1,if_neg hnj];exact hn),y1,y2⟩
theorem zwq{C:Int×Int->Int->Prop}{i left:Int}:∀{ts:List Int}{c:Nat}{m:PM},z1p C c m->c+ts.length<=1000000->(∀t∈ts,C (left,t) i)->∃m',zkh i left ts m=some m'/\z1p C (c+ts.length) m'/\(∀t∈ts,zjd m' (left,t) i)/\∀b j,zjd m b j->zjd m' b j
 |[],c,m,h,_,_=>⟨m,rfl,h,by simp,λ_ _ h=>h⟩
 |t::ts,c,m,h,hc,hC=>by
  simp only[we7]at hc;obtain⟨m1,h1,h2,h3,h4⟩:=add_ok (a:=(left,t)) (v:=i) h (by omega) (hC t (by simp));obtain⟨m2,k1,k2,k3,k4⟩:=zwq (ts:=ts) h2 (by omega) λx hx=>hC x (by simp[hx]);refine⟨m2,by simp only[zkh,h1,wfn,k1],by rw[show c+(t::ts).length=c+1+ts.length by simp;omega];exact k2,λx hx=>?_,λb j hb=>k4 b j (h4 b j hb)⟩;rcases wek.1 hx with e|e
  ·subst e;exact k4 _ _ h3
  ·exact k3 x e
theorem zwy{C:Int×Int->Int->Prop}{pr:Nat->List Int}{W:Nat}(hW:∀i,(pr i).length<=W):∀{ls:List Int}{i c:Nat}{m:PM},z1p C c m->c+W*ls.length<=1000000->(∀k l,ls[k]?=some l->∀t∈pr (i+k),C (l,t) ((i+k:Nat):Int))->∃m',zf1 pr i ls m=some m'/\z1p C (c+W*ls.length) m'/\(∀k l,ls[k]?=some l->∀t∈pr (i+k),zjd m' (l,t) ((i+k:Nat):Int))/\∀b j,zjd m b j->zjd m' b j
 |[],i,c,m,h,_,_=>⟨m,rfl,h,by simp,λ_ _ h=>h⟩
 |a::ls,i,c,m,h,hc,hC=>by
  have hw:=hW i;simp only[we7,Nat.mul_add,wgx]at hc;obtain⟨m1,h1,h2,h3,h4⟩:=zwq (i:=(i:Int)) (left:=a) (ts:=pr i) h (by omega) λt ht=>by simpa using hC 0 a rfl t (by simpa using ht)
  have h2':z1p C (c+W) m1:=⟨h2.nd,h2.ne,λe he=>by have:=h2.len e he;omega,h2.says⟩
  obtain⟨m2,k1,k2,k3,k4⟩:=zwy hW (ls:=ls) (i:=i+1) h2' (by omega) λk l hk t ht=>by
   have:=hC (k+1) l (by simpa using hk) t (by simpa [wgs,wgd 1 k]using ht);simpa [wgs,wgd 1 k]using this
  refine⟨m2,by simp only[zf1,h1,wfn,k1],⟨k2.nd,k2.ne,λe he=>by have:=k2.len e he;simp only[we7,Nat.mul_add,wgx];omega,k2.says⟩,λk l hk t ht=>?_,λb j hb=>k4 b j (h4 b j hb)⟩;cases k with
  |zero=>
   simp at hk;subst hk;exact k4 _ _ (by simpa using h3 t (by simpa using ht))
  |succ k=>
   have:=k3 k l (by simpa using hk) t (by simpa [wgs,wgd 1 k]using ht);simpa [wgs,wgd 1 k]using this
theorem Tt.val{ι α:Type}{D:Fi ι}{f:ι->Option α}{Q:α->Prop}(h:Tt D f Q):∃r,Tt D f (λx=>x=r)/\Q r:=let ⟨r,h1,h2⟩:=h;⟨r,⟨r,h1,rfl⟩,h2⟩
structure Kn(g:jb)(em re:List Bool)(al B:List (List Int)):Prop where
 hE:Tn (λnn=>yb nn g) (λr=>r=em)
 hel:em.length=g.2.1.length
 emc:∀p∈g.2.2.1,emC em p
 hRe:Tn (λnn=>ve nn g) (λr=>r=re)
 hrl:re.length=g.2.1.length
 rest:re[g.2.2.2.1.toNat]?=some true
 recl:∀p∈g.2.2.1,reC re p
 hK:Tn (λnn=>yp nn g) (λr=>r=some (em,al,()))
 hl:al.length=g.2.1.length
 hrn:∀l∈al,RN g.1.length l
 fic:∀p∈g.2.2.1,fiC em al p
 hF:Tn (λnn=>Jf nn g) (λr=>r=B)
 hBl:B.length=g.2.1.length
 hBr:∀l∈B,RN (g.1.length+1) l
 hBe:(g.1.length:Int)∈B.getD g.2.2.2.1.toNat []
 foc:∀p∈g.2.2.1,re[p.1.toNat]?=some true->foC em al B p
theorem ji2(g:jb)(hg:Vf g)(hR:GR g)(hok:GOk g):∃em re al B,Kn g em re al B:=by
 obtain⟨em,hE,hel,emc⟩:=(jak g hg hR hok).val;obtain⟨re,hRe,hrl,rest,rec⟩:=(z23 g hg hR hok).val;obtain⟨k,hK,al,rfl,hl,hrn,fic⟩:=(ja3 g hg hR hok em hE hel).val;obtain⟨B,hF,hBl,hBr,hBe,foc⟩:=(zu7 g hg hR hok em re al hE hel hl hrn (zzx g hok em al hl hK) hRe hrl).val;exact⟨em,re,al,B,hE,hel,emc,hRe,hrl,rest,rec,hK,hl,hrn,fic,hF,hBl,hBr,hBe,foc⟩
def plC(g:jb)(em:List Bool)(al B:List (List Int))(a:Int×Int)(i:Int):Prop:=∃(k:Nat)(p:ji),i=(k:Int)/\g.2.2.1[k]?=some p/\a.1=p.1/\0<=a.2/\a.2<(g.1.length:Int)+1/\inT em al (B.getD p.1.toNat []) a.2 p.2.1
structure ja5(g:jb)(em:List Bool)(al B:List (List Int))(m:PM):Prop where
 pm:z1p (plC g em al B) 1000000 m
 has:∀(k:Nat)(p:ji),g.2.2.1[k]?=some p->∀t,inT em al (B.getD p.1.toNat []) t p.2.1->zjd m (p.1,t) (k:Int)
theorem zw6{g:jb}{em re:List Bool}{al B:List (List Int)}(hg:Vf g)(hok:GOk g)(hk:Kn g em re al B):Tn (λnn=>zhp nn g) (ja5 g em al B):=by
 have ht:=hok.t;have hp:=hok.p;unfold zhp;refine Tt.bind (Tt.call hk.hF waa) λb hb=>?_;subst hb;refine Tt.bind (Tt.call (z1u (p:=λnn p=>qw nn g b p) (R:=λp r=>RN (g.1.length+1) r/\∀t,t∈r↔inT em al (b.getD p.1.toNat []) t p.2.1) λp hp=>z3j g hg hok em al b hk.hE hk.hel hk.hl hk.hrn hk.hK hk.hBl hk.hBr p hp) waa) λrows⟨r1,r2⟩=>?_;have hrow:∀l∈rows,RN (g.1.length+1) l:=λl hl=>by
  obtain⟨i,hi⟩:=we4 hl;have hil:=(wd1.1 hi).1;obtain⟨b,e1,e2,_⟩:=r2 i _ (wdy (by omega));rw[hi]at e1;cases e1;exact e2
 refine wan ?_ ?_
 ·rw[wd4,wez];exact⟨wes (by omega),λl hl=>wes (by have:=(hrow l hl).len;omega)⟩
 have hget:∀(k:Nat)(p:ji),g.2.2.1[k]?=some p->RN (g.1.length+1) (rows.getD k [])/\∀t,t∈rows.getD k []↔inT em al (b.getD p.1.toNat []) t p.2.1:=λk p hp=>by
  obtain⟨r,e1,e2,e3⟩:=r2 k p hp;simp only[List.getD,e1,we9];exact⟨e2,e3⟩
 obtain⟨m,h1,h2,h3,_⟩:=zwy (C:=plC g em al b) (pr:=λi=>rows.getD i []) (W:=65) (λi=>by
  simp only[List.getD];cases hi:rows[i]? with
  |none=>simp
  |some l=>have:=(hrow l (wd3 hi)).len;simp only[we9];omega) (ls:=g.2.2.1.map (·.1)) (i:=0) (c:=0) (m:=[]) ⟨by simp,by simp,by simp,by simp⟩ (by simp;omega) (λk l hl t ht=>by
   rw[wd9]at hl;obtain⟨p,hp,rfl⟩:=wef.1 hl;rw[we3]at ht⊢;obtain⟨e1,e2⟩:=hget k p hp;have:=e1.b t ht;exact⟨k,p,rfl,hp,rfl,this.1,by have:=this.2;simp only;omega,(e2 t).1 ht⟩)
 simp only[h1];refine Tt.pure (Q:=ja5 g em al b) ⟨⟨h2.nd,h2.ne,λe he=>?_,h2.says⟩,λk p hp t ht=>?_⟩
 ·have:=h2.len e he;simp at this;omega
 ·have:=h3 k p.1 (by rw[wd9,hp];rfl) t (by rw[we3];exact((hget k p hp).2 t).2 ht);rwa [we3]at this
def NC(g:jb)(em:List Bool)(al B:List (List Int)):Prop:=∀(k k':Nat)(p p':ji),g.2.2.1[k]?=some p->g.2.2.1[k']?=some p'->p.1=p'.1->∀t,inT em al (B.getD p.1.toNat []) t p.2.1->inT em al (B.getD p'.1.toNat []) t p'.2.1->k=k'
theorem zni{α β:Type}{f:α->β}:∀{l:List α},(l.map f).Nodup->∀{x y:α},x∈l->y∈l->f x=f y->x=y
 |[],_,x,y,hx,_,_=>by cases hx
 |a::l,h,x,y,hx,hy,e=>by
  rw[wel,List.nodup_cons]at h;rcases wek.1 hx with h1|h1
  ·rcases wek.1 hy with h2|h2
   ·rw[h1,h2]
   ·exact absurd (by rw[<- h1,e];exact wee.2 ⟨y,h2,rfl⟩) h.1
  ·rcases wek.1 hy with h2|h2
   ·exact absurd (by rw[<- h2,<- e];exact wee.2 ⟨x,h1,rfl⟩) h.1
   ·exact zni h.2 h1 h2 e
theorem nc_of{g:jb}{em:List Bool}{al B:List (List Int)}{m:PM}(h:ja5 g em al B m)(hc:(qd m).2=false):NC g em al B:=by
 intro k k' p p' hp hp' e t h1 h2;obtain⟨x,x1,x2,x3⟩:=h.has k p hp t h1;obtain⟨y,y1,y2,y3⟩:=h.has k' p' hp' t h2;have hxy:=zni h.pm.nd x1 y1 (by rw[x2,y2,e]);subst hxy;rcases zg5 m with⟨_,h5⟩|⟨h5,_⟩
 ·have:=h5 x x1
  match hx:x.2 with
  |[]=>rw[hx]at x3;cases x3
  |[a]=>
   rw[hx]at x3 y3;simp at x3 y3;omega
  |a::b::l=>rw[hx]at this;simp at this;omega
 ·rw[hc]at h5;cases h5
theorem z5o{g:jb}{em:List Bool}{al B:List (List Int)}{m:PM}(h:ja5 g em al B m):∃r,zjv m=some r/\(r.1.1=0->NC g em al B):=by
 unfold zjv;cases hc:(qd m).2 with
 |false=>exact⟨_,rfl,λ_=>nc_of h hc⟩
 |true=>
  rcases zg5 m with⟨h5,_⟩|⟨_,⟨e,h6,h7,h8⟩,_⟩
  ·rw[h5]at hc;cases hc
  ·have:∃z,zlf m (qd m).1=some z:=by
    unfold zlf;cases hk:kIx plq (qd m).1 (m.map (·.1))with
    |none=>exact absurd (by rw[<- h7];exact wee.2 ⟨e,h6,rfl⟩) (zte hk)
    |some j=>
     obtain⟨x,hx,he⟩:=zh3 hk;have he:=zzo.1 he;rw[wd9]at hx;obtain⟨e',hj,hxe⟩:=wef.1 hx;have:=zni h.pm.nd (wd3 hj) h6 (by rw[h7,he];exact hxe);subst this;simp only[wfn,hj];exact⟨_,wdy h8⟩
   obtain⟨z,hz⟩:=this;exact⟨_,by rw[hz];rfl,λh=>by cases h⟩
theorem jam{g:jb}{em re:List Bool}{al B:List (List Int)}(hg:Vf g)(hR:GR g)(hok:GOk g)(hk:Kn g em re al B):Tn (λnn=>vz nn g) (λr=>r.1.1=0->NC g em al B):=by
 have hp:=hok.p;unfold vz;refine Tt.bind (Tt.call hR waa) λb hb=>?_;subst hb;refine wan (wes (by omega)) (wan rfl ?_);refine Tt.bind (Tt.call (zw6 hg hok hk) waa) λm hm=>?_;obtain⟨r,h1,h2⟩:=z5o hm;exact wac r h1 (Tt.pure h2)
theorem z84{g:jb}{em:List Bool}{al B:List (List Int)}{m:PM}(hok:GOk g)(h:ja5 g em al B m):zsi g m=true:=by
 have ht:=hok.t;have hr:=hok.r;unfold zsi;simp only[wd4,wez,wej];refine⟨by omega,by omega,λe he=>?_,h.pm.nd⟩;have hne:=h.pm.ne e he;obtain⟨i,l,hl⟩:∃i l,e.2=i::l:=by
  cases hh:e.2 with
  |nil=>exact absurd hh hne
  |cons i l=>exact⟨i,l,rfl⟩
 obtain⟨k,p,_,hp,h1,h2,h3,_⟩:=h.pm.says e he i (by simp[hl]);obtain⟨l0,l1⟩:=hok.left p (wd3 hp);exact⟨by omega,by omega,h2,h3,hne⟩
theorem z5h{g:jb}{em re:List Bool}{al B:List (List Int)}(hg:Vf g)(hR:GR g)(hok:GOk g)(hk:Kn g em re al B):Tn (λnn=>Vc nn g) (λ_=>True):=by
 have hp:=hok.p;unfold Vc;refine Tt.bind (Tt.call hR waa) λb hb=>?_;subst hb;refine wan (wes (by omega)) (wan rfl ?_);refine Tt.bind (Tt.call (zw6 hg hok hk) waa) λm hm=>?_;exact wab (λ_=>Tt.pure trivial) λ_=>wan (z84 hok hm) (Tt.pure trivial)
section
variable{ι:Type}{D:Fi ι}{φ:ι → Nat}
def wao:Fi (Nat×Nat) where
 ev P:=∃N,∀a b,N<=a->N<=b->P (a,b)
 mono:=λh⟨N,hN⟩=>⟨N,λa b ha hb=>h _ (hN a b ha hb)⟩
 and:=λ⟨N,hN⟩ ⟨M,hM⟩=>⟨max N M,λa b ha hb=>⟨hN a b (by omega) (by omega),hM a b (by omega) (by omega)⟩⟩
 top:=⟨0,λ_ _ _ _=>trivial⟩
theorem wbe:Big wao λi=>i.1:=λN=>⟨N,λa b ha hb=>ha⟩
theorem zr5{α:Type}{q b:Nat×Nat->Option α}{Q:α->Prop}(h:Tt wao b Q)(he:∀n m,q (n,m+1)=b (n,m)):Tt wao q Q:=by
 obtain⟨r,⟨N,hN⟩,h2⟩:=h;refine⟨r,⟨N+1,λa c ha hc=>?_⟩,h2⟩;obtain⟨c,rfl⟩:∃c',c=c'+1:=⟨c-1,by omega⟩
 rw[he];exact hN a c (by omega) (by omega)
theorem zr6{α:Type}{q:Nat×Nat->Option α}{Q:α->Prop}(h:Tt wao q Q):Tn (λn=>q (n,n)) Q:=by
 obtain⟨r,⟨N,hN⟩,h2⟩:=h;exact⟨r,⟨N,λn hn=>hN n n hn hn⟩,h2⟩
end
def mkC(r:List Bool)(p:ji):Prop:=(∀x∈p.2.1,x.1=true->r[x.2.1.toNat]?=some true)->r[p.1.toNat]?=some true
theorem z5u(g:jb)(x:jm)(r:List Bool)(hr:r.length=g.2.1.length)(hx:zj4 g x):Tn (λnn=>Zr nn x r) (λb=>b=true↔(x.1=true->r[x.2.1.toNat]?=some true)):=by
 unfold Zr;refine Tt.J (λb=>b=true↔(x.1=true->r[x.2.1.toNat]?=some true)) (λnx hnx=>?_) (λs hs=>Tt.pure hs);refine wad (wab (λc=>hnx _ ?_) (λc=>?_))
 ·have c:x.1=false:=by simpa using c
  simp[c]
 have c:x.1=true:=by simpa using c
 obtain⟨h1,h2⟩:=hx;rw[if_pos c]at h2;have hl:x.2.1.toNat<r.length:=by omega
 refine wac _ (zdj h1 (wdy hl)) (hnx _ ?_);rw[wdy hl];simp[c]
theorem z8n(g:jb)(hg:Vf g)(hR:GR g)(hok:GOk g):Tn (λnn=>y9 nn g) (λr=>r.length=g.2.1.length/\∀p∈g.2.2.1,mkC r p):=by
 unfold y9;refine Tt.J (λr=>r.length=g.2.1.length/\∀p∈g.2.2.1,mkC r p) (λnx2 h2=>?_) (λs hs=>Tt.pure hs);refine Tt.bind (Tt.call hR waa) λb hb=>?_;subst hb;refine waf rfl ?_;have hp:=hg.p;refine wad (wac _ (mkN hg.r (by omega)) ?_);refine Tt.loop (λm s=>∃(more:Bool)(r:List Bool),m=2*Yh r+(if more=true then 1 else 0)/\s=(g.2.2.1,more,r)/\r.length=g.2.1.length/\(more=false->∀p∈g.2.2.1,mkC r p)) (2*Yh (List.replicate g.2.1.length false)+1) waa ⟨true,_,rfl,rfl,by simp,λh=>by cases h⟩ λm s⟨more,r,hm,hs,hl,hcl⟩ nx hnx=>?_;subst hs;dsimp only;refine wab (λc=>?_) (λc=>h2.fst _ ⟨hl,hcl c⟩);subst c;rw[if_pos rfl]at hm;refine Tt.loop (λm s=>∃(k:Nat)(more:Bool)(r1:List Bool),k<=g.2.2.1.length/\m=g.2.2.1.length-k/\s=(g.2.2.1,more,g.2.2.1,(g.2.2.1.length:Int),(k:Int),r1)/\r1.length=g.2.1.length/\(more=true->Yh r1<Yh r)/\(more=false->r1=r/\∀i,i<k->∀p,g.2.2.1[i]?=some p->mkC r p)) g.2.2.1.length waa.fst ⟨0,false,r,by omega,by omega,rfl,hl,λh=>(by cases h),λ_=>⟨rfl,λi hi=>by omega⟩⟩ λm2 s⟨k,more,r1,hk,hm2,hs,hl1,ht,hf⟩ ny hny=>?_;subst hs;dsimp only;refine wab (λc=>?_) (λc=>?_)
 ·have c:=wdz c;have hlt:k<g.2.2.1.length:=by omega
  have hmem:g.2.2.1[k]∈g.2.2.1:=wec hlt;refine wac _ (atN hlt) ?_;have egp:g.2.2.1[k]?=some g.2.2.1[k]:=wdy hlt;obtain⟨p,ep⟩:∃p,g.2.2.1[k]=p:=⟨_,rfl⟩
  rw[ep]at hmem egp⊢;obtain⟨l0,l1⟩:=hok.left p hmem;have hit:=hok.items p hmem;have hpl:=hok.len p hmem;obtain⟨q,hq⟩:∃q:Nat,p.1=q:=⟨p.1.toNat,by omega⟩
  have hql:q<r1.length:=by omega
  refine Tt.J (λs=>∃(more:Bool)(r1:List Bool),s=(g.2.2.1,more,g.2.2.1,(g.2.2.1.length:Int),(k:Int),r1)/\r1.length=g.2.1.length/\(more=true->Yh r1<Yh r)/\(more=false->r1=r/\∀i,i<k+1->∀p,g.2.2.1[i]?=some p->mkC r p)) (λnz hnz=>?_) (λs⟨more,r1,hs,hl1,ht,hf⟩=>?_)
  ·have keep:mkC r1 p->(more=false->r1=r/\∀i,i<k+1->∀p,g.2.2.1[i]?=some p->mkC r p):=λhe hmf=>by
    obtain⟨e1,e2⟩:=hf hmf;refine⟨e1,λi hi x hx=>?_⟩;by_cases hik:i<k
    ·exact e2 i hik x hx
    ·have:i=k:=by omega
     subst this;rw[egp]at hx;cases hx;rw[<- e1];exact he
   rw[hq];refine wac _ (zh hql) (wac _ (atN hql) ?_);refine wab (λc=>hnz _ ⟨more,r1,rfl,hl1,ht,keep λ_=>?_⟩) (λc=>?_)
   ·rw[hq,wew,wdy hql,c]
   ·have hqf:r1[q]?=some false:=by rw[wdy hql,c]
    refine Tt.loop (λm s=>∃i:Nat,i<=p.2.1.length/\m=p.2.1.length-i/\s=(p.2.1,(p.2.1.length:Int),(i:Int),r1,p)) p.2.1.length waa.fst.fst ⟨0,by omega,by omega,rfl⟩ λm3 s⟨i,hi,hm3,hs⟩ nw hnw=>?_;subst hs;dsimp only;refine wab (λc=>?_) (λc=>?_)
    ·have c:=wdz c;have hil:i<p.2.1.length:=by omega
     have hxm:p.2.1[i]∈p.2.1:=wec hil;refine wac _ (atN hil) (Tt.bind (Tt.call (z5u g _ r1 hl1 (hit _ hxm)) waa.fst.fst.fst) λb hb=>?_);refine wab (λcb=>hnz.fst _ ⟨more,r1,rfl,hl1,ht,keep λhall=>?_⟩) (λ_=>wad ?_)
     ·have:=hb.2 (hall _ hxm);rw[this]at cb;cases cb
     ·rw[wI (by omega) (by omega)];exact hnw (p.2.1.length-(i+1)) _ (by omega) ⟨i+1,by omega,rfl,by simp⟩
    ·rw[hq];refine wac _ (zh hql) (wac _ (zit true hql) (hnz.fst _ ⟨true,_,rfl,by simpa using hl1,λ_=>?_,λh=>by cases h⟩));have:=zk3 hqf;cases hmo:more with
     |true=>have:=ht hmo;omega
     |false=>have:=(hf hmo).1;subst this;omega
  ·subst hs;dsimp only;refine wad ?_;rw[wI (by omega) (by omega)];exact hny (g.2.2.1.length-(k+1)) _ (by omega) ⟨k+1,more,r1,by omega,rfl,by simp,hl1,ht,hf⟩
 ·have c:=wd0 c;cases hmo:more with
  |true=>
   have:=ht hmo;exact Tt.fst (hnx (2*Yh r1+1) _ (by omega) ⟨true,r1,rfl,rfl,hl1,λh=>by cases h⟩)
  |false=>
   obtain⟨e1,e2⟩:=hf hmo;subst e1;exact Tt.fst (hnx (2*Yh r1) _ (by omega) ⟨false,r1,rfl,rfl,hl1,λ_ p hp=>by
    obtain⟨i,hi⟩:=we4 hp;exact e2 i (by have:=(wd1.1 hi).1;omega) p hi⟩)
end Go.Proofs.YtdllbdlnmjngcaaGreat.T
namespace Go.Proofs.YtdllbdlnmjngcaaGreat
set_option maxRecDepth 100000
set_option maxHeartbeats 8000000
set_option linter.unusedVariables false
set_option linter.unusedSimpArgs false
open Go Go.RowKit L
inductive Rch(E:Nat->Nat->Prop)(S:Nat->Prop):Nat->Prop
 |base {i:Nat}:S i->Rch E S i
 |step {i j:Nat}:Rch E S i->E i j->Rch E S j
def onB(l:List Bool)(i:Nat):Prop:=l[i]?=some true
theorem zzd{l:List Bool}{i:Nat}(h:onB l i):i<l.length:=(wd1.1 h).1
theorem zia{l:List Bool}{i j:Nat}(hi:i<l.length):onB (l.set i true) j↔i=j\/onB l j:=by
 unfold onB;by_cases h:i=j
 ·subst h;simp[List.getElem?_set_self hi]
 ·rw[wgy h];simp[h]
theorem z7b{n i:Nat}:¬onB (List.replicate n false) i:=by
 unfold onB;intro h;obtain⟨h1,h2⟩:=wd1.1 h;simp at h2
def offs(l:List Bool):Nat:=l.count false
theorem z0n(l:List Bool):offs l<=l.length:=List.count_le_length
theorem zib(b:Bool)(l:List Bool):offs (b::l)=offs l+(if b then 0 else 1):=by
 unfold offs;cases b<;>simp
theorem zsz:∀{l:List Bool}{i:Nat},l[i]?=some false->offs (l.set i true)+1=offs l
 |[],i,h=>by simp at h
 |b::l,0,h=>by
  simp at h;subst h;simp[zib]
 |b::l,i+1,h=>by
  simp only[wf7]at h;have:=zsz h;simp only[List.set_cons_succ,zib];omega
def LeB(a b:List Bool):Prop:=a.length=b.length/\∀i,onB a i->onB b i
theorem LeB.refl(a:List Bool):LeB a a:=⟨rfl,λ_ h=>h⟩
theorem LeB.trans{a b c:List Bool}(h:LeB a b)(h2:LeB b c):LeB a c:=⟨h.1.trans h2.1,λi hi=>h2.2 i (h.2 i hi)⟩
theorem LeB.set{a:List Bool}{i:Nat}(hi:i<a.length):LeB a (a.set i true):=⟨by simp,λj hj=>(zia hi).2 (.inr hj)⟩
theorem jce{a b:List Bool}(hl:a.length=b.length)(h:∀i,onB a i↔onB b i):a=b:=by
 refine List.ext_getElem hl λi h1 h2=>?_;have:=h i;unfold onB at this;rw[wdy h1,wdy h2]at this;cases e1:a[i]<;>cases e2:b[i]<;>simp[e1,e2]at this<;>rfl
theorem LeB.antisymm{a b:List Bool}(h:LeB a b)(h2:LeB b a):a=b:=jce h.1 λi=>⟨h.2 i,h2.2 i⟩
theorem LeB.offs:∀{a b:List Bool},LeB a b->a=b\/offs b<offs a:=by
 intro a;induction a with
 |nil=>intro b h;cases b with
  |nil=>exact .inl rfl
  |cons x b=>exact absurd h.1 (by simp)
 |cons x a ih=>
  intro b h;cases b with
  |nil=>exact absurd h.1 (by simp)
  |cons y b=>
   have h1:LeB a b:=⟨by simpa using h.1,λi hi=>by have:=h.2 (i+1);unfold onB at *;simpa using this (by simpa using hi)⟩
   have h0:x=true->y=true:=λe=>by have:=h.2 0;unfold onB at this;simpa [e]using this
   rw[zib,zib];rcases ih h1 with e|e
   ·subst e;cases x with
    |true=>rw[h0 rfl];exact .inl rfl
    |false=>cases y with
     |false=>exact .inl rfl
     |true=>right;simp
   ·right;cases x with
    |true=>rw[h0 rfl];simpa using e
    |false=>cases y<;>simp<;>omega
noncomputable def zh4(n:Nat)(E:Nat->Nat->Prop)(S:Nat->Prop):List Bool:=by
 classical exact(List.range n).map λi=>decide (Rch E S i)
theorem zhz(n:Nat)(E:Nat->Nat->Prop)(S:Nat->Prop):(zh4 n E S).length=n:=by unfold zh4;simp
theorem zy8{n:Nat}{E:Nat->Nat->Prop}{S:Nat->Prop}{i:Nat}:onB (zh4 n E S) i↔i<n/\Rch E S i:=by
 classical
 unfold onB zh4;by_cases h:i<n
 ·simp[h]
 ·simp[h]
theorem z7f{n:Nat}{E:Nat->Nat->Prop}{S:Nat->Prop}{l:List Bool}(hl:l.length=n)(hs:∀i,onB l i->Rch E S i)(h1:∀i,S i->onB l i)(h2:∀i j,onB l i->E i j->onB l j):l=zh4 n E S:=by
 refine jce (by rw[hl,zhz]) λi=>⟨λh=>zy8.2 ⟨hl▸zzd h,hs i h⟩,λh=>?_⟩
 have:=(zy8.1 h).2;clear h;induction this with
 |base h=>exact h1 _ h
 |step _ h ih=>exact h2 _ _ ih h
structure Round(E:Nat->Nat->Prop)(S:Nat->Prop)(a b:List Bool):Prop where
 le:LeB a b
 sound:∀i,onB b i->Rch E S i
 closed:a=b->(∀i,S i->onB a i)/\∀i j,onB a i->E i j->onB a j
theorem Round.next{n:Nat}{E:Nat->Nat->Prop}{S:Nat->Prop}{a b:List Bool}{m k:Nat}(h:Round E S a b)(hl:a.length=n)(hk:a=zh4 n E S\/offs a+k<=m):b=zh4 n E S\/offs b+(k+1)<=m:=by
 rcases hk with hk|hk
 ·left;refine h.le.antisymm ⟨h.le.1.symm,λi hi=>?_⟩ |>.symm.trans hk
  rw[hk];exact zy8.2 ⟨hl▸(h.le.1▸zzd hi),h.sound i hi⟩
 ·rcases h.le.offs with e|e
  ·left;obtain⟨h1,h2⟩:=h.closed e;subst e;exact z7f hl h.sound h1 h2
  ·right;omega
end Go.Proofs.YtdllbdlnmjngcaaGreat
namespace Go.Proofs.YtdllbdlnmjngcaaGreat.T
set_option maxRecDepth 100000
set_option maxHeartbeats 8000000
set_option linter.unusedVariables false
set_option linter.unusedSimpArgs false
open Go Go.RowKit L
theorem z6r{a b:List Int}(ha:jx a)(hb:jx b)(h:∀x,x∈a↔x∈b):a=b:=by
 obtain⟨h1,h2⟩:=zij ha hb λx hx=>(h x).1 hx;obtain⟨h3,_⟩:=zij hb ha λx hx=>(h x).2 hx;exact h2 h3
def fsF(kd:Int):List Bool->Nat->jd
 |[],_=>(0,0,0,())
 |b::l,i=>match b with
  |true=>fsF kd l (i+1)
  |false=>(kd,i,0,())
theorem z72{g:jb}(hok:GOk g)(y:D_api_Dfa×List (List Int)×Unit){r0:List Bool}(hl:r0.length=g.2.1.length)(hc:Tn (λnn=>ve nn g) (λr=>r=r0)):Tn (λnn=>Jl nn (some (g,y))) (λd=>d=fsF 13 r0 0):=by
 have hr:=hok.r;unfold Jl;refine wad ?_;refine Tt.bind (Tt.call hc waa) λr h1=>?_;subst h1;refine Tt.J (λd=>d=fsF 13 r 0) (λnx hnx=>?_) (λs hs=>Tt.pure hs);refine Tt.loop (λm s=>∃k:Nat,k<=r.length/\m=r.length-k/\s=(13,0,(r.length:Int),(k:Int),r,(0,0,0,()))/\fsF 13 r 0=fsF 13 (r.drop k) k) r.length waa ⟨0,by omega,by omega,rfl,rfl⟩ λm s⟨k,hk,hm,hs,he⟩ ny hny=>?_;subst hs;dsimp only;refine wab (λc=>?_) (λc=>hnx.fst _ ?_)
 ·have c:=wdz c;have hlt:k<r.length:=by omega
  rw[wet hlt]at he;refine wac _ (atN hlt) (wab (λcb=>hnx.fst _ ?_) λcb=>wad ?_)
  ·have cb:r[k]=false:=by simpa using cb
   rw[he,cb];rfl
  ·have cb:r[k]=true:=by simpa using cb
   rw[wI (by omega) (by omega)];exact hny (r.length-(k+1)) _ (by omega) ⟨k+1,by omega,rfl,by simp,by rw[he,cb];rfl⟩
 ·have c:=wd0 c;have:k=r.length:=by omega
  subst this;rw[he,wfg];rfl
theorem z9t{g:jb}(hok:GOk g)(y:D_api_Dfa×List (List Int)×Unit){r0:List Bool}(hl:r0.length=g.2.1.length)(hc:Tn (λnn=>y9 nn g) (λr=>r=r0)):Tn (λnn=>Jm nn (some (g,y))) (λd=>d=fsF 14 r0 0):=by
 have hr:=hok.r;unfold Jm;refine wad ?_;refine Tt.bind (Tt.call hc waa) λr h1=>?_;subst h1;refine Tt.J (λd=>d=fsF 14 r 0) (λnx hnx=>?_) (λs hs=>Tt.pure hs);refine Tt.loop (λm s=>∃k:Nat,k<=r.length/\m=r.length-k/\s=(14,0,(r.length:Int),(k:Int),r,(0,0,0,()))/\fsF 14 r 0=fsF 14 (r.drop k) k) r.length waa ⟨0,by omega,by omega,rfl,rfl⟩ λm s⟨k,hk,hm,hs,he⟩ ny hny=>?_;subst hs;dsimp only;refine wab (λc=>?_) (λc=>hnx.fst _ ?_)
 ·have c:=wdz c;have hlt:k<r.length:=by omega
  rw[wet hlt]at he;refine wac _ (atN hlt) (wab (λcb=>hnx.fst _ ?_) λcb=>wad ?_)
  ·have cb:r[k]=false:=by simpa using cb
   rw[he,cb];rfl
  ·have cb:r[k]=true:=by simpa using cb
   rw[wI (by omega) (by omega)];exact hny (r.length-(k+1)) _ (by omega) ⟨k+1,by omega,rfl,by simp,by rw[he,cb];rfl⟩
 ·have c:=wd0 c;have:k=r.length:=by omega
  subst this;rw[he,wfg];rfl
def yn(g:jb)(n:Int):jb:=(g.1,g.2.1,g.2.2.1,g.2.2.2.1,n,g.2.2.2.2.2)
theorem zx2{a b:List jd}(h:jr (a++b)=zd):(jr a).1=0/\jr b=zd:=by
 rw[yd]at h;by_cases c:(jr a).1=0
 ·rw[if_pos c]at h;exact⟨c,h⟩
 ·rw[if_neg c]at h;exact absurd (by rw[h]) c
theorem szB_st{g:jb}{n:Int}(h:(jr (szB g)).1=0)(h1:1<=n)(h2:n<=4096):(jr (szB (yn g n))).1=0:=by
 have h3:szB g=(if g.2.2.2.2.1<1\/4096<g.2.2.2.2.1 then(2,0,0,())else zd)::(szB g).tail:=rfl;have h4:szB (yn g n)=(if n<1\/4096<n then(2,0,0,())else zd)::(szB g).tail:=rfl;rw[h4,if_neg (by omega)];rw[h3]at h;by_cases c:g.2.2.2.2.1<1\/4096<g.2.2.2.2.1
 ·rw[if_pos c]at h;cases h
 ·rw[if_neg c]at h;exact h
theorem jfe{g:jb}{n:Int}(h:gFd g=zd)(h1:1<=n)(h2:n<=4096):gFd (yn g n)=zd:=by
 have e:gFd (yn g n)=jr (szA g++(szB (yn g n)++(z1r g++(z1s g++(zv6 g++([zly g]++zv7 g)))))):=rfl;rw[e];obtain⟨k1,k2⟩:=zx2 h;obtain⟨k3,k4⟩:=zx2 k2;rw[yd,if_pos k1,yd,if_pos (szB_st k3 h1 h2)];exact k4
end Go.Proofs.YtdllbdlnmjngcaaGreat.T
namespace Go.Proofs.YtdllbdlnmjngcaaGreat
set_option maxRecDepth 100000
set_option maxHeartbeats 8000000
set_option linter.unusedVariables false
set_option linter.unusedSimpArgs false
open Go Go.RowKit L
theorem Tot.for{σ α:Type}{body:Int×σ->G ((Int×σ) ⊕ α)}{Q:α->Prop}(N:Nat)(I:Nat->σ->Prop)
  (h:∀(k:Nat)s,k<N->I k s->Tot (body ((k:Int),s)) λr=>match r with|.inl s'=>s'.1=((k+1:Nat):Int)/\I (k+1) s'.2|.inr a=>Q a)
  (hN:∀s,I N s->Tot (body ((N:Int),s)) λr=>match r with|.inl _=>False|.inr a=>Q a){s:σ}(h0:I 0 s):Tot (G.loop body (0,s)) Q:=by
 refine Tot.loop (λs=>∃k:Nat,s.1=(k:Int)/\k<=N/\I k s.2) (λs=>N+1-s.1.toNat) ?_ ⟨0,rfl,wf1 _,h0⟩;rintro⟨i,s⟩ ⟨k,hi,hk,hI⟩;simp only at hi hI;subst hi;rcases Nat.lt_or_ge k N with hlt|hge
 ·refine(h k s hlt hI).mono λr hr=>?_;cases r with
  |inl s'=>
   obtain⟨h1,h2⟩:=hr;refine⟨⟨k+1,h1,hlt,h2⟩,?_⟩;show N+1-s'.1.toNat<N+1-((k:Nat):Int).toNat;rw[h1];simp only[wew];omega
  |inr a=>exact hr
 ·have:k=N:=by omega
  subst this;refine(hN s hI).mono λr hr=>?_;cases r with
  |inl s'=>exact hr.elim
  |inr a=>exact hr
theorem zeb{k:Nat}(h:k<9223372036854775807):w64 ((k:Int)+1)=((k+1:Nat):Int):=by
 unfold w64;rw[zkl (by omega) (by omega)];rfl
theorem wbi{σ α:Type}{body:σ->G (σ ⊕ α)}{Q:α->Prop}(c:σ->Int)(N:Nat)(I:Nat->σ->Prop)(hc:∀k s,I k s->c s=(k:Int))
  (h:∀(k:Nat)s,k<N->I k s->Tot (body s) λr=>match r with|.inl s'=>I (k+1) s'|.inr a=>Q a)
  (hN:∀s,I N s->Tot (body s) λr=>match r with|.inl _=>False|.inr a=>Q a){s:σ}(h0:I 0 s):Tot (G.loop body s) Q:=by
 refine Tot.loop (λs=>∃k:Nat,k<=N/\I k s) (λs=>N+1-(c s).toNat) ?_ ⟨0,wf1 _,h0⟩;rintro s ⟨k,hk,hI⟩;rcases Nat.lt_or_ge k N with hlt|hge
 ·refine(h k s hlt hI).mono λr hr=>?_;cases r with
  |inl s'=>
   refine⟨⟨k+1,hlt,hr⟩,?_⟩;show N+1-(c s').toNat<N+1-(c s).toNat;rw[hc _ _ hr,hc _ _ hI];simp only[wew];omega
  |inr a=>exact hr
 ·have:k=N:=by omega
  subst this;refine(hN s hI).mono λr hr=>?_;cases r with
  |inl s'=>exact hr.elim
  |inr a=>exact hr
def at'{α:Type}[Inhabited α](l:List α)(z:Int):α:=l.getD z.toNat default
theorem zdn{α:Type}[Inhabited α]{l:List α}{k:Nat}(h:k<l.length):at' l (k:Int)=l[k]:=by
 unfold at';simp[h]
theorem idx_at{α:Type}[Inhabited α]{l:List α}{z:Int}(h0:0<=z)(h1:z<l.length):idx l z=some (at' l z):=by
 obtain⟨k,rfl⟩:=wfh h0;have hk:k<l.length:=by omega
 rw[zdn hk];exact jik (wdy hk)
theorem zcc{α:Type}[Inhabited α]{l:List α}{z:Int}(h0:0<=z)(h1:z<l.length):at' l z∈l:=by
 obtain⟨k,rfl⟩:=wfh h0;have hk:k<l.length:=by omega
 rw[zdn hk];exact wec hk
theorem jhz{α:Type}[Inhabited α]{l:List α}{z:Int}{v:α}(h0:0<=z)(h1:z<l.length):at' (l.set z.toNat v) z=v:=by
 unfold at';simp[show z.toNat<l.length by omega]
theorem at_ne{α:Type}[Inhabited α]{l:List α}{z y:Int}{v:α}(h0:0<=z)(hy:0<=y)(h:z≠y):at' (l.set z.toNat v) y=at' l y:=by
 unfold at';simp only[wev];rw[wgy (by omega)]
theorem jhs{l:List Bool}{k:Nat}:at' l (k:Int)=true↔onB l k:=by
 unfold at' onB;simp only[wew,wev];cases h:l[k]? with
 |none=>simp
 |some b=>simp
theorem jeh{l:List Bool}{z:Int}(h0:0<=z):at' l z=true↔onB l z.toNat:=by
 obtain⟨k,rfl⟩:=wfh h0;exact jhs
theorem yj{p:Prop}[Decidable p](h:p):decide p=true:=wes h
theorem yi{p:Prop}[Decidable p](h:¬p):decide p=false:=wem h
section
variable{α β γ:Type}{Q:γ → Prop}
theorem Tot.idx[Inhabited α]{l:List α}{z:Int}{f:α->G γ}(h0:0<=z)(h1:z<l.length)(h:Tot (f (at' l z)) Q):Tot (G.bind (G.lift (L.idx l z)) f) Q :=.bind (.lift (idx_at h0 h1) h)
theorem wbh{o:Option α}{a:α}{f:α->G γ}(h:o=some a)(h2:Tot (f a) Q):Tot (G.bind (G.lift o) f) Q :=.bind (.lift h h2)
theorem wdl{b:Nat}{xs ys:List α}{f:List α->G γ}(h1:(xs.length+ys.length)*b<=140737488355328)(h2:xs.length+ys.length<=140737488355328)(h:Tot (f (xs++ys)) Q):Tot (G.bind (G.lift (app b xs ys)) f) Q:=wbh (z42 h1 h2) h
theorem Tot.mk{b:Nat}{z:α}{n:Int}{f:List α->G γ}(h0:0<=n)(h1:b*n.toNat<=281474976710656)(h2:n.toNat<=281474976710656)(h:Tot (f (List.replicate n.toNat z)) Q):Tot (G.bind (G.lift (mkS b z n)) f) Q:=by
 obtain⟨k,rfl⟩:=wfh h0;exact wbh (mkS_of (by simpa using h1) (by simpa using h2)) h
theorem waw{a:α}{f:α->G γ}(h:Tot (f a) Q):Tot (G.bind (G.pure a) f) Q:=h
theorem G.bb{m:G α}{f:α->G β}{g:β->G γ}:G.bind (G.bind m f) g=G.bind m λa=>G.bind (f a) g:=by
 funext n;unfold G.bind;cases m n<;>rfl
theorem was{m:G α}{f:α->G β}{g:β->G γ}(h:Tot (G.bind m λa=>G.bind (f a) g) Q):Tot (G.bind (G.bind m f) g) Q:=by rw[G.bb];exact h
theorem war{b:Bool}{x y:G α}{f:α->G γ}(h:Tot (G.cond b (G.bind x f) (G.bind y f)) Q):Tot (G.bind (G.cond b x y) f) Q:=by
 cases b<;>exact h
theorem wau{b:Bool}{x y:G γ}(hb:b=true)(h:Tot x Q):Tot (G.cond b x y) Q:=by subst hb;exact h
theorem wav{b:Bool}{x y:G γ}(hb:b=false)(h:Tot y Q):Tot (G.cond b x y) Q:=by subst hb;exact h
theorem waj[Inhabited α]{l:List α}{z:Int}{f:α->G γ}(h:0<=z/\z<l.length)(h2:Tot (f (at' l z)) Q):Tot (G.bind (G.lift (L.idx l z)) f) Q:=Tot.idx h.1 h.2 h2
theorem wal{b:Nat}{xs ys:List α}{f:List α->G γ}(h:(xs.length+ys.length)*b<=140737488355328/\xs.length+ys.length<=140737488355328)(h2:Tot (f (xs++ys)) Q):Tot (G.bind (G.lift (app b xs ys)) f) Q:=wdl h.1 h.2 h2
theorem wak{b:Nat}{z:α}{n:Int}{f:List α->G γ}(h:0<=n/\b*n.toNat<=281474976710656/\n.toNat<=281474976710656)(h2:Tot (f (List.replicate n.toNat z)) Q):Tot (G.bind (G.lift (mkS b z n)) f) Q:=Tot.mk h.1 h.2.1 h.2.2 h2
theorem bl_:((!true)=false)/\((!false)=true)/\(∀b,(true && b)=b)/\(∀b,(b && true)=b)/\(∀b,(false && b)=false)/\(∀b,(b && false)=false)/\(∀b,(true ||b)=true)/\(∀b,(b ||true)=true)/\(∀b,(false ||b)=b)/\(∀b,(b ||false)=b)/\(∀(α:Type)(a:α)(l:List α),(a::l).length=l.length+1)/\(∀(α:Type)(l m:List α),(l++m).length=l.length+m.length)/\(∀(α:Type)(l:List α)(i:Nat)(a:α),(l.set i a).length=l.length)/\(∀(α:Type),([]:List α).length=0)/\(∀(α:Type)(n:Nat)(a:α),(List.replicate n a).length=n)/\(∀(α β:Type)(f:α->β)(l:List α),(l.map f).length=l.length)/\(∀n:Nat,(n:Int).toNat=n):=by
 refine⟨rfl,rfl,?_,?_,?_,?_,?_,?_,?_,?_,?_,?_,?_,?_,?_,?_,?_⟩<;>intros<;>simp
theorem wa3{m:G α}{f:α->G γ}(R:α->Prop)(hm:Tot m R)(h:∀a,R a->Tot (f a) Q):Tot (G.bind m f) Q :=.bind (hm.mono h)
end
theorem z8o{α:Type}{x:α}{l:List α}:z8j (x::l) 1 ((x::l).length:Int)=some l:=by
 unfold z8j;rw[if_pos ⟨by omega,by omega,by simp,by simp⟩];simp
theorem jbh{α:Type}{xs ys:List α}(h:xs.length<=10000000):small7 xs ys=some ys:=if_pos h
theorem Yn{α:Type}[Inhabited α]{l:List α}{k:Nat}(h:k<l.length)(x:α):x∈l.take (k+1)↔x∈l.take k\/x=at' l (k:Int):=by
 rw[web h,zdn h,wd7];simp
theorem zeu{l:List Bool}{z:Int}{j:Nat}(h0:0<=z)(h1:z<l.length):onB (l.set z.toNat true) j↔(j:Int)=z\/onB l j:=by
 rw[zia (by omega)];constructor
 ·rintro(rfl|h)
  ·left;omega
  ·exact .inr h
 ·rintro(h|h)
  ·left;omega
  ·exact .inr h
theorem z8r{l:List Bool}{z:Int}(h0:0<=z)(h1:z<l.length)(h:at' l z=false):offs (l.set z.toNat true)+1=offs l:=by
 refine zsz ?_;obtain⟨k,rfl⟩:=wfh h0;have hk:k<l.length:=by omega
 rw[zdn hk]at h;simp[hk,h]
theorem zrx(n:Nat)(beg:List Int)(to:Int->G (List Int))(E:Nat->Nat->Prop)(hn:n<=100000)(hbl:beg.length<=100000)(hb:∀x∈beg,0<=x/\x<n)
  (hto:∀i:Nat,i<n->Tot (to i) (λl=>l.length<=1000000000/\(∀x∈l,0<=x/\x<n)/\∀j:Nat,(j:Int)∈l↔E i j)):Tot (Q5 n beg to) (· = zh4 n E λi=>(i:Int)∈beg):=by
 unfold Q5
 repeat (first|with_reducible (refine waw ?_)|with_reducible (refine was ?_)|(refine wau ?_ ?_;focus (first|with_reducible rfl|(simp (disch:=omega) only [yj,yi,bl_];done)))|(refine wav ?_ ?_;focus (first|with_reducible rfl|(simp (disch:=omega) only [yj,yi,bl_];done)))|with_reducible (refine war ?_)|((first|refine waj ?_ ?_|refine wal ?_ ?_|refine wak ?_ ?_);focus (first|omega|(simp;done)|(simp;omega))))
 refine wbh (jbh (by omega)) ?_;refine wa3 (λr=>r.length=n/\∀i:Nat,onB r i↔(i:Int)∈beg) ?_ ?_
 ·refine wbi (λs=>s.1) beg.length (λk s=>s.1=(k:Int)/\s.2.length=n/\∀i:Nat,onB s.2 i↔(i:Int)∈beg.take k) (λk s h=>h.1) ?_ ?_ ⟨rfl,by simp,λi=>by simp[z7b]⟩
  ·rintro k ⟨_,l⟩ hk ⟨rfl,h1,h2⟩;simp only at h1 h2;have hx:=hb _ (zcc (l:=beg) (z:=(k:Int)) (by omega) (by omega))
   repeat (first|with_reducible (refine waw ?_)|with_reducible (refine was ?_)|(refine wau ?_ ?_;focus (first|with_reducible rfl|(simp (disch:=omega) only [yj,yi,bl_];done)))|(refine wav ?_ ?_;focus (first|with_reducible rfl|(simp (disch:=omega) only [yj,yi,bl_];done)))|with_reducible (refine war ?_)|((first|refine waj ?_ ?_|refine wal ?_ ?_|refine wak ?_ ?_);focus (first|omega|(simp;done)|(simp;omega))))
   refine Tot.pure ⟨zeb (by omega),by simp[h1],λi=>?_⟩;simp only;rw[zeu hx.1 (by omega),h2,Yn hk];constructor<;>(rintro(h|h)<;>simp[h])
  ·rintro⟨_,l⟩ ⟨rfl,h1,h2⟩;simp only at h1 h2
   repeat (first|with_reducible (refine waw ?_)|with_reducible (refine was ?_)|(refine wau ?_ ?_;focus (first|with_reducible rfl|(simp (disch:=omega) only [yj,yi,bl_];done)))|(refine wav ?_ ?_;focus (first|with_reducible rfl|(simp (disch:=omega) only [yj,yi,bl_];done)))|with_reducible (refine war ?_)|((first|refine waj ?_ ?_|refine wal ?_ ?_|refine wak ?_ ?_);focus (first|omega|(simp;done)|(simp;omega))))
   refine Tot.pure ⟨h1,λi=>?_⟩;rw[h2,wen]
 ·rintro m ⟨m1,m2⟩;refine wa3 (· = zh4 n E λi=>(i:Int)∈beg) ?_ (λa ha=>Tot.pure ha);refine Tot.loop (λs:List Bool×List Int=>s.1.length=n/\(∀x∈s.2,0<=x/\x<n/\onB s.1 x.toNat)/\(∀i,onB s.1 i->Rch E (λi=>(i:Int)∈beg) i)/\(∀i:Nat,(i:Int)∈beg->onB s.1 i)/\(∀i j,onB s.1 i->E i j->onB s.1 j\/(i:Int)∈s.2)/\offs s.1+s.2.length<=n+beg.length) (λs:List Bool×List Int=>2*offs s.1+s.2.length) ?_ ⟨m1,?_,λi hi=> .base ((m2 i).1 hi),λi hi=>(m2 i).2 hi,λi j hi _=> .inr ((m2 i).1 hi),?_⟩
  ·rintro⟨l,wait⟩ ⟨h1,h2,h3,h4,h5,h6⟩;simp only at h1 h2 h3 h4 h5 h6;cases wait with
   |nil=>
    repeat (first|with_reducible (refine waw ?_)|with_reducible (refine was ?_)|(refine wau ?_ ?_;focus (first|with_reducible rfl|(simp (disch:=omega) only [yj,yi,bl_];done)))|(refine wav ?_ ?_;focus (first|with_reducible rfl|(simp (disch:=omega) only [yj,yi,bl_];done)))|with_reducible (refine war ?_)|((first|refine waj ?_ ?_|refine wal ?_ ?_|refine wak ?_ ?_);focus (first|omega|(simp;done)|(simp;omega))))
    refine Tot.pure (z7f h1 h3 h4 λi j hi he=>?_);rcases h5 i j hi he with h|h
    ·exact h
    ·simp at h
   |cons x rest=>
    have hx:=h2 x (by simp);obtain⟨q,rfl⟩:=wfh hx.1;simp only[we7]at h6
    repeat (first|with_reducible (refine waw ?_)|with_reducible (refine was ?_)|(refine wau ?_ ?_;focus (first|with_reducible rfl|(simp (disch:=omega) only [yj,yi,bl_];done)))|(refine wav ?_ ?_;focus (first|with_reducible rfl|(simp (disch:=omega) only [yj,yi,bl_];done)))|with_reducible (refine war ?_)|((first|refine waj ?_ ?_|refine wal ?_ ?_|refine wak ?_ ?_);focus (first|omega|(simp;done)|(simp;omega))))
    refine wbh z8o ?_;refine Tot.bind ((hto q (by omega)).mono λnx hnx=>?_);obtain⟨n0,n1,n2⟩:=hnx;refine wa3 (λ(r:List Bool×List Int)=>r.1.length=n/\LeB l r.1/\(∀y∈r.2,0<=y/\y<n/\onB r.1 y.toNat)/\(∀i,onB r.1 i->Rch E (λi=>(i:Int)∈beg) i)/\(∀y∈nx,onB r.1 y.toNat)/\(∀i,onB r.1 i->onB l i\/(i:Int)∈r.2)/\(∀y∈rest,y∈r.2)/\offs r.1+r.2.length=offs l+rest.length/\offs r.1<=offs l) ?_ ?_
    ·refine wbi (λs=>s.1) nx.length (λk(s:Int×List Bool×List Int)=>s.1=(k:Int)/\s.2.1.length=n/\LeB l s.2.1/\(∀y∈s.2.2,0<=y/\y<n/\onB s.2.1 y.toNat)/\(∀i,onB s.2.1 i->Rch E (λi=>(i:Int)∈beg) i)/\(∀y∈nx.take k,onB s.2.1 y.toNat)/\(∀i,onB s.2.1 i->onB l i\/(i:Int)∈s.2.2)/\(∀y∈rest,y∈s.2.2)/\offs s.2.1+s.2.2.length=offs l+rest.length/\offs s.2.1<=offs l) (λk s h=>h.1) ?_ ?_ ⟨rfl,h1,LeB.refl _,λy hy=>h2 y (by simp[hy]),h3,by simp,λi hi=> .inl hi,λy hy=>hy,rfl,wed _⟩
     ·rintro k ⟨_,a,w⟩ hk ⟨rfl,k1,k2,k3,k4,k5,k6,k7,k8,k9⟩;simp only at k1 k2 k3 k4 k5 k6 k7 k8 k9;have hmem:=zcc (l:=nx) (z:=(k:Int)) (by omega) (by omega);have hy:=n1 _ hmem;have ho:=z0n l
      repeat (first|with_reducible (refine waw ?_)|with_reducible (refine was ?_)|(refine wau ?_ ?_;focus (first|with_reducible rfl|(simp (disch:=omega) only [yj,yi,bl_];done)))|(refine wav ?_ ?_;focus (first|with_reducible rfl|(simp (disch:=omega) only [yj,yi,bl_];done)))|with_reducible (refine war ?_)|((first|refine waj ?_ ?_|refine wal ?_ ?_|refine wak ?_ ?_);focus (first|omega|(simp;done)|(simp;omega))))
      refine Tot.cond (λhb=>?_) λhb=>?_
      ·simp only[wg6]at hb
       repeat (first|with_reducible (refine waw ?_)|with_reducible (refine was ?_)|(refine wau ?_ ?_;focus (first|with_reducible rfl|(simp (disch:=omega) only [yj,yi,bl_];done)))|(refine wav ?_ ?_;focus (first|with_reducible rfl|(simp (disch:=omega) only [yj,yi,bl_];done)))|with_reducible (refine war ?_)|((first|refine waj ?_ ?_|refine wal ?_ ?_|refine wak ?_ ?_);focus (first|omega|(simp;done)|(simp;omega))))
       have hof:=z8r hy.1 (by omega) hb;obtain⟨j,hj⟩:=wfh hy.1;refine Tot.pure ⟨zeb (by omega),by simp[k1],k2.trans (LeB.set (by omega)),?_,?_,?_,?_,?_,?_,?_⟩
       all_goals simp only
       ·intro y hy2;rcases wd7.1 hy2 with h|h
        ·have:=k3 y h;exact⟨this.1,this.2.1,(zeu hy.1 (by omega)).2 (.inr this.2.2)⟩
        ·simp at h;subst h;exact⟨hy.1,hy.2,(zeu hy.1 (by omega)).2 (.inl (by omega))⟩
       ·intro i hi;rcases(zeu hy.1 (by omega)).1 hi with h|h
        ·exact .step (h3 q (by simpa using hx.2.2)) ((n2 i).1 (h▸hmem))
        ·exact k4 i h
       ·intro y hy2;refine(zeu hy.1 (by omega)).2 ?_;rcases(Yn hk y).1 hy2 with h|h
        ·exact .inr (k5 y h)
        ·left;subst h;omega
       ·intro i hi;rcases(zeu hy.1 (by omega)).1 hi with h|h
        ·right;simp[h]
        ·rcases k6 i h with h|h
         ·exact .inl h
         ·right;simp[h]
       ·intro y hy2;simp[k7 y hy2]
       ·simp;omega
       ·omega
      ·simp only[Bool.not_eq_false']at hb;refine Tot.pure ⟨zeb (by omega),k1,k2,k3,k4,?_,k6,k7,k8,k9⟩;intro y hy2;rcases(Yn hk y).1 hy2 with h|h
       ·exact k5 y h
       ·subst h;exact(jeh hy.1).1 hb
     ·rintro⟨_,a,w⟩ ⟨rfl,k1,k2,k3,k4,k5,k6,k7,k8,k9⟩
      repeat (first|with_reducible (refine waw ?_)|with_reducible (refine was ?_)|(refine wau ?_ ?_;focus (first|with_reducible rfl|(simp (disch:=omega) only [yj,yi,bl_];done)))|(refine wav ?_ ?_;focus (first|with_reducible rfl|(simp (disch:=omega) only [yj,yi,bl_];done)))|with_reducible (refine war ?_)|((first|refine waj ?_ ?_|refine wal ?_ ?_|refine wak ?_ ?_);focus (first|omega|(simp;done)|(simp;omega))))
      rw[wen]at k5;exact Tot.pure ⟨k1,k2,k3,k4,k5,k6,k7,k8,k9⟩
    ·rintro⟨a,w⟩ ⟨k1,k2,k3,k4,k5,k6,k7,k8,k9⟩;simp only at k1 k2 k3 k4 k5 k6 k7 k8 k9;refine Tot.pure ⟨⟨k1,k3,k4,λi hi=>k2.2 i (h4 i hi),?_,?_⟩,?_⟩
     ·intro i j hi he;simp only at hi⊢;rcases k6 i hi with h|h
      ·rcases h5 i j h he with h|h
       ·exact .inl (k2.2 j h)
       ·rcases wek.1 h with h|h
        ·left;have:i=q:=by omega
         subst this;have:=k5 _ ((n2 j).2 he);simpa using this
        ·exact .inr (k7 _ h)
      ·exact .inr h
     ·simp only;omega
     ·simp only[we7];omega
  ·intro x hx;have:=hb x hx;obtain⟨q,rfl⟩:=wfh this.1;exact⟨this.1,this.2,by simpa using(m2 q).2 hx⟩
  ·have:=z0n m;simp only;omega
end Go.Proofs.YtdllbdlnmjngcaaGreat
namespace Go.Proofs.YtdllbdlnmjngcaaGreat.T
set_option maxRecDepth 100000
set_option maxHeartbeats 8000000
set_option linter.unusedVariables false
set_option linter.unusedSimpArgs false
open Go Go.RowKit L
theorem setA4(a:Arr 4 Int){k:Nat}(h:k<4)(x:Int):∃b,zp4 a (k:Int) x=some b:=by
 have hl:=a.2;unfold zp4;simp[hl,h]
theorem at4(a:Arr 4 Int){k:Nat}(h:k<4):∃x,atL a.l (k:Int)=some x:=⟨_,atN (by have:=a.2;omega)⟩
theorem z11(l:List (Arr 4 Int))(hl:l.length<=1000000):Tn (λnn=>Jo nn l) (λ_=>True):=by
 unfold Jo;refine Tt.loop (λm s=>∃(k:Nat)(a b:Arr 4 Int),k<=l.length/\m=l.length-k/\s=(l,(l.length:Int),(k:Int),a,b)) l.length waa ⟨0,_,_,by omega,by omega,rfl⟩ λm s⟨k,a,b,hk,hm,hs⟩ nx hnx=>?_;subst hs;dsimp only;refine wab (λc=>?_) (λc=>Tt.pure trivial);have c:=wdz c;have hlt:k<l.length:=by omega
 refine wac _ (atN hlt) ?_;refine Tt.loop (λm s=>∃(i:Nat)(a b:Arr 4 Int),i<=4/\m=4-i/\s=(l,(l.length:Int),(k:Int),(i:Int),a,b,l[k])) 4 waa.fst ⟨0,_,_,by omega,by omega,rfl⟩ λm2 s⟨i,a,b,hi,hm2,hs⟩ ny hny=>?_;subst hs;dsimp only;refine wab (λc=>?_) (λc=>wad ?_)
 ·have c:=wdz c;have hi4:i<4:=by omega
  obtain⟨x,hx⟩:=at4 b hi4;obtain⟨y,hy⟩:=at4 l[k] hi4;obtain⟨z,hz⟩:=setA4 b hi4 (orI .u64 x y);refine wac _ (zh hi4) (wac _ hx (wac _ (zh hi4) (wac _ hy (wac _ (zh hi4) (wac _ hz (wad ?_))))));rw[wI (by omega) (by omega)];exact hny (4-(i+1)) _ (by omega) ⟨i+1,a,z,by omega,rfl,by simp⟩
 ·rw[wI (by omega) (by omega)];exact Tt.fst (hnx (l.length-(k+1)) _ (by omega) ⟨k+1,a,b,by omega,rfl,by simp⟩)
theorem zvo(a b:Arr 4 Int):Tn (λnn=>Jo nn [a,b]) (λ_=>True):=z11 _ (by simp)
theorem jhh(a b:jg):Tn (λnn=>zcp nn a b) (λ_=>True):=by
 unfold zcp;refine Tt.J (λ_=>True) (λnx hnx=>?_) (λs _=>?_)
 ·exact wad (wab (λ_=>hnx _ trivial) λ_=>hnx _ trivial)
 ·refine wab (λ_=>Tt.pure trivial) λ_=>?_;refine Tt.J (λ_=>True) (λnx hnx=>?_) (λs _=>?_)
  ·exact wab (λ_=>Tt.bind (Tt.call (zvo _ _) waa) λ_ _=>hnx _ trivial) λ_=>Tt.bind (Tt.call (zvo _ _) waa) λ_ _=>hnx _ trivial
  ·refine Tt.J (λ_=>True) (λnx hnx=>?_) (λs _=>Tt.pure trivial);exact wab (λ_=>Tt.bind (Tt.call (zvo _ _) waa) λ_ _=>hnx _ trivial) λ_=>hnx _ trivial
theorem zzz(a b:jg):Tn (λnn=>Ya nn a b) (λ_=>True):=by
 unfold Ya;refine wab (λ_=>Tt.pure trivial) λ_=>wab (λ_=>Tt.pure trivial) λ_=>?_;refine Tt.J (λ_=>True) (λnx hnx=>?_) (λs _=>Tt.pure trivial);exact wab (λ_=>Tt.bind (Tt.call (zvo _ _) waa) λ_ _=>Tt.bind (Tt.call (zvo _ _) waa) λ_ _=>hnx _ trivial) λ_=>Tt.bind (Tt.call (zvo _ _) waa) λ_ _=>Tt.bind (Tt.call (zvo _ _) waa) λ_ _=>hnx _ trivial
theorem z8b(x:jc)(l:List jg)(n:Nat)(hn:arK x.1=some n)(hl:n<=l.length):Tn (λnn=>Yy nn x l) (λ_=>True):=by
 have h1:0<n->∃a,atL l 0=some a:=λh=>⟨_,atN (k:=0) (by omega)⟩
 have h2:1<n->∃a,atL l 1=some a:=λh=>⟨_,atN (k:=1) (by omega)⟩
 unfold Yy;refine wab (λ_=>wab (λ_=>Tt.pure trivial) λ_=>Tt.pure trivial) λc1=>?_;have c1:=wd0 c1;refine wab (λc=>?_) λc3=>wab (λc=>?_) λc4=>wab (λc=>?_) λc7=>?_
 ·have c:=wdz c;rw[c]at hn;cases hn;obtain⟨a,ha⟩:=h1 (by omega);obtain⟨b,hb⟩:=h2 (by omega);exact wac _ ha (wac _ hb (Tt.bind (Tt.call (jhh _ _) waa) λ_ _=>Tt.pure trivial))
 ·have c:=wdz c;rw[c]at hn;cases hn;obtain⟨a,ha⟩:=h1 (by omega);obtain⟨b,hb⟩:=h2 (by omega);exact wac _ ha (wac _ hb (Tt.bind (Tt.call (zzz _ _) waa) λ_ _=>Tt.pure trivial))
 ·have c:=wdz c;rw[c]at hn;cases hn;obtain⟨a,ha⟩:=h1 (by omega);exact wac _ ha (Tt.bind (Tt.call (zzz _ _) waa) λ_ _=>Tt.pure trivial)
 ·refine Tt.J (λs=>s.1=l/\(s.2.1=true->0<n)) (λnx hnx=>?_) (λs⟨e1,e2⟩=>?_)
  ·refine wad (wab (λc=>hnx _ ⟨rfl,λ_=>?_⟩) λc=>wad (hnx _ ⟨rfl,λh=>?_⟩))
   ·have c:=wdz c;rw[c]at hn;cases hn;omega
   ·have c:=wdz h;rw[c]at hn;cases hn;omega
  ·refine wab (λc=>?_) λ_=>Tt.pure trivial;obtain⟨a,ha⟩:=h1 (e2 c);rw[e1];refine wac _ ha ?_;refine Tt.J (λ_=>True) (λnx hnx=>wab (λ_=>hnx _ trivial) λ_=>hnx _ trivial) (λs _=>?_);refine Tt.J (λ_=>True) (λnx hnx=>?_) (λs _=>Tt.pure trivial);exact wab (λ_=>Tt.bind (Tt.call (zzz _ _) waa) λ_ _=>hnx _ trivial) λ_=>hnx _ trivial
theorem z9i{l:List jc}{d e:Nat}{k:Nat}(h:zgz l d=some e)(hk:k<l.length){j:Nat}(hj:zgz (l.take k) d=some j):∃n,arK (l[k]).1=some n/\n<=j/\zgz (l.take (k+1)) d=some (j-n+1):=by
 have hs:l=l.take (k+1)++l.drop (k+1):=(wfo _ _).symm;have htk:zgz (l.take (k+1)) d=match arK (l[k]).1 with|none=>none|some n=>if n<=j then some (j-n+1)else none:=by
  rw[web hk,zd0,hj];simp only[wfn,zgz];rfl
 rw[hs,zd0]at h;cases har:arK (l[k]).1 with
 |none=>rw[har]at htk;rw[htk]at h;cases h
 |some n=>
  rw[har]at htk;dsimp only at htk;by_cases hn:n<=j
  ·rw[if_pos hn]at htk;exact⟨n,rfl,hn,htk⟩
  ·rw[if_neg hn]at htk;rw[htk]at h;cases h
theorem z4f(l:List jc)(hl:l.length<=1000000):Tn (λnn=>za3 nn l) (λ_=>True):=by
 unfold za3;refine Tt.J (λ_=>True) (λnw hnw=>?_) (λs _=>Tt.pure trivial);refine Tt.bind (Tt.call (z79 l hl) waa) λe he=>?_;refine wab (λ_=>hnw _ trivial) λc=>?_;have c:=wd0 c;obtain⟨hd1,h512⟩:=he (by omega);refine Tt.loop (λm s=>∃(k:Nat)(f:jg)(st:List jg),k<=l.length/\m=l.length-k/\s=(l,(l.length:Int),(k:Int),f,st)/\zgz (l.take k) 0=some st.length/\st.length<=k) l.length waa ⟨0,_,[],by omega,by omega,rfl,rfl,by simp⟩ λm s⟨k,f,st,hk,hm,hs,hd,hst⟩ nx hnx=>?_;subst hs;dsimp only;refine wab (λc=>?_) (λc=>?_)
 ·have c:=wdz c;have hlt:k<l.length:=by omega
  obtain⟨n,hn,hnj,hd2⟩:=z9i hd1 hlt hd;refine wac _ (atN hlt) ?_;refine Tt.J (λs=>s=((n:Int),l,(l.length:Int),(k:Int),f,st,l[k])) (λny hny=>?_) (λs hs=>?_)
  ·refine Tt.J (λs=>∃b,s=(0,l,(l.length:Int),(k:Int),(l[k]).1,b,f,st,l[k])/\(b=true↔((l[k]).1=3\/(l[k]).1=4))) (λnz hnz=>?_) (λs⟨b,hs,hb⟩=>?_)
   ·refine wad (wab (λc=>hnz _ ⟨_,rfl,?_⟩) (λc=>wad (hnz _ ⟨_,rfl,?_⟩)))
    ·have:=wdz c;simp[this]
    ·have:=wd0 c;simp[this]
   ·subst hs;dsimp only;refine wab (λc=>hny _ ?_) (λc=>?_)
    ·have:=hb.1 c;rw[arK,if_pos this]at hn;cases hn;rfl
    ·have h34:¬((l[k]).1=3\/(l[k]).1=4):=λh=>by rw[hb.2 h]at c;cases c
     refine Tt.J (λs=>∃b,s=(0,l,(l.length:Int),(k:Int),b,f,st,l[k])/\(b=true↔((l[k]).1=5\/(l[k]).1=6\/(l[k]).1=7))) (λnu hnu=>?_) (λs⟨b,hs,hb⟩=>?_)
     ·refine wad (wab (λc=>hnu _ ⟨_,rfl,?_⟩) (λc=>wad (wab (λc2=>hnu _ ⟨_,rfl,?_⟩) (λc2=>wad (hnu _ ⟨_,rfl,?_⟩)))))
      ·have:=wdz c;simp[this]
      ·have:=wdz c2;simp[this]
      ·have h1:=wd0 c;have h2:=wd0 c2;simp[h1,h2]
     ·subst hs;dsimp only;rw[arK,if_neg h34]at hn;refine wab (λc=>hny _ ?_) (λc=>hny _ ?_)
      ·rw[if_pos (hb.1 c)]at hn;cases hn;rfl
      ·rw[if_neg (λh=>by rw[hb.2 h]at c;cases c)]at hn;split at hn<;>cases hn;rfl
  ·subst hs;dsimp only;refine wad ?_;rw[wI (by omega) (by omega)];have ez:(st.length:Int)-(n:Int)=((st.length-n:Nat):Int):=by omega
   rw[ez];refine wac (st.length-n) (by unfold jh7;simp) ?_;have hdl:(st.drop (st.length-n)).length=n:=by rw[wft];omega
   refine wac _ (Js (by simp;omega) (by omega)) ?_;rw[wfx];refine Tt.bind (Tt.call (z8b _ _ n hn (by omega)) waa.fst) λr _=>?_;refine wac (st.take (st.length-n)) (by unfold zcd;simp) (wac _ (Js (by simp;omega) (by omega)) (wad ?_));rw[wI (by omega) (by omega)];have el:(st.take (st.length-n)++[r]).length=st.length-n+1:=by rw[weg,wff];simp
   exact hnx (l.length-(k+1)) _ (by omega) ⟨k+1,f,_,by omega,rfl,rfl,by rw[el];exact hd2,by rw[el];omega⟩
 ·have c:=wd0 c;have hke:k=l.length:=by omega
  rw[hke,wen,hd1]at hd;have h1:0<st.length:=by have:=wfj hd;omega
  exact wac _ (zh h1) (wac _ (atN h1) (hnw.fst _ trivial))
theorem zx4(l:List jc)(hl:l.length<=1000000):Tn (λnn=>y5 nn l) (λ_=>True):=by
 unfold y5;refine Tt.bind (R:=λ_=>True) ?_ λ_ _=>Tt.pure trivial;unfold Zt;exact Tt.bind (Tt.call (z4f l hl) waa) λr _=>wab (λ_=>Tt.pure trivial) λ_=>Tt.pure trivial
theorem sm7{α:Type}{a b:List α}(h:a.length<=1000000):Go.Proofs.YtdllbdlnmjngcaaGreat.small7 a b=some b:=by
 unfold Go.Proofs.YtdllbdlnmjngcaaGreat.small7;rw[if_pos (by omega)]
section
variable{α:Type}{s:List α}{b:α}
theorem popZ(h:s.length<=1000000):T.w64 (((s++[b]).length:Int)-1)=(s.length:Int):=by
 rw[weg,weq,wI (by omega) (by omega)];omega
theorem jbp(h:s.length<=1000000):vk (s++[b]).length (T.w64 (((s++[b]).length:Int)-1))=some (s.length:Int):=by
 rw[popZ h];exact zh (by simp)
theorem jcw:atL (s++[b]) (s.length:Int)=some b:=zdj (by omega) (by simp)
theorem truncN{k:Nat}(h:k<=s.length):zcd s (k:Int)=some (s.take k):=by unfold zcd;simp[h]
theorem jb6(h:s.length<=1000000):zcd (s++[b]) (T.w64 (((s++[b]).length:Int)-1))=some s:=by
 rw[popZ h,truncN (by simp)];simp
theorem zsf{l:List α}(h:0<l.length):∃s b,l=s++[b]:=by
 rcases List.eq_nil_or_concat l with rfl|⟨s,b,rfl⟩
 ·simp at h
 ·exact⟨s,b,by simp⟩
end
abbrev OvS:=(List jc)×Int×Int×Bool×Int×qu×(List (Arr 4 Int))×(List (List Int))×(List Int)×(List Int)×(List qu)
theorem mid_eq(a b:Nat)(h:a+b<=2000000):zm2 .u64 (wr .u64 (T.w64 ((a:Int)+(b:Int)))) 1=some (((a+b) / 2:Nat):Int):=by
 rw[wI (by omega) (by omega)];unfold wr zm2;rw[zb1 (by omega) (by omega),if_neg (by omega)];have:min (1:Int).toNat IntKind.u64.bits=1:=by decide
 rw[this];congr 1;rw[Int.fdiv_eq_ediv_of_nonneg _ (by omega)];omega
structure zgt(N M:Nat)(n:je):Prop where
 s:n.1.length<=N
 o:n.2.1.length<=M
 l:n.2.2.1.length<=M
 f:n.2.2.2.1.length<=M
 fr:∀x∈n.2.2.2.1,x.length<=512
 fi:n.2.2.2.2.1.length<=M
theorem ris_of{l:List Int}(h:∀(i:Nat)(h:i+1<l.length),l[i]<l[i+1]):jx l:=by
 have key:∀(d i:Nat)(hh:i+d+1<l.length),l[i]<l[i+d+1]:=by
  intro d;induction d with
  |zero=>exact λi hh=>h i hh
  |succ d ih=>exact λi hh=>Int.lt_trans (ih i (by omega)) (h (i+d+1) (by omega))
 refine wgw.2 λi j hi hj hij=>?_;have:=key (j-i-1) i (by omega);simpa [show i+(j-i-1)+1=j by omega]using this
theorem jiw{N:Nat}{l:List Int}(hr:jx l)(h:(hp:0<l.length)->0<=l[0]/\l[l.length-1]<(N:Int)):RN N l:=by
 refine⟨hr,λx hx=>?_⟩;obtain⟨i,hi,rfl⟩:=List.mem_iff_getElem.1 hx;obtain⟨h1,h2⟩:=h (by omega);have hp:=wgw.1 hr;have a1:l[0]<=l[i]:=by
  by_cases e:i=0
  ·subst e;omega
  ·have:=hp 0 i (by omega) hi (by omega);omega
 have a2:l[i]<=l[l.length-1]:=by
  by_cases e:i=l.length-1
  ·subst e;omega
  ·have:=hp i (l.length-1) hi (by omega) (by omega);omega
 omega
structure NetOk(n:je):Prop where
 o:n.2.1.length=n.1.length
 l:n.2.2.1.length=n.1.length
 f:n.2.2.2.1.length=n.1.length
 fi:RN n.1.length n.2.2.2.2.1
 fo:∀x∈n.2.2.2.1,RN n.1.length x
theorem je3{b:Nat}(h:b<256):zj8 .u8 (b:Int) 64=some ((b / 64:Nat):Int):=by
 unfold zj8;rw[if_neg (by decide),show((b:Int)).tdiv 64=((b / 64:Nat):Int)from(Int.ofNat_tdiv b 64).symm,Jp (by omega) (by omega)]
theorem z6l(b:Nat):zmn .u8 (b:Int) 64=some ((b % 64:Nat):Int):=by
 unfold zmn;rw[if_neg (by decide),show((b:Int)).tmod 64=((b % 64:Nat):Int)from(Int.ofNat_tmod b 64).symm]
theorem RN.sub{N:Nat}{a b:List Int}(h:RN N b)(hs:a.Sublist b):RN N a:=⟨List.Pairwise.sublist hs h.r,λx hx=>h.b x (hs.subset hx)⟩
theorem jbs(s:Arr 4 Int)(b:Nat)(hb:b<256):Tn (λnn=>zar nn s (b:Int)) (λ_=>True):=by
 unfold zar;obtain⟨x,hx⟩:=at4 s (k:=b / 64) (by omega);refine wac _ (je3 hb) (wac _ (zh (by omega)) (wac _ hx (wac _ (z6l b) ?_)));exact wac _ (show zx6 .u64 1 ((b % 64:Nat):Int)=some _ by unfold zx6;rw[if_neg (by omega)]) (Tt.pure trivial)
section
variable{α β:Type}{eqb:α → α → Bool}
theorem zkc:∀{m:List (α×β×Unit)}{k:α}{v:β},zr eqb m k=none->Zi eqb m k v=m++[(k,v,())]
 |[],_,_,_=>rfl
 |e::r,k,v,h=>by
  unfold zr at h;unfold Zi;cases hc:eqb k e.1
  ·rw[hc]at h;simp only[wgk,zkc h]
  ·rw[hc]at h;cases h
theorem zik{k:α}{v:β}(hk:eqb k k=true):∀{m:List (α×β×Unit)},zr eqb (Zi eqb m k v) k=some v
 |[]=>by unfold Zi zr;rw[hk]
 |e::r=>by
  unfold Zi;cases hc:eqb k e.1
  ·unfold zr;rw[hc];exact zik hk
  ·unfold zr;rw[hk]
theorem zw1:∀{m:List (α×β×Unit)}{k:α}{v:β},zr eqb m k=some v->∃(j:Nat)(e:α×β×Unit),m[j]?=some e/\e.2.1=v
 |[],_,_,h=>by cases h
 |e::r,k,v,h=>by
  unfold zr at h;cases hc:eqb k e.1
  ·rw[hc]at h;obtain⟨j,e',h1,h2⟩:=zw1 h;exact⟨j+1,e',by simpa using h1,h2⟩
  ·rw[hc]at h;cases h;exact⟨0,e,rfl,rfl⟩
end
theorem z7v(k:v7):J0 k k=true:=by simp[J0,zrw]
theorem zq1{n:Nat}{α:Type}(a:Arr n α){k:Nat}(h:k<n)(x:α):∃a',zp4 a (k:Int) x=some a'/\a'.l=a.l.set k x:=by
 refine⟨⟨a.l.set k x,by rw[wf4,a.h]⟩,?_,rfl⟩;unfold zp4;simp[h]
structure ClsN(a:Arr 256 Int)(n:Nat):Prop where
 h1:1<=n
 h2:n<=256
 lt:∀(b:Nat)(x:Int),a.l[b]?=some x->∃j:Nat,j<n/\x=j
 on:∀j:Nat,j<n->∃b:Nat,a.l[b]?=some (j:Int)
theorem ClsN.zero:ClsN ⟨List.replicate 256 0,wd2⟩ 1:=
 ⟨by omega,by omega,λb x h=>⟨0,by omega,by rw[wf6]at h;split at h<;>cases h;rfl⟩,λj hj=>⟨0,by show(List.replicate 256 (0:Int))[0]?=some _;rw[wf6,if_pos (by decide)];congr 1;omega⟩⟩
structure SplI(k:Nat)(a:Arr 256 Int)(m:List (v7×Int×Unit)):Prop where
 v:∀(j:Nat)(e:v7×Int×Unit),m[j]?=some e->e.2.1=j
 l:m.length<=k
 p:0<k->0<m.length
 lt:∀(b:Nat)(x:Int),b<k->a.l[b]?=some x->∃j:Nat,j<m.length/\x=j
 on:∀j:Nat,j<m.length->∃b:Nat,b<k/\a.l[b]?=some (j:Int)
theorem SplI.step{k:Nat}{a a':Arr 256 Int}{m m':List (v7×Int×Unit)}(h:SplI k a m)(hk:k<256){j:Nat}(ha:a'.l=a.l.set k (j:Int))(hm:m'=m/\j<m.length\/∃x,m'=m++[(x,(m.length:Int),())]/\j=m.length):SplI (k+1) a' m':=by
 have hl:=a.h;have hg:a'.l[k]?=some (j:Int):=by rw[ha,List.getElem?_set_self (by omega)]
 have hn:∀b,b≠k->a'.l[b]?=a.l[b]?:=λb hb=>by rw[ha,wgy (by omega)]
 have hj:j<m'.length/\m.length<=m'.length/\m'.length<=m.length+1:=by
  rcases hm with⟨e,h2⟩|⟨x,e,h2⟩
  ·subst e;omega
  ·subst e;simp;omega
 refine⟨λi e he=>?_,by have:=h.l;omega,λ_=>by omega,λb x hb hx=>?_,λi hi=>?_⟩
 ·rcases hm with⟨e1,h2⟩|⟨x,e1,h2⟩
  ·subst e1;exact h.v i e he
  ·subst e1;by_cases hi:i<m.length
   ·rw[wd8 hi]at he;exact h.v i e he
   ·rw[wea (by omega)]at he;have:i-m.length=0:=by
     cases hd:i-m.length with
     |zero=>rfl
     |succ d=>rw[hd]at he;simp at he
    rw[this]at he;simp only[wf9,we0]at he;subst he;simp only;omega
 ·by_cases hbk:b=k
  ·subst hbk;rw[hg]at hx;cases hx;exact⟨j,by omega,rfl⟩
  ·rw[hn b hbk]at hx;obtain⟨i,h1,h2⟩:=h.lt b x (by omega) hx;exact⟨i,by omega,h2⟩
 ·by_cases hij:i=j
  ·subst hij;exact⟨k,by omega,hg⟩
  ·have him:i<m.length:=by
    rcases hm with⟨e1,h2⟩|⟨x,e1,h2⟩
    ·subst e1;exact hi
    ·subst e1;simp at hi;omega
   obtain⟨b,h1,h2⟩:=h.on i him;exact⟨b,by omega,by rw[hn b (by omega)];exact h2⟩
theorem z8q(a:Arr 256 Int)(s:Arr 4 Int):Tn (λnn=>Qq nn a s) (λr=>∃n,ClsN r n):=by
 unfold Qq;refine Tt.loop (λj t=>∃(k:Nat)(a':Arr 256 Int)(m:List (v7×Int×Unit)),k<=256/\j=256-k/\t=((k:Int),a',s,⟨List.replicate 256 0,wd2⟩,m)/\SplI k a' m) 256 waa ⟨0,_,_,by omega,by omega,rfl,⟨λj e h=>by simp at h,by simp,by omega,λb x h=>by omega,λj h=>by simp at h⟩⟩ λj t⟨k,a',m,hk,hj,ht,hi⟩ nx hnx=>?_;subst ht;dsimp only;refine wab (λc=>?_) (λc=>Tt.pure ?_)
 ·have c:=wdz c;have hlt:k<256:=by omega
  have hal:=a'.h;have hwu:wr .u8 (k:Int)=(k:Int):=Jp (by omega) (by omega);refine wac _ (zh hlt) (wac _ (atN (by omega)) ?_);rw[hwu];refine Tt.bind (Tt.call (jbs s k hlt) waa.fst) λr _=>?_;generalize hkey:((a'.l[k]'(by omega),r,()):v7)=key;have hml:=hi.l;refine Tt.J (λt=>∃(m':List (v7×Int×Unit))(j:Nat),t=((k:Int),(k:Int),a',s,⟨List.replicate 256 0,wd2⟩,m',key)/\zr J0 m' key=some (j:Int)/\(m'=m/\j<m.length\/∃x,m'=m++[(x,(m.length:Int),())]/\j=m.length)) (λny hny=>?_) λt⟨m',j,ht,hg,hm⟩=>?_
  ·refine wad ?_;cases hg:zr J0 m key with
   |none=>
    refine wan rfl (wad (wad (hny _ ⟨_,m.length,rfl,?_,Or.inr ⟨key,?_,rfl⟩⟩)))
    ·have hw:wr .u8 (m.length:Int)=(m.length:Int):=Jp (by omega) (by omega);rw[hw];exact zik (z7v key)
    ·have hw:wr .u8 (m.length:Int)=(m.length:Int):=Jp (by omega) (by omega);rw[hw];exact zkc hg
   |some v=>
    obtain⟨i,e,h1,h2⟩:=zw1 hg;have h3:=hi.v i e h1;have h4:i<m.length:=by
     have:=wd1.1 h1;exact this.1
    refine waf rfl (hny _ ⟨m,i,rfl,?_,Or.inl ⟨rfl,h4⟩⟩);rw[hg,<- h2,h3]
  ·subst ht;dsimp only;rw[hg];obtain⟨a2,e1,e2⟩:=zq1 a' hlt (j:Int);refine wad (wac _ (zh hlt) (wac _ e1 (wad ?_)));rw[wI (by omega) (by omega)];exact hnx (256-(k+1)) _ (by omega) ⟨k+1,a2,m',by omega,rfl,rfl,hi.step hlt e2 hm⟩
 ·have c:=wd0 c;have hke:k=256:=by omega
  subst hke;refine⟨m.length,hi.p (by omega),hi.l,λb x hx=>hi.lt b x ?_ hx,λj hj=>?_⟩
  ·have:=wd1.1 hx;have h2:=a'.h;have h3:=this.1;omega
  ·obtain⟨b,h1,h2⟩:=hi.on j hj;exact⟨b,h2⟩
theorem z88(a:Arr 256 Int){n:Nat}(h:ClsN a n):Tn (λnn=>Qr nn a) (λr=>r=(n:Int)):=by
 have hl:=a.h;have hn:=h.h2;unfold Qr;refine Tt.loop (λj t=>∃(k w:Nat),k<=256/\j=256-k/\t=((w:Int),a,(k:Int))/\w<=n/\∀(b:Nat)(x:Int),b<k->a.l[b]?=some x->x<(w:Int)) 256 waa ⟨0,0,by omega,by omega,rfl,by omega,λb x h=>by omega⟩ λj t⟨k,w,hk,hj,ht,hw,hi⟩ nx hnx=>?_;subst ht;dsimp only;refine wab (λc=>?_) (λc=>Tt.pure ?_)
 ·have c:=wdz c;have hlt:k<256:=by omega
  refine wac _ (atN (by omega)) ?_;obtain⟨i,h1,h2⟩:=h.lt k (a.l[k]'(by omega)) (by simp[hl,hlt]);have e1:wr .i64 (a.l[k]'(by omega))=(i:Int):=by rw[h2];exact Zf (by omega) (by omega)
  have e2:max (w:Int) (T.w64 (wr .i64 (a.l[k]'(by omega))+1))=((max w (i+1):Nat):Int):=by
   rw[e1,wI (by omega) (by omega)];omega
  rw[e2];refine wad (wad ?_);rw[wI (by omega) (by omega)];refine hnx (256-(k+1)) _ (by omega) ⟨k+1,_,by omega,rfl,rfl,by omega,λb x hb hx=>?_⟩;by_cases hbk:b=k
  ·subst hbk;rw[wdy (by omega)]at hx;have:=wfj hx;omega
  ·have:=hi b x (by omega) hx;omega
 ·have c:=wd0 c;have h1:=h.h1;obtain⟨b,hb⟩:=h.on (n-1) (by omega);have h3:=(wd1.1 hb).1;have:=hi b _ (by omega) hb;omega
theorem z9c(a:Arr 256 Int){n:Nat}(h:ClsN a n)(c:Nat)(hc:c<n):Tn (λnn=>Jt nn a (c:Int)) (λr=>∃b:Nat,b<256/\atL r 0=some (b:Int)):=by
 have hl:=a.h;have hn:=h.h2;unfold Jt;refine Tt.loop (λj t=>∃(k:Nat)(out:List Int),k<=256/\j=256-k/\t=((c:Int),(k:Int),a,out)/\out.length<=k/\(∀x∈out,∃b:Nat,b<256/\x=(b:Int))/\((∃b:Nat,b<k/\a.l[b]?=some (c:Int))->0<out.length)) 256 waa ⟨0,_,by omega,by omega,rfl,by simp,by simp,λ⟨b,h,_⟩=>by omega⟩ λj t⟨k,out,hk,hj,ht,ho,hx,hp⟩ nx hnx=>?_;subst ht;dsimp only;refine wab (λc1=>?_) (λc1=>Tt.pure ?_)
 ·have c1:=wdz c1;have hlt:k<256:=by omega
  refine Tt.J (λt=>∃out',t=((c:Int),(k:Int),a,out')/\out'.length<=k+1/\(∀x∈out',∃b:Nat,b<256/\x=(b:Int))/\((∃b:Nat,b<k+1/\a.l[b]?=some (c:Int))->0<out'.length)) (λny hny=>?_) λt⟨out',ht,h1,h2,h3⟩=>?_
  ·refine wac _ (zh hlt) (wac _ (atN (by omega)) ?_);obtain⟨i,h1,h2⟩:=h.lt k (a.l[k]'(by omega)) (by simp[hl,hlt]);have e1:wr .i64 (a.l[k]'(by omega))=(i:Int):=by rw[h2];exact Zf (by omega) (by omega)
   rw[e1];refine wab (λc2=>?_) λc2=>hny _ ⟨_,rfl,by omega,hx,λ⟨b,hb,hb2⟩=>?_⟩
   ·have hw:wr .u8 (k:Int)=(k:Int):=Jp (by omega) (by omega);rw[hw];refine wac _ (Js (by simp;omega) (by omega)) (hny _ ⟨_,rfl,by simp;omega,λx hxx=>?_,λ_=>by simp⟩);rcases wd7.1 hxx with h|h
    ·exact hx x h
    ·exact⟨k,hlt,wd5.1 h⟩
   ·refine hp ⟨b,?_,hb2⟩;have:b≠k:=λe=>by
     subst e;rw[wdy (by omega)]at hb2;have:=wfj hb2;have c2:=wd0 c2;omega
    omega
  ·subst ht;refine wad ?_;dsimp only;rw[wI (by omega) (by omega)];exact hnx (256-(k+1)) _ (by omega) ⟨k+1,_,by omega,rfl,rfl,h1,h2,h3⟩
 ·have c1:=wd0 c1;obtain⟨b,hb⟩:=h.on c hc;have h3:=(wd1.1 hb).1;have:=hp ⟨b,by omega,hb⟩;cases out with
  |nil=>simp at this
  |cons x r=>
   obtain⟨b',h1,h2⟩:=hx x (by simp);exact⟨b',h1,by rw[h2];rfl⟩
structure DSz(d:D_api_Dfa):Prop where
 c:∃n,ClsN d.1 n
 w:0<=d.2.1/\d.2.1<=256
 n:d.2.2.1.length<=300
 l:d.2.2.2.1.length<=300
 r:∀x∈d.2.2.1,x.length<=256
theorem DSz.zero:DSz (⟨List.replicate 256 0,wd2⟩,0,[],[],()):=⟨⟨1,ClsN.zero⟩,by simp,by simp,by simp,by simp⟩
abbrev Wh:=List ((List UInt8)×Int×Unit)
abbrev DBS:=Int×Int×Int×Int×je×(Arr 256 Int)×Int×(Arr 256 Int)×Int×(List Int)×(List (List Int))×(List Int)×(List (List Int))×(List Int)×(List (List Int))×Wh
theorem z32(a:Arr 256 Int):Tn (λnn=>Qr nn a) (λr=>True):=by
 have hl:=a.h;unfold Qr;refine Tt.loop (λj t=>∃(k:Nat)(w:Int),k<=256/\j=256-k/\t=(w,a,(k:Int))) 256 waa ⟨0,0,by omega,by omega,rfl⟩ λj t⟨k,w,hk,hj,ht⟩ nx hnx=>?_;subst ht;dsimp only;refine wab (λc=>?_) (λc=>Tt.pure trivial);have c:=wdz c;refine wac _ (atN (by omega)) (wad (wad ?_));rw[wI (z:=(k:Int)+1) (by omega) (by omega)];exact hnx (256-(k+1)) _ (by omega) ⟨k+1,_,by omega,rfl,rfl⟩
theorem z4n(a:Arr 256 Int):Tn (λnn=>zct nn a) (λr=>True):=by
 unfold zct;exact Tt.bind (Tt.call (z8q a _) waa) λr _=>Tt.pure trivial
structure DRt(d:D_api_Dfa):Prop where
 n0:0<d.2.2.1.length
 lab:d.2.2.2.1.length=d.2.2.1.length
 row:∀x∈d.2.2.1,(x.length:Int)=d.2.1
 nx:∀x∈d.2.2.1,∀y∈x, -1<=y/\y<(d.2.2.1.length:Int)
theorem zwl{α:Type}{l:List α}{k:Nat}(h:k<l.length){P:α->Prop}(h1:∀x∈l.take k,P x)(h2:P l[k]):∀x∈l.take (k+1),P x:=λx hx=>by
 rw[web h]at hx;rcases wd7.1 hx with h|h
 ·exact h1 x h
 ·rw[wd5.1 h];exact h2
theorem dRight_tot(d:D_api_Dfa)(hd:DSz d):Tn (λnn=>p_dfa_Right nn d) (λb=>b=true->DRt d):=by
 have s1:=hd.n;have s2:=hd.l;unfold p_dfa_Right;refine wad ?_;refine Tt.J (λs=>∃b,s=((d.2.2.1.length:Int),b,d)/\(b=false->0<d.2.2.1.length/\d.2.2.2.1.length=d.2.2.1.length)) (λnx hnx=>?_) λs⟨b,hs,hb⟩=>?_
 ·refine wad (wab (λc=>hnx _ ⟨_,rfl,λh=>by cases h⟩) λc=>wab (λc=>hnx _ ⟨_,rfl,λh=>by cases h⟩) λc2=>?_);refine Tt.bind (Tt.call (z4n _) waa) λr _=>wab (λc=>hnx _ ⟨_,rfl,λh=>by cases h⟩) λc3=>?_;refine Tt.bind (Tt.call (z32 _) waa) λr _=>hnx _ ⟨_,rfl,λ_=>?_⟩;have c:=wd0 c;have c2:=wd0 c2;omega
 subst hs;dsimp only;refine wab (λ_=>Tt.pure λh=>by cases h) λc=>?_;obtain⟨e1,e2⟩:=hb c;refine Tt.J (λb=>b=true->DRt d) (λnx hnx=>?_) λs hs=>Tt.pure hs;refine Tt.loop (λm s=>∃k:Nat,k<=d.2.2.1.length/\m=d.2.2.1.length-k/\s=((d.2.2.1.length:Int),true,d.2.2.1,(d.2.2.1.length:Int),(k:Int),d)/\∀x∈d.2.2.1.take k,(x.length:Int)=d.2.1/\∀y∈x, -1<=y/\y<(d.2.2.1.length:Int)) d.2.2.1.length waa ⟨0,by omega,by omega,rfl,by simp⟩ λm s⟨k,hk,hm,hs,hi⟩ ny hny=>?_;subst hs;dsimp only;refine wab (λc=>?_) (λc=>hnx.fst _ λ_=>?_)
 ·have c:=wdz c;have hlt:k<d.2.2.1.length:=by omega
  have hrl:=hd.r _ (wec hlt);refine wac _ (atN hlt) ?_;refine Tt.J (λs=>∃b,s=((d.2.2.1.length:Int),true,d.2.2.1[k],d.2.2.1,(d.2.2.1.length:Int),(k:Int),b,d)/\(b=false->((d.2.2.1[k]).length:Int)=d.2.1)) (λnz hnz=>?_) λs⟨b,hs,hb⟩=>?_
  ·refine wad (wab (λc=>hnz _ ⟨_,rfl,λh=>by cases h⟩) λc=>?_);have c:=wd0 c;exact wac _ (atN (by omega)) (hnz _ ⟨_,rfl,λ_=>by omega⟩)
  ·subst hs;dsimp only;refine wab (λ_=>hnx.fst _ λh=>by cases h) λc=>?_;have hrw:=hb c;refine Tt.loop (λm s=>∃j:Nat,j<=(d.2.2.1[k]).length/\m=(d.2.2.1[k]).length-j/\s=((d.2.2.1.length:Int),true,d.2.2.1,(d.2.2.1.length:Int),(k:Int),d.2.2.1[k],((d.2.2.1[k]).length:Int),(j:Int),d)/\∀y∈(d.2.2.1[k]).take j, -1<=y/\y<(d.2.2.1.length:Int)) (d.2.2.1[k]).length waa.fst ⟨0,by omega,by omega,rfl,by simp⟩ λm s⟨j,hj,hm,hs,hij⟩ nz hnz=>?_;subst hs;dsimp only;refine wab (λc=>?_) (λc=>?_)
   ·have c:=wdz c;have hlt2:j<(d.2.2.1[k]).length:=by omega
    refine wac _ (atN hlt2) ?_;refine Tt.J (λs=>∃b,s=((d.2.2.1.length:Int),true,d.2.2.1,(d.2.2.1.length:Int),(k:Int),d.2.2.1[k],((d.2.2.1[k]).length:Int),(j:Int),b,d)/\(b=false -> -1<=(d.2.2.1[k])[j]/\(d.2.2.1[k])[j]<(d.2.2.1.length:Int))) (λnu hnu=>?_) λs⟨b,hs,hb⟩=>?_
    ·refine wad (wab (λc=>hnu _ ⟨_,rfl,λh=>by cases h⟩) λc=>hnu _ ⟨_,rfl,λh=>?_⟩);have c:=wd0 c;have c2:=wd0 h;omega
    ·subst hs;dsimp only;refine wab (λ_=>hnx.fst.fst _ λh=>by cases h) λc=>wad ?_;rw[wI (by omega) (by omega)];exact hnz ((d.2.2.1[k]).length-(j+1)) _ (by omega) ⟨j+1,by omega,rfl,rfl,zwl hlt2 hij (hb c)⟩
   ·have c:=wd0 c;have hje:j=(d.2.2.1[k]).length:=by omega
    rw[hje,wen]at hij;refine wad ?_;rw[wI (by omega) (by omega)];exact(hny (d.2.2.1.length-(k+1)) _ (by omega) ⟨k+1,by omega,rfl,rfl,zwl hlt hi ⟨hrw,hij⟩⟩).fst
 ·have c:=wd0 c;have hke:k=d.2.2.1.length:=by omega
  rw[hke,wen]at hi;exact⟨e1,e2,λx hx=>(hi x hx).1,λx hx=>(hi x hx).2⟩
end Go.Proofs.YtdllbdlnmjngcaaGreat.T
namespace Go.Proofs.YtdllbdlnmjngcaaGreat
set_option maxRecDepth 100000
set_option maxHeartbeats 8000000
set_option linter.unusedVariables false
set_option linter.unusedSimpArgs false
open Go Go.RowKit L
structure MOk(d:qh):Prop where
 n0:0<d.jy.length
 lab:d.Jq.length=d.jy.length
 w:0<=d.zcv/\d.zcv<=256
 row:∀i:Int,0<=i->i<d.jy.length->((at' d.jy i).length:Int)=d.zcv
 nx:∀i c:Int,0<=i->i<d.jy.length->0<=c->c<d.zcv -> -1<=at' (at' d.jy i) c/\at' (at' d.jy i) c<d.jy.length
theorem zti(d:qh)(hd:T.DSz (zwz d)):Tot (Zc d) (λb=>b=true->MOk d):=by
 obtain⟨r,⟨N,h1⟩,h2⟩:=T.dRight_tot _ hd;refine⟨r,N,h1,λhr=>?_⟩;have h:=h2 hr;refine⟨h.n0,h.lab,hd.w,λi h0 hi=>h.row _ (zcc h0 hi),λi c h0 hi hc hc2=>?_⟩;have hr:=h.row _ (zcc h0 hi);exact h.nx _ (zcc h0 hi) _ (zcc hc (by show c<((at' d.jy i).length:Int);rw[show((at' d.jy i).length:Int)=d.zcv from hr];exact hc2))
def nxt(d:qh)(i:Nat)(c:Int):Int:=at' (at' d.jy i) c
def dE(d:qh)(i j:Nat):Prop:=i<d.jy.length/\∃c:Int,0<=c/\c<d.zcv/\nxt d i c=j
def lblI(d:qh)(i:Nat):Int:=at' d.Jq i
theorem zof{α:Type}[Inhabited α]{l:List α}{k:Nat}(h:k<l.length)(p:α->Bool):(l.take (k+1)).filter p=if p (at' l (k:Int))then(l.take k).filter p++[at' l (k:Int)]else(l.take k).filter p:=by
 rw[web h,zdn h,wgt];by_cases hp:p l[k]<;>simp[hp]
theorem jcy(d:qh)(hm:MOk d)(i:Nat)(hi:i<d.jy.length):Tot (zai d i) (· = (at' d.jy i).filter λx=>decide (0<=x)):=by
 unfold zai;have hw:=hm.w;have hr:=hm.row i (by omega) (by omega)
 repeat (first|with_reducible (refine waw ?_)|with_reducible (refine was ?_)|(refine wau ?_ ?_;focus (first|with_reducible rfl|(simp (disch:=omega) only [yj,yi,bl_];done)))|(refine wav ?_ ?_;focus (first|with_reducible rfl|(simp (disch:=omega) only [yj,yi,bl_];done)))|with_reducible (refine war ?_)|((first|refine waj ?_ ?_|refine wal ?_ ?_|refine wak ?_ ?_);focus (first|omega|(simp;done)|(simp;omega))))
 refine wa3 (· = (at' d.jy i).filter λx=>decide (0<=x)) ?_ λa ha=>Tot.pure ha;refine wbi (λs=>s.1) (at' d.jy i).length (λk(s:Int×List Int)=>s.1=(k:Int)/\s.2=((at' d.jy i).take k).filter λx=>decide (0<=x)) (λk s h=>h.1) ?_ ?_ ⟨rfl,by simp⟩
 ·rintro k ⟨_,l⟩ hk ⟨rfl,h⟩;simp only at h;have hl:l.length<=k:=by rw[h];exact wfc (wf0 ..) (by simp;omega)
  have hs:=zof hk (λx=>decide (0<=x));rw[<- h]at hs
  repeat (first|with_reducible (refine waw ?_)|with_reducible (refine was ?_)|(refine wau ?_ ?_;focus (first|with_reducible rfl|(simp (disch:=omega) only [yj,yi,bl_];done)))|(refine wav ?_ ?_;focus (first|with_reducible rfl|(simp (disch:=omega) only [yj,yi,bl_];done)))|with_reducible (refine war ?_)|((first|refine waj ?_ ?_|refine wal ?_ ?_|refine wak ?_ ?_);focus (first|omega|(simp;done)|(simp;omega))))
  refine Tot.cond (λhb=>?_) λhb=>?_
  ·repeat (first|with_reducible (refine waw ?_)|with_reducible (refine was ?_)|(refine wau ?_ ?_;focus (first|with_reducible rfl|(simp (disch:=omega) only [yj,yi,bl_];done)))|(refine wav ?_ ?_;focus (first|with_reducible rfl|(simp (disch:=omega) only [yj,yi,bl_];done)))|with_reducible (refine war ?_)|((first|refine waj ?_ ?_|refine wal ?_ ?_|refine wak ?_ ?_);focus (first|omega|(simp;done)|(simp;omega))))
   rw[hb,if_pos rfl]at hs;exact Tot.pure ⟨zeb (by omega),hs.symm⟩
  ·rw[hb]at hs;exact Tot.pure ⟨zeb (by omega),hs.symm⟩
 ·rintro⟨_,l⟩ ⟨rfl,h⟩
  repeat (first|with_reducible (refine waw ?_)|with_reducible (refine was ?_)|(refine wau ?_ ?_;focus (first|with_reducible rfl|(simp (disch:=omega) only [yj,yi,bl_];done)))|(refine wav ?_ ?_;focus (first|with_reducible rfl|(simp (disch:=omega) only [yj,yi,bl_];done)))|with_reducible (refine war ?_)|((first|refine waj ?_ ?_|refine wal ?_ ?_|refine wak ?_ ?_);focus (first|omega|(simp;done)|(simp;omega))))
  rw[wen]at h;exact Tot.pure h
theorem z60{d:qh}(hm:MOk d){i:Nat}(hi:i<d.jy.length){x:Int}:x∈at' d.jy i↔∃c:Int,0<=c/\c<d.zcv/\nxt d i c=x:=by
 have hr:=hm.row i (by omega) (by omega);constructor
 ·intro h;obtain⟨c,hc,rfl⟩:=wf5 h;exact⟨c,by omega,by omega,by unfold nxt;rw[zdn hc]⟩
 ·rintro⟨c,h0,h1,rfl⟩;exact zcc h0 (by omega)
theorem z0y(d:qh)(hm:MOk d)(i:Nat)(hi:i<d.jy.length):((at' d.jy i).filter λx=>decide (0<=x)).length<=256/\(∀x∈(at' d.jy i).filter λx=>decide (0<=x),0<=x/\x<d.jy.length)/\∀j:Nat,(j:Int)∈((at' d.jy i).filter λx=>decide (0<=x))↔dE d i j:=by
 have hw:=hm.w;have hr:=hm.row i (by omega) (by omega);refine⟨wfc (wf0 ..) (by omega),λx hx=>?_,λj=>?_⟩
 ·obtain⟨h1,h2⟩:=wgh.1 hx;obtain⟨c,h3,h4,rfl⟩:=(z60 hm hi).1 h1;have:=hm.nx i c (by omega) (by omega) h3 h4;simp at h2;exact⟨h2,this.2⟩
 ·rw[wgh,z60 hm hi];unfold dE;simp[hi]
theorem zqb(d:qh)(hd:T.DSz (zwz d))(b:Bool)(hb:Tot (Zc d) (· = b)):Tot (Vj d) (λr=>b=false/\r=[]\/b=true/\MOk d/\r=zh4 d.jy.length (dE d) (λi=>i=0)):=by
 have hn:d.jy.length<=300:=hd.n;unfold Vj;obtain⟨b',N',hb1,hb2⟩:=zti d hd;have hR:b=true->MOk d:=by
  obtain⟨c,N,h1,h2⟩:=hb;have e:=(h1 (max N N') (by omega)).symm.trans (hb1 (max N N') (by omega));have e:=wfj e;intro h;exact hb2 (e▸h2▸h)
 refine wbj hb ?_;cases b
 ·repeat (first|with_reducible (refine waw ?_)|with_reducible (refine was ?_)|(refine wau ?_ ?_;focus (first|with_reducible rfl|(simp (disch:=omega) only [yj,yi,bl_];done)))|(refine wav ?_ ?_;focus (first|with_reducible rfl|(simp (disch:=omega) only [yj,yi,bl_];done)))|with_reducible (refine war ?_)|((first|refine waj ?_ ?_|refine wal ?_ ?_|refine wak ?_ ?_);focus (first|omega|(simp;done)|(simp;omega))))
  exact Tot.pure (.inl ⟨rfl,rfl⟩)
 have hm:=hR rfl;have:=hm.n0
 repeat (first|with_reducible (refine waw ?_)|with_reducible (refine was ?_)|(refine wau ?_ ?_;focus (first|with_reducible rfl|(simp (disch:=omega) only [yj,yi,bl_];done)))|(refine wav ?_ ?_;focus (first|with_reducible rfl|(simp (disch:=omega) only [yj,yi,bl_];done)))|with_reducible (refine war ?_)|((first|refine waj ?_ ?_|refine wal ?_ ?_|refine wak ?_ ?_);focus (first|omega|(simp;done)|(simp;omega))))
 refine wa3 (· = zh4 d.jy.length (dE d) (λi=>i=0)) ?_ (λa ha=>Tot.pure (.inr ⟨rfl,hm,ha⟩));have h:=zrx d.jy.length [0] (λy=>Qe y d) (dE d) (by omega) (by simp) (λx hx=>by simp at hx;subst hx;omega) (λi hi=>by
  unfold Qe;refine wbj (jcy d hm i hi) (Tot.pure ?_);obtain⟨h1,h2,h3⟩:=z0y d hm i hi;exact⟨by omega,h2,h3⟩)
 refine h.mono λa ha=>?_;rw[ha];congr 1;funext i;simp
theorem jga{α:Type}[Inhabited α]{l:List α}{z:Int}{j:Nat}{v:α}(h0:0<=z)(h1:z<l.length):at' (l.set z.toNat v) (j:Int)=if(j:Int)=z then v else at' l (j:Int):=by
 by_cases h:(j:Int)=z
 ·rw[if_pos h,h];exact jhz h0 h1
 ·rw[if_neg h];exact at_ne h0 (by omega) (λe=>h e.symm)
theorem at_rep{α:Type}[Inhabited α]{n j:Nat}{v:α}(h:j<n):at' (List.replicate n v) (j:Int)=v:=by
 rw[zdn (by simpa using h)];simp
theorem zvq(d:qh)(hd:T.DSz (zwz d))(b:Bool)(hb:Tot (Zc d) (· = b)):Tot (Zs d) (λr=>b=false/\r=[]\/b=true/\r.length=d.jy.length):=by
 have hn:d.jy.length<=300:=hd.n;unfold Zs;obtain⟨b',N',hb1,hb2⟩:=zti d hd;have hR:b=true->MOk d:=by
  obtain⟨c,N,h1,h2⟩:=hb;have e:=(h1 (max N N') (by omega)).symm.trans (hb1 (max N N') (by omega));have e:=wfj e;intro h;exact hb2 (e▸h2▸h)
 refine wbj hb ?_;cases b
 ·repeat (first|with_reducible (refine waw ?_)|with_reducible (refine was ?_)|(refine wau ?_ ?_;focus (first|with_reducible rfl|(simp (disch:=omega) only [yj,yi,bl_];done)))|(refine wav ?_ ?_;focus (first|with_reducible rfl|(simp (disch:=omega) only [yj,yi,bl_];done)))|with_reducible (refine war ?_)|((first|refine waj ?_ ?_|refine wal ?_ ?_|refine wak ?_ ?_);focus (first|omega|(simp;done)|(simp;omega))))
  exact Tot.pure (.inl ⟨rfl,rfl⟩)
 have hm:=hR rfl;have hn0:=hm.n0;have hlab:=hm.lab;have hw:=hm.w
 repeat (first|with_reducible (refine waw ?_)|with_reducible (refine was ?_)|(refine wau ?_ ?_;focus (first|with_reducible rfl|(simp (disch:=omega) only [yj,yi,bl_];done)))|(refine wav ?_ ?_;focus (first|with_reducible rfl|(simp (disch:=omega) only [yj,yi,bl_];done)))|with_reducible (refine war ?_)|((first|refine waj ?_ ?_|refine wal ?_ ?_|refine wak ?_ ?_);focus (first|omega|(simp;done)|(simp;omega))))
 generalize hA:List.replicate (d.jy.length:Int).toNat ([]:List Int)=A;have hA1:A.length=d.jy.length:=by rw[<- hA];simp
 have hA2:∀j:Nat,j<d.jy.length->at' A (j:Int)=[]:=λj hj=>by rw[<- hA];exact at_rep (by simpa using hj)
 refine wa3 (λ(r:List Int×List (List Int))=>r.1.length<=d.jy.length/\(∀x∈r.1,0<=x)/\(∀i:Nat,(i:Int)∈r.1↔i<d.jy.length/\0<=lblI d i)/\r.2.length=d.jy.length/\∀j:Nat,j<d.jy.length->(at' r.2 j).length<=d.jy.length*256/\(∀x∈at' r.2 j,0<=x)/\∀i:Nat,(i:Int)∈at' r.2 j↔dE d i j) ?_ ?_
 ·refine wbi (λs=>s.1) d.jy.length (λk(s:Int×List Int×List (List Int))=>s.1=(k:Int)/\s.2.1.length<=k/\(∀x∈s.2.1,0<=x)/\(∀i:Nat,(i:Int)∈s.2.1↔i<k/\0<=lblI d i)/\s.2.2.length=d.jy.length/\∀j:Nat,j<d.jy.length->(at' s.2.2 j).length<=k*256/\(∀x∈at' s.2.2 j,0<=x)/\∀i:Nat,(i:Int)∈at' s.2.2 j↔i<k/\dE d i j) (λk s h=>h.1) ?_ ?_ ⟨rfl,by simp,by simp,by simp,hA1,λj hj=>by rw[hA2 j hj];simp⟩
  ·rintro k ⟨_,lab,back⟩ hk ⟨rfl,h1,h2,h3,h4,h5⟩;simp only at h1 h2 h3 h4 h5;obtain⟨o1,o2,o3⟩:=z0y d hm k hk
   repeat (first|with_reducible (refine waw ?_)|with_reducible (refine was ?_)|(refine wau ?_ ?_;focus (first|with_reducible rfl|(simp (disch:=omega) only [yj,yi,bl_];done)))|(refine wav ?_ ?_;focus (first|with_reducible rfl|(simp (disch:=omega) only [yj,yi,bl_];done)))|with_reducible (refine war ?_)|((first|refine waj ?_ ?_|refine wal ?_ ?_|refine wak ?_ ?_);focus (first|omega|(simp;done)|(simp;omega))))
   refine wbj (jcy d hm k hk) ?_;generalize (at' d.jy k).filter (λx=>decide (0<=x))=on at o1 o2 o3⊢;refine was ?_;refine wa3 (λ(b:List (List Int))=>b.length=d.jy.length/\∀j:Nat,j<d.jy.length->(at' b j).length<=(k+1)*256/\(∀x∈at' b j,0<=x)/\∀i:Nat,(i:Int)∈at' b j↔i<k+1/\dE d i j) ?_ ?_
   ·refine wbi (λs=>s.1) on.length (λc(s:Int×List (List Int))=>s.1=(c:Int)/\s.2.length=d.jy.length/\∀j:Nat,j<d.jy.length->(at' s.2 j).length<=k*256+c/\(∀x∈at' s.2 j,0<=x)/\∀i:Nat,(i:Int)∈at' s.2 j↔(i<k/\dE d i j)\/(i=k/\(j:Int)∈on.take c)) (λk s h=>h.1) ?_ ?_ ⟨rfl,h4,λj hj=>by simpa using h5 j hj⟩
    ·rintro c ⟨_,b⟩ hc ⟨rfl,g1,g2⟩;simp only at g1 g2;have hmem:=zcc (l:=on) (z:=(c:Int)) (by omega) (by omega);have hy:=o2 _ hmem;obtain⟨q,hq⟩:=wfh hy.1;have g3:=g2 q (by omega)
     repeat (first|with_reducible (refine waw ?_)|with_reducible (refine was ?_)|(refine wau ?_ ?_;focus (first|with_reducible rfl|(simp (disch:=omega) only [yj,yi,bl_];done)))|(refine wav ?_ ?_;focus (first|with_reducible rfl|(simp (disch:=omega) only [yj,yi,bl_];done)))|with_reducible (refine war ?_)|((first|refine waj ?_ ?_|refine wal ?_ ?_|refine wak ?_ ?_);focus (first|omega|(simp;done)|(simp;omega))))
     rw[hq]at hy⊢
     repeat (first|with_reducible (refine waw ?_)|with_reducible (refine was ?_)|(refine wau ?_ ?_;focus (first|with_reducible rfl|(simp (disch:=omega) only [yj,yi,bl_];done)))|(refine wav ?_ ?_;focus (first|with_reducible rfl|(simp (disch:=omega) only [yj,yi,bl_];done)))|with_reducible (refine war ?_)|((first|refine waj ?_ ?_|refine wal ?_ ?_|refine wak ?_ ?_);focus (first|omega|(simp;done)|(simp;omega))))
     refine Tot.pure ⟨zeb (by omega),by simp[g1],λj hj=>?_⟩;simp only;rw[jga hy.1 (by omega)];by_cases hjq:(j:Int)=q
     ·rw[if_pos hjq];have hjq2:j=q:=by omega
      subst hjq2;refine⟨by simp;omega,λx hx=>?_,λi=>?_⟩
      ·rcases wd7.1 hx with h|h
       ·exact g3.2.1 x h
       ·simp at h;omega
      ·rw[wd7,g3.2.2 i,Yn hc,hq];simp only[wd5];constructor
       ·rintro((h|h)|h)
        ·exact .inl h
        ·exact .inr ⟨h.1,.inl h.2⟩
        ·exact .inr ⟨by omega,.inr trivial⟩
       ·rintro(h|⟨h,h2|h2⟩)
        ·exact .inl (.inl h)
        ·exact .inl (.inr ⟨h,h2⟩)
        ·exact .inr (by omega)
     ·rw[if_neg hjq];have g4:=g2 j hj;refine⟨by omega,g4.2.1,λi=>?_⟩;rw[g4.2.2 i,Yn hc,hq];constructor
      ·rintro(h|h)
       ·exact .inl h
       ·exact .inr ⟨h.1,.inl h.2⟩
      ·rintro(h|⟨h,h2|h2⟩)
       ·exact .inl h
       ·exact .inr ⟨h,h2⟩
       ·omega
    ·rintro⟨_,b⟩ ⟨rfl,g1,g2⟩;simp only at g1 g2
     repeat (first|with_reducible (refine waw ?_)|with_reducible (refine was ?_)|(refine wau ?_ ?_;focus (first|with_reducible rfl|(simp (disch:=omega) only [yj,yi,bl_];done)))|(refine wav ?_ ?_;focus (first|with_reducible rfl|(simp (disch:=omega) only [yj,yi,bl_];done)))|with_reducible (refine war ?_)|((first|refine waj ?_ ?_|refine wal ?_ ?_|refine wak ?_ ?_);focus (first|omega|(simp;done)|(simp;omega))))
     refine Tot.pure ⟨g1,λj hj=>?_⟩;have g3:=g2 j hj;refine⟨by omega,g3.2.1,λi=>?_⟩;rw[g3.2.2 i,wen,o3 j];constructor
     ·rintro(h|h)
      ·exact⟨by omega,h.2⟩
      ·exact⟨by omega,h.1▸h.2⟩
     ·rintro⟨h,h2⟩;by_cases hik:i=k
      ·subst hik;exact .inr ⟨rfl,h2⟩
      ·exact .inl ⟨by omega,h2⟩
   ·rintro b ⟨g1,g2⟩;refine war ?_;refine Tot.cond (λhb=>?_) λhb=>?_
    ·simp only[wej]at hb
     repeat (first|with_reducible (refine waw ?_)|with_reducible (refine was ?_)|(refine wau ?_ ?_;focus (first|with_reducible rfl|(simp (disch:=omega) only [yj,yi,bl_];done)))|(refine wav ?_ ?_;focus (first|with_reducible rfl|(simp (disch:=omega) only [yj,yi,bl_];done)))|with_reducible (refine war ?_)|((first|refine waj ?_ ?_|refine wal ?_ ?_|refine wak ?_ ?_);focus (first|omega|(simp;done)|(simp;omega))))
     refine Tot.pure ⟨zeb (by omega),by simp;omega,?_,?_,g1,g2⟩
     ·intro x hx;rcases wd7.1 hx with h|h
      ·exact h2 x h
      ·simp at h;omega
     ·intro i;simp only;rw[wd7,h3 i,wd5];constructor
      ·rintro(h|h)
       ·exact⟨by omega,h.2⟩
       ·have:i=k:=by omega
        subst this;exact⟨by omega,hb⟩
      ·rintro⟨h,h2⟩;by_cases hik:i=k
       ·right;omega
       ·exact .inl ⟨by omega,h2⟩
    ·simp only[decide_eq_false_iff_not]at hb;refine Tot.pure ⟨zeb (by omega),by simp only;omega,h2,?_,g1,g2⟩;intro i;simp only;rw[h3 i];constructor
     ·rintro⟨h,h2⟩;exact⟨by omega,h2⟩
     ·rintro⟨h,h2⟩;by_cases hik:i=k
      ·subst hik;exact absurd h2 hb
      ·exact⟨by omega,h2⟩
  ·rintro⟨_,lab,back⟩ ⟨rfl,h1,h2,h3,h4,h5⟩;simp only at h1 h2 h3 h4 h5
   repeat (first|with_reducible (refine waw ?_)|with_reducible (refine was ?_)|(refine wau ?_ ?_;focus (first|with_reducible rfl|(simp (disch:=omega) only [yj,yi,bl_];done)))|(refine wav ?_ ?_;focus (first|with_reducible rfl|(simp (disch:=omega) only [yj,yi,bl_];done)))|with_reducible (refine war ?_)|((first|refine waj ?_ ?_|refine wal ?_ ?_|refine wak ?_ ?_);focus (first|omega|(simp;done)|(simp;omega))))
   refine Tot.pure ⟨h1,h2,h3,h4,λj hj=>?_⟩;have:=h5 j hj;refine⟨this.1,this.2.1,λi=>?_⟩;simp only;rw[this.2.2 i];exact⟨λh=>h.2,λh=>⟨h.1,h⟩⟩
 ·rintro⟨lab,back⟩ ⟨h1,h2,h3,h4,h5⟩;simp only at h1 h2 h3 h4 h5;refine wa3 (· = zh4 d.jy.length (λi j=>dE d j i) (λi=>i<d.jy.length/\0<=lblI d i)) ?_ (λa ha=>Tot.pure (.inr ⟨rfl,by rw[ha,zhz]⟩));have h:=zrx d.jy.length lab (λy=>Vg y back) (λi j=>dE d j i) (by omega) (by omega) (λx hx=>by
   have:=h2 x hx;obtain⟨q,rfl⟩:=wfh this;exact⟨this,by have:=((h3 q).1 hx).1;omega⟩) (λi hi=>by
   unfold Vg
   repeat (first|with_reducible (refine waw ?_)|with_reducible (refine was ?_)|(refine wau ?_ ?_;focus (first|with_reducible rfl|(simp (disch:=omega) only [yj,yi,bl_];done)))|(refine wav ?_ ?_;focus (first|with_reducible rfl|(simp (disch:=omega) only [yj,yi,bl_];done)))|with_reducible (refine war ?_)|((first|refine waj ?_ ?_|refine wal ?_ ?_|refine wak ?_ ?_);focus (first|omega|(simp;done)|(simp;omega))))
   obtain⟨k1,k2,k3⟩:=h5 i hi;refine Tot.pure ⟨by omega,λx hx=>⟨k2 x hx,?_⟩,λj=>k3 j⟩;obtain⟨q,rfl⟩:=wfh (k2 x hx);have:=((k3 q).1 hx).1;omega)
  refine h.mono λa ha=>?_;rw[ha];congr 1;funext i;rw[h3 i]
end Go.Proofs.YtdllbdlnmjngcaaGreat
namespace Go.Proofs.YtdllbdlnmjngcaaGreat.T
set_option maxRecDepth 100000
set_option maxHeartbeats 8000000
set_option linter.unusedVariables false
set_option linter.unusedSimpArgs false
open Go Go.RowKit L
set_option maxRecDepth 100000
theorem jha(nn:Nat):Jz (nn+300)=some true:=by kernel_rfl
theorem zop(d:D_api_Dfa)(hd:DSz d){b:Bool}(hb:Tn (λnn=>p_dfa_Right nn d) (· = b)):Tn (λnn=>Vu nn d) (λr=>b=false/\r=[]\/b=true/\MOk (qz d)/\r=zh4 d.2.2.1.length (dE (qz d)) (λi=>i=0)):=by
 obtain⟨r,⟨N,h1⟩,h2⟩:=hb;obtain⟨r,N,h1,h2⟩:=zqb (qz d) hd b ⟨r,N,h1,h2⟩;exact⟨r,⟨N,h1⟩,h2⟩
theorem zx5(d:D_api_Dfa)(hd:DSz d){b:Bool}(hb:Tn (λnn=>p_dfa_Right nn d) (· = b)):Tn (λnn=>Vu nn d) (λr=>b=false/\r=[]\/b=true/\r.length=d.2.2.1.length):=
 Tt.mono (zop d hd hb) λr h=>h.imp id λh=>⟨h.1,by rw[h.2.2,zhz]⟩
theorem z44(d:D_api_Dfa)(hd:DSz d){b:Bool}(hb:Tn (λnn=>p_dfa_Right nn d) (· = b)):Tn (λnn=>zfj nn d) (λr=>b=false/\r=[]\/b=true/\r.length=d.2.2.1.length):=by
 obtain⟨r,⟨N,h1⟩,h2⟩:=hb;obtain⟨r,N,h1,h2⟩:=zvq (qz d) hd b ⟨r,N,h1,h2⟩;exact⟨r,⟨N,h1⟩,h2⟩
theorem jeq(d:D_api_Dfa)(hd:DSz d):Tn (λnn=>zec nn d) (λ_=>True):=by
 have s1:=hd.n;have s2:=hd.w;obtain⟨b,hb,hq⟩:=(dRight_tot d hd).val;unfold zec;refine Tt.bind (Tt.call hb waa) λb' hb'=>?_;subst hb';refine wab (λ_=>Tt.pure trivial) λc=>?_;have hbt:b'=true:=by simpa using c
 subst hbt;have hR:=hq rfl;refine Tt.bind (Tt.call (zx5 d hd hb) waa) λre hre=>?_;refine Tt.bind (Tt.call (z44 d hd hb) waa) λal hal=>?_;have hre:re.length=d.2.2.1.length:=by rcases hre with⟨h,_⟩|⟨_,h⟩;cases h;exact h
 have hal:al.length=d.2.2.1.length:=by rcases hal with⟨h,_⟩|⟨_,h⟩;cases h;exact h
 refine wad (wac _ (mkN (by omega) (by omega)) ?_);simp only[wd2];generalize (⟨List.replicate 256 0,wd2⟩:Arr 256 Int)=Z;refine Tt.loop (λm s=>∃(k:Nat)(nu ke:List Int),k<=d.2.2.1.length/\m=d.2.2.1.length-k/\s=(re,al,(d.2.2.1.length:Int),(k:Int),d,Z,0,nu,ke,[],[])/\nu.length=d.2.2.1.length/\ke.length<=k/\∀x∈ke,∃j:Nat,j<d.2.2.1.length/\x=(j:Int)) d.2.2.1.length waa ⟨0,_,_,by omega,by omega,rfl,by simp,by simp,by simp⟩ λm s⟨k,nu,ke,hk,hm,hs,h1,h2,h3⟩ nx hnx=>?_;subst hs;dsimp only;refine wab (λc=>?_) (λc=>?_)
 ·have c:=wdz c;have hlt:k<d.2.2.1.length:=by omega
  refine Tt.J (λs=>∃(nu ke:List Int),s=(re,al,(d.2.2.1.length:Int),(k:Int),d,Z,0,nu,ke,[],[])/\nu.length=d.2.2.1.length/\ke.length<=k+1/\∀x∈ke,∃j:Nat,j<d.2.2.1.length/\x=(j:Int)) (λny hny=>?_) λs⟨nu,ke,hs,h1,h2,h3⟩=>?_
  ·refine wac _ (zh (by omega)) (wac _ (zit _ (by omega)) ?_);have hnl:(nu.set k (-1)).length=d.2.2.1.length:=by simp[h1]
   generalize nu.set k (-1)=nu at hnl⊢;refine Tt.J (λs=>∃b,s=(re,al,(k:Int),(d.2.2.1.length:Int),(k:Int),b,d,Z,0,nu,ke,[],[])) (λnz hnz=>?_) λs⟨b,hs⟩=>?_
   ·refine wad (wab (λ_=>hnz _ ⟨_,rfl⟩) λ_=>wac _ (atN (by omega)) (wab (λ_=>wac _ (atN (by omega)) (hnz _ ⟨_,rfl⟩)) λ_=>hnz _ ⟨_,rfl⟩))
   ·subst hs;dsimp only;refine wab (λ_=>?_) λ_=>hny _ ⟨_,_,rfl,hnl,by omega,h3⟩;refine wac _ (zh (by omega)) (wac _ (zit _ (by omega)) (wac _ (Js (by simp;omega) (by omega)) (hny _ ⟨_,_,rfl,by simp[hnl],by simp;omega,λx hx=>?_⟩)));rcases wd7.1 hx with h|h
    ·exact h3 x h
    ·exact⟨k,hlt,wd5.1 h⟩
  ·subst hs;refine wad ?_;dsimp only;rw[wI (by omega) (by omega)];exact hnx (d.2.2.1.length-(k+1)) _ (by omega) ⟨k+1,_,_,by omega,rfl,rfl,h1,h2,h3⟩
 obtain⟨W,hW⟩:∃W:Nat,d.2.1=(W:Int):=⟨d.2.1.toNat,by omega⟩
 refine Tt.loop (λm s=>∃(i:Nat)(on:List (List Int))(ol:List Int),i<=ke.length/\m=ke.length-i/\s=((ke.length:Int),(i:Int),d,Z,0,nu,d.1,d.2.1,ke,[],[],on,ol)/\on.length<=i/\ol.length<=i) ke.length waa.fst ⟨0,_,_,by omega,by omega,rfl,by simp,by simp⟩ λm s⟨i,on,ol,hi,hm,hs,h4,h5⟩ ny hny=>?_;subst hs;dsimp only;refine wab (λc=>?_) (λc=>Tt.pure trivial);have c:=wdz c;have hlt:i<ke.length:=by omega
 obtain⟨j,hj,ej⟩:=h3 _ (wec hlt);have hrow:=hR.row _ (wec hj);have hrnx:=hR.nx _ (wec hj);have hlab:=hR.lab;refine wac _ (zh hlt) (wac _ (atN hlt) ?_);rw[ej,hW];refine wac _ (mkN (n:=W) (by omega) (by omega)) (wac _ (atN hj) ?_);generalize hro:d.2.2.1[j]=row at hrow hrnx;have hcp:jbo (List.replicate W (0:Int)) row=some (((min (List.replicate W (0:Int)).length row.length:Nat):Int),row):=by
  unfold jbo;congr 2;rw[wd2,wfv (by omega),wgr (by simp;omega),weo]
 refine wac _ hcp ?_;refine Tt.loop (λm s=>∃(q:Nat)(row':List Int),q<=row.length/\m=row.length-q/\s=((j:Int),(ke.length:Int),(i:Int),(row.length:Int),(q:Int),d,Z,0,nu,d.1,(W:Int),row',ke,[],[],on,ol)/\row'.length=row.length/\∀q',q<=q'->row'[q']?=row[q']?) row.length waa.fst.fst ⟨0,_,by omega,by omega,rfl,rfl,λ_ _=>rfl⟩ λm s⟨q,row',hq',hm,hs,h6,h7⟩ nz hnz=>?_;subst hs;dsimp only;refine wab (λc=>?_) (λc=>?_)
 ·have c:=wdz c;have hql:q<row'.length:=by omega
  have hqr:q<row.length:=by omega
  have hge:row'[q]=row[q]:=by
   have:=h7 q (wed _);rw[wdy hql,wdy hqr]at this;exact wfj this
  have hrg:=hrnx _ (wec hqr);refine Tt.J (λs=>∃row',s=((j:Int),(ke.length:Int),(i:Int),(row.length:Int),(q:Int),d,Z,0,nu,d.1,(W:Int),row',ke,[],[],on,ol)/\row'.length=row.length/\∀q',q+1<=q'->row'[q']?=row[q']?) (λnu' hnu'=>?_) λs⟨row',hs,h6,h7⟩=>?_
  ·refine wac _ (zh hql) (wac _ (atN hql) ?_);rw[hge];refine wab (λc2=>?_) λc2=>hnu' _ ⟨_,rfl,h6,λq' h=>h7 q' (by omega)⟩;have c2:=wdz c2;obtain⟨t,et⟩:∃t:Nat,row[q]=(t:Int):=⟨(row[q]).toNat,by omega⟩
   rw[et]at hrg⊢;refine wac _ (zh (by omega)) (wac _ (atN (by omega)) (wac _ (zh hql) (wac _ (zit _ hql) (hnu' _ ⟨_,rfl,by simp[h6],λq' h=>?_⟩))));rw[wgy (by omega)];exact h7 q' (by omega)
  ·subst hs;refine wad ?_;dsimp only;rw[wI (by omega) (by omega)];exact hnz (row.length-(q+1)) _ (by omega) ⟨q+1,_,by omega,rfl,rfl,h6,h7⟩
 ·refine wac _ (Js (by simp;omega) (by omega)) (wac _ (atN (by omega)) (wac _ (Js (by simp;omega) (by omega)) (wad ?_)));rw[wI (by omega) (by omega)];rw[hW]at hny;exact(hny (ke.length-(i+1)) _ (by omega) ⟨i+1,_,_,by omega,rfl,rfl,by simp;omega,by simp;omega⟩).fst
theorem zhn:Tn (λnn=>Jz nn) (λb=>b=true):=⟨true,⟨300,λn hn=>by
 obtain⟨k,rfl⟩:∃k,n=k+300:=⟨n-300,by omega⟩
 exact jha k⟩,rfl⟩
theorem zw3(g:jb)(hg:Vf g)(y:D_api_Dfa×List (List Int)×Unit):Tn (λnn=>Vx nn (some (g,y))) (λd=>d=gFd g):=by
 unfold Vx;refine wad ?_;refine Tt.bind (Tt.call (z65 g hg) waa) λr hr=>Tt.pure hr
open Classical in
noncomputable def zey(l:List jc):Bool:=if h:∃r,Tn (λnn=>y5 nn l) (λx=>x=r)then h.choose else false
theorem jc7(l:List jc)(hl:l.length<=1000000):Tn (λnn=>y5 nn l) (λx=>x=zey l):=by
 obtain⟨r,h,_⟩:=(zx4 l hl).val;have h1:∃r,Tn (λnn=>y5 nn l) (λx=>x=r):=⟨r,h⟩
 unfold zey;rw[dif_pos h1];exact h1.choose_spec
def fs2(kd mo:Int):List Bool->Nat->jd
 |[],_=>(0,0,0,())
 |b::l,i=>match b with
  |true=>fs2 kd mo l (i+1)
  |false=>(kd,i,mo,())
theorem zxy{g:jb}(hg:Vf g)(hok:GOk g)(y:D_api_Dfa×List (List Int)×Unit):Tn (λnn=>Qd nn (some (g,y))) (λd=>d=fs2 10 0 (g.1.map λx=>!zey x.2.1) 0):=by
 have ht:=hok.t;unfold Qd;refine Tt.J (λd=>d=fs2 10 0 (g.1.map λx=>!zey x.2.1) 0) (λnx hnx=>?_) (λs hs=>Tt.pure hs);refine wad ?_;refine Tt.loop (λm s=>∃k:Nat,k<=g.1.length/\m=g.1.length-k/\s=(10,0,(g.1.length:Int),(k:Int),some (g,y),(0,0,0,()))/\fs2 10 0 (g.1.map λx=>!zey x.2.1) 0=fs2 10 0 ((g.1.drop k).map λx=>!zey x.2.1) k) g.1.length waa ⟨0,by omega,by omega,rfl,rfl⟩ λm s⟨k,hk,hm,hs,he⟩ ny hny=>?_;subst hs;dsimp only;refine wab (λc=>?_) (λc=>hnx.fst _ ?_)
 ·have c:=wdz c;have hlt:k<g.1.length:=by omega
  rw[wet hlt,wel]at he;refine wad (wac _ (atN hlt) ?_);refine Tt.bind (Tt.call (jc7 _ (hg.tn _ (wec hlt))) waa.fst) λr hr=>?_;subst hr;refine wab (λcb=>hnx.fst _ ?_) λcb=>wad ?_
  ·have cb:zey g.1[k].2.1=true:=by simpa using cb
   rw[he,cb];rfl
  ·have cb:zey g.1[k].2.1=false:=by simpa using cb
   rw[wI (by omega) (by omega)];exact hny (g.1.length-(k+1)) _ (by omega) ⟨k+1,by omega,rfl,by simp,by rw[he,cb];rfl⟩
 ·have c:=wd0 c;have:k=g.1.length:=by omega
  subst this;rw[he,wfg];rfl
theorem z97(l:List Int)(x:Int)(hl:l.length<=1000000):Tn (λnn=>zg nn l x) (λr=>0<=r↔x∈l):=by
 unfold zg;refine Tt.loop (λm s=>∃(k:Nat),k<=l.length/\m=l.length-k/\s=(l,x,(l.length:Int),(k:Int))/\(x∈l↔x∈l.drop k)) l.length waa ⟨0,by omega,by omega,rfl,Iff.rfl⟩ λm s⟨k,hk,hm,hs,he⟩ nx hnx=>?_;subst hs;dsimp only;refine wab (λc=>?_) (λc=>Tt.pure ?_)
 ·have c:=wdz c;have hlt:k<l.length:=by omega
  rw[wet hlt,wek]at he;refine wac _ (atN hlt) (wab (λcb=>Tt.pure ?_) λcb=>wad ?_)
  ·have cb:=wdz cb;exact⟨λ_=>he.2 (.inl cb),λ_=>by omega⟩
  ·have cb:=wd0 cb;rw[wI (by omega) (by omega)];exact hnx (l.length-(k+1)) _ (by omega) ⟨k+1,by omega,rfl,rfl,he.trans (or_iff_right cb)⟩
 ·have c:=wd0 c;have:k=l.length:=by omega
  subst this;rw[he,wfg];simp
theorem z0i(l:List Int)(x:Int)(hl:l.length<=1000000):Tn (λnn=>yq nn l x) (λr=>r=decide (x∈l)):=by
 unfold yq;refine Tt.bind (Tt.call (z97 l x hl) waa) λr hr=>Tt.pure ?_;by_cases h:x∈l
 ·simp[h,hr.2 h]
 ·have:¬0<=r:=λh2=>h (hr.1 h2);simp[h];omega
theorem jaa{g:jb}(hg:g.1.length<=1000000)(d:D_api_Dfa)(t:List (List Int)){lt:List Int}(hl:lt.length<=1000000)(hT:Tn (λnn=>zj nn d) (λr=>r=lt)):Tn (λnn=>Ja nn (some (g,d,t,()))) (λd=>d=fs2 13 1 ((List.range g.1.length).map λ(i:Nat)=>decide ((i:Int)∈lt)) 0):=by
 unfold Ja;refine wad (Tt.bind (Tt.call hT waa) λr hr=>?_);subst hr;obtain⟨L,hL⟩:∃L,((List.range g.1.length).map λ(i:Nat)=>decide ((i:Int)∈r))=L:=⟨_,rfl⟩
 have hLl:L.length=g.1.length:=by rw[<- hL];simp
 rw[hL];refine Tt.J (λd=>d=fs2 13 1 L 0) (λnx hnx=>wad ?_) λs hs=>Tt.pure hs;refine Tt.loop (λm s=>∃k:Nat,k<=g.1.length/\m=g.1.length-k/\s=(13,1,(g.1.length:Int),(k:Int),r,(0,0,0,()))/\fs2 13 1 L 0=fs2 13 1 (L.drop k) k) g.1.length waa ⟨0,by omega,by omega,rfl,rfl⟩ λm s⟨k,hk,hm,hs,he⟩ ny hny=>?_;subst hs;dsimp only;refine wab (λc=>?_) (λc=>hnx.fst _ ?_)
 ·have c:=wdz c;have hlt:k<L.length:=by omega
  have hLk:L[k]=decide ((k:Int)∈r):=by subst hL;simp
  rw[wet hlt,hLk]at he;refine Tt.bind (Tt.call (z0i r _ hl) waa.fst) λb hb=>?_;subst hb;refine wab (λcb=>hnx.fst _ ?_) λcb=>wad ?_
  ·have cb:decide ((k:Int)∈r)=false:=by simpa using cb
   rw[he,cb];rfl
  ·have cb:decide ((k:Int)∈r)=true:=by simpa using cb
   rw[wI (by omega) (by omega)];exact hny (g.1.length-(k+1)) _ (by omega) ⟨k+1,by omega,rfl,by simp,by rw[he,cb];rfl⟩
 ·have c:=wd0 c;have:k=L.length:=by omega
  subst this;rw[he,wfg];rfl
theorem zww:∀{L:List jd},(jr L).1=0->jr L=zd
 |[],_=>rfl
 |d::l,h=>by
  unfold jr at h⊢;by_cases c:d.1=0
  ·rw[if_pos c]at h⊢;exact zww h
  ·rw[if_neg c]at h;exact absurd h c
def zhb(nt:Nat)(e:Int)(lt:List Int):jd:=if e=0 then fs2 13 1 ((List.range nt).map λ(i:Nat)=>decide ((i:Int)∈lt)) 0 else(16,0,0,())
theorem zj6(l:List Int)(x:Int)(hl:l.length<=1000000):Tn (λnn=>Vi nn l x) (λr=>r=decide (x∈l)):=by
 unfold Vi;refine Tt.loop (λm s=>∃(k:Nat),k<=l.length/\m=l.length-k/\s=(l,x,(k:Int))/\(x∈l↔x∈l.drop k)) l.length waa ⟨0,by omega,by omega,rfl,Iff.rfl⟩ λm s⟨k,hk,hm,hs,he⟩ nx hnx=>?_;subst hs;dsimp only;refine wab (λc=>?_) (λc=>Tt.pure ?_)
 ·have c:=wdz c;have hlt:k<l.length:=by omega
  rw[wet hlt,wek]at he;refine wac _ (atN hlt) (wab (λcb=>Tt.pure ?_) λcb=>wad ?_)
  ·have cb:=wdz cb;exact(wes (he.2 (.inl cb.symm))).symm
  ·have cb:=wd0 cb;rw[wI (by omega) (by omega)];exact hnx (l.length-(k+1)) _ (by omega) ⟨k+1,by omega,rfl,rfl,he.trans (or_iff_right λh=>cb h.symm)⟩
 ·have c:=wd0 c;have:k=l.length:=by omega
  subst this;rw[wfg]at he;exact(wem λh=>by cases he.1 h).symm
theorem z05(a b:List Int)(ha:a.length<=1000000)(hb:b.length<=1000000):Tn (λnn=>zci nn a b) (λr=>r=decide (a=b)):=by
 unfold zci;refine wab (λc=>Tt.pure ?_) λc=>?_
 ·have c:=wdz c;exact(wem λh=>c (by rw[h])).symm
 have hl:a.length=b.length:=by have:=wd0 c;omega
 refine Tt.loop (λm s=>∃(k:Nat),k<=a.length/\m=a.length-k/\s=(a,b,(k:Int))/\(a=b↔a.drop k=b.drop k)) a.length waa ⟨0,by omega,by omega,rfl,Iff.rfl⟩ λm s⟨k,hk,hm,hs,he⟩ nx hnx=>?_;subst hs;dsimp only;refine wab (λc=>?_) (λc=>Tt.pure ?_)
 ·have c:=wdz c;have hlt:k<a.length:=by omega
  have hlt2:k<b.length:=by omega
  rw[wet hlt,wet hlt2,whc]at he;refine wac _ (atN hlt) (wac _ (atN hlt2) (wab (λcb=>Tt.pure ?_) λcb=>wad ?_))
  ·have cb:=wdz cb;exact(wem λh=>cb (he.1 h).1).symm
  ·have cb:=wd0 cb;have cb:a[k]=b[k]:=by omega
   rw[wI (by omega) (by omega)];exact hnx (a.length-(k+1)) _ (by omega) ⟨k+1,by omega,rfl,rfl,he.trans (and_iff_right cb)⟩
 ·have c:=wd0 c;have h1:k=a.length:=by omega
  have h2:a.drop k=[]:=by rw[h1];exact wfg
  have h3:b.drop k=[]:=wgr (by omega);rw[h2,h3]at he;exact(wes (he.2 rfl)).symm
def zag:List (List Int)->List Int->Nat->Int
 |[],_,_ => -1
 |y::l,x,i=>if y=x then(i:Int)else zag l x (i+1)
theorem z09(l:List (List Int))(x:List Int)(hl:l.length<=1000000)(hx:x.length<=1000000)(hy:∀y∈l,y.length<=1000000):Tn (λnn=>zch nn l x) (λr=>r=zag l x 0):=by
 unfold zch;refine Tt.loop (λm s=>∃(k:Nat),k<=l.length/\m=l.length-k/\s=(l,x,(k:Int))/\zag l x 0=zag (l.drop k) x k) l.length waa ⟨0,by omega,by omega,rfl,rfl⟩ λm s⟨k,hk,hm,hs,he⟩ nx hnx=>?_;subst hs;dsimp only;refine wab (λc=>?_) (λc=>Tt.pure ?_)
 ·have c:=wdz c;have hlt:k<l.length:=by omega
  rw[wet hlt]at he;have e2:zag (l[k]::l.drop (k+1)) x k=if l[k]=x then(k:Int)else zag (l.drop (k+1)) x (k+1):=rfl
  rw[e2]at he;refine wac _ (atN hlt) (Tt.bind (Tt.call (z05 _ x (hy _ (wec hlt)) hx) waa.fst) λb hb=>?_);subst hb;refine wab (λcb=>Tt.pure ?_) λcb=>wad ?_
  ·have cb:=wdz cb;rw[if_pos cb]at he;exact he.symm
  ·have cb:=wd0 cb;rw[if_neg cb]at he;rw[wI (by omega) (by omega)];exact hnx (l.length-(k+1)) _ (by omega) ⟨k+1,by omega,rfl,rfl,he⟩
 ·have c:=wd0 c;have:k=l.length:=by omega
  subst this;rw[he,wfg];rfl
theorem zuj{l:List Int}:jx l↔∀(i:Nat)(a b:Int),l[i]?=some a->l[i+1]?=some b->a<b:=by
 unfold jx;induction l with
 |nil=>simp
 |cons x l ih=>
  rw[wfu,ih];constructor
  ·rintro⟨h1,h2⟩ i a b ha hb;cases i with
   |zero=>simp at ha;subst ha;exact h1 b (wd3 (by simpa using hb))
   |succ i=>exact h2 i a b (by simpa using ha) (by simpa using hb)
  ·intro h;have h2:∀(i:Nat)(a b:Int),l[i]?=some a->l[i+1]?=some b->a<b:=λi a b ha hb=>h (i+1) a b (by simpa using ha) (by simpa using hb);refine⟨λy hy=>?_,h2⟩;have h3:=ih.2 h2;cases l with
   |nil=>cases hy
   |cons z l=>
    have h4:=h 0 x z rfl rfl;rcases wek.1 hy with rfl|hy
    ·exact h4
    ·have:=(wfu.1 h3).1 y hy;omega
theorem zz5(l:List Int)(hl:l.length<=1000000):Tn (λnn=>zbh nn l) (λr=>r=true↔jx l):=by
 unfold zbh;refine Tt.loop (λm s=>∃(k:Nat),m=l.length-k/\s=(l,((k+1:Nat):Int))/\∀(i:Nat)(a b:Int),i<k->l[i]?=some a->l[i+1]?=some b->a<b) l.length waa ⟨0,by omega,rfl,λi a b h=>by omega⟩ λm s⟨k,hm,hs,he⟩ nx hnx=>?_;subst hs;dsimp only;refine wab (λc=>?_) (λc=>Tt.pure ?_)
 ·have c:=wdz c;have hlt:k+1<l.length:=by omega
  have hlt0:k<l.length:=by omega
  have e:T.w64 (((k+1:Nat):Int)-1)=(k:Int):=by rw[wI (by omega) (by omega)];omega
  rw[e];refine wac _ (atN hlt0) (wac _ (atN hlt) (wab (λcb=>Tt.pure ?_) λcb=>wad ?_))
  ·have cb:=wdz cb;refine⟨λh=>(by cases h),λh=>?_⟩;have:=zuj.1 h k _ _ (wdy hlt0) (wdy hlt);omega
  ·have cb:=wd0 cb;rw[wI (by omega) (by omega)];refine hnx (l.length-(k+1)) _ (by omega) ⟨k+1,rfl,by simp,λi a b hi ha hb=>?_⟩;by_cases hik:i<k
   ·exact he i a b hik ha hb
   ·have:i=k:=by omega
    subst this;rw[wdy hlt0]at ha;rw[wdy hlt]at hb;cases ha;cases hb;omega
 ·have c:=wd0 c;refine⟨λ_=>zuj.2 λi a b ha hb=>?_,λ_=>rfl⟩;have:=(wd1.1 hb).1;exact he i a b (by omega) ha hb
def zxw(s:Arr 4 Int)(b:Nat):Int:=(s.l.getD (b / 64) 0).fdiv (2 ^ (min ((b % 64:Nat):Int).toNat 64))
def zev(s:Arr 4 Int)(b:Nat):Bool:=decide (¬(zvi .u64 (zxw s b) 1=0))
def hsB(n:je)(b:Nat)(i:Int):Bool:=match n.1[i.toNat]? with
 |some s=>zev s b
 |none=>false
theorem at4E(s:Arr 4 Int){k:Nat}(hk:k<4):atL s.l (k:Int)=some (s.l.getD k 0):=by
 have:k<s.l.length:=by rw[s.2];exact hk
 rw[atN this];simp[List.getD,this]
theorem shrE(s:Arr 4 Int)(b:Nat):zm2 .u64 (s.l.getD (b / 64) 0) ((b % 64:Nat):Int)=some (zxw s b):=by
 unfold zm2 zxw;rw[if_neg (by omega)];rfl
theorem zxg(n:je)(hN:n.1.length<=1000)(l:List Int)(hl:RN n.1.length l)(b:Nat)(hb:b<256):Tn (λnn=>zbi nn n l (b:Int)) (λr=>r=l.filter (hsB n b)):=by
 have hll:=hl.len;unfold zbi zei;refine Tt.loop (λm s=>∃(k:Nat)(out:List Int),k<=l.length/\m=l.length-k/\s=((b:Int),l,(l.length:Int),(k:Int),n,out)/\out=(l.take k).filter (hsB n b)) l.length waa ⟨0,_,by omega,by omega,rfl,by simp⟩ λm s⟨k,out,hk,hm,hs,ho⟩ nx hnx=>?_;subst hs;dsimp only;refine wab (λc=>?_) (λc=>?_)
 ·have c:=wdz c;have hlt:k<l.length:=by omega
  have hol:out.length<=k:=by
   rw[ho];refine wfc (wf0 _ _) ?_;rw[wff];omega
  have ht:=web hlt;refine Tt.J (λs=>∃out',s=((b:Int),l,(l.length:Int),(k:Int),n,out')/\out'=(l.take (k+1)).filter (hsB n b)) (λny hny=>?_) λs⟨out',hs,ho'⟩=>?_
  ·have hr:=hl.b _ (wec hlt);refine wac _ (atN hlt) (wac _ (je3 hb) ?_);obtain⟨z,hz⟩:∃z:Nat,l[k]=(z:Int):=⟨(l[k]).toNat,by omega⟩
   rw[hz]at hr ht⊢;have hz':z<n.1.length:=by omega
   refine wac _ (atN hz') ?_;have hm:hsB n b (z:Int)=zev n.1[z] b:=by unfold hsB;rw[wew,wdy hz']
   refine wac _ (at4E n.1[z] (k:=b / 64) (by omega)) (wac _ (z6l b) (wac _ (shrE _ _) ?_));refine wab (λc=>?_) λc=>hny _ ⟨_,rfl,?_⟩
   ·refine wac _ (Js (by simp;omega) (by omega)) (hny _ ⟨_,rfl,?_⟩);have hm2:hsB n b (z:Int)=true:=hm.trans c;rw[ht,wgt,<- ho];simp[hm2]
   ·have hm2:hsB n b (z:Int)=false:=hm.trans c;rw[ht,wgt,<- ho];simp[hm2]
  ·subst hs;refine wad ?_;dsimp only;rw[wI (by omega) (by omega)];exact hnx (l.length-(k+1)) _ (by omega) ⟨k+1,_,by omega,rfl,rfl,ho'⟩
 ·have c:=wd0 c;have:k=l.length:=by omega
  subst this;rw[wen]at ho;exact Tt.pure ho
def zbm(s:Arr 4 Int):Prop:=∀k:Nat,0<=s.l.getD k 0/\s.l.getD k 0<18446744073709551616
theorem and1(m:Nat):zvi .u64 (m:Int) 1=((m % 2:Nat):Int):=by
 unfold zvi;have h1:(BitVec.ofInt IntKind.u64.bits (m:Int) &&& BitVec.ofInt IntKind.u64.bits 1).toNat=m % 2:=by
  show(BitVec.ofInt 64 (m:Int) &&& BitVec.ofInt 64 1).toNat=m % 2;have e:BitVec.ofInt 64 (1:Int)=1#64:=by decide
  rw[e,BitVec.ofInt_natCast,BitVec.toNat_and,BitVec.toNat_ofNat];show(m % 2 ^ 64) &&& 1=m % 2;rw[Nat.and_one_is_mod];omega
 rw[h1,zb1 (by omega) (by omega)]
theorem z7x{s:Arr 4 Int}(hs:zbm s)(b:Nat):∃m:Nat,zxw s b=(m:Int):=by
 unfold zxw;have h:=(hs (b / 64)).1;obtain⟨w,hw⟩:∃w:Nat,s.l.getD (b / 64) 0=(w:Int):=⟨(s.l.getD (b / 64) 0).toNat,by omega⟩
 rw[hw];refine⟨w / 2 ^ (min ((b % 64:Nat):Int).toNat 64),?_⟩;rw[Int.fdiv_eq_ediv_of_nonneg _ (by exact_mod_cast wf1 _)];simp
theorem zjm(s:Arr 4 Int)(hs:zbm s)(b:Nat)(hb:b<256):Tn (λnn=>Zh nn s (b:Int)) (λr=>r=zev s b):=by
 obtain⟨m,hm⟩:=z7x hs b;have q:zj8 .i64 (b:Int) 64=some ((b / 64:Nat):Int):=by
  unfold zj8;rw[if_neg (by decide),show((b:Int)).tdiv 64=((b / 64:Nat):Int)from(Int.ofNat_tdiv b 64).symm,Zf (by omega) (by omega)]
 have r:zmn .u64 (b:Int) 64=some ((b % 64:Nat):Int):=z6l b;have r2:zmn .u64 (m:Int) 2=some ((m % 2:Nat):Int):=by
  unfold zmn;rw[if_neg (by decide),show((m:Int)).tmod 2=((m % 2:Nat):Int)from(Int.ofNat_tmod m 2).symm]
 have ix:vk 4 ((b / 64:Nat):Int)=some ((b / 64:Nat):Int):=by
  unfold vk;rw[wes (by omega:(0:Int)<=((b / 64:Nat):Int))];dsimp only;rw[wew,wes (by omega)]
 unfold Zh;rw[show wr .i64 (b:Int)=(b:Int)from Zf (by omega) (by omega),show wr .u64 (b:Int)=(b:Int)from zb1 (by omega) (by omega)];refine wac _ q (wac _ ix (wac _ (at4E s (k:=b / 64) (by omega)) (wac _ r (wac _ (shrE s b) ?_))));rw[hm];refine wac _ r2 (Tt.pure ?_);unfold zev;rw[hm,and1];exact decide_eq_decide.2 (by omega)
theorem zsn(n:je)(hN:n.1.length<=1000)(hs:∀s∈n.1,zbm s)(l l':List Int)(hl':l'.length<=1000000)(hl:RN n.1.length l)(hll:∀x,x∈l↔x∈l'/\0<=x/\x<n.1.length)(b:Nat)(hb:b<256):Tn (λnn=>zcu nn n l' (b:Int)) (λr=>r=l.filter (hsB n b)):=by
 unfold zcu zfm;refine Tt.loop (λm s=>∃(k:Nat)(out:List Int),k<=n.1.length/\m=n.1.length-k/\s=(l',(b:Int),(k:Int),n,out)/\out.length<=k/\jx out/\∀x,x∈out↔x∈l'/\0<=x/\x<(k:Int)/\hsB n b x=true) n.1.length waa ⟨0,_,by omega,by omega,rfl,by simp,List.Pairwise.nil,λx=>⟨λh=>(by cases h),λh=>by omega⟩⟩ λm s⟨k,out,hk,hm,hs2,ho,hr,hx⟩ nx hnx=>?_;subst hs2;dsimp only;refine wab (λc=>?_) (λc=>?_)
 ·have c:=wdz c;have hlt:k<n.1.length:=by omega
  have hmk:hsB n b (k:Int)=zev n.1[k] b:=by unfold hsB;rw[wew,wdy hlt]
  refine Tt.J (λs=>∃out,s=(l',(b:Int),(k:Int),n,out)/\out.length<=k+1/\jx out/\∀x,x∈out↔x∈l'/\0<=x/\x<((k+1:Nat):Int)/\hsB n b x=true) (λny hny=>?_) λs⟨out,hs2,ho,hr,hx⟩=>?_
  ·refine Tt.J (λs=>s=(l',(b:Int),(k:Int),decide ((k:Int)∈l'/\hsB n b (k:Int)=true),n,out)) (λnz hnz=>?_) λs hs2=>?_
   ·refine Tt.bind (Tt.call (zj6 l' (k:Int) hl') waa.fst) λh hh=>?_;subst hh;refine wab (λc=>?_) λc=>hnz _ ?_
    ·have c:=wdz c;refine wac _ (atN hlt) (Tt.bind (Tt.call (zjm n.1[k] (hs _ (wec hlt)) b hb) waa.fst) λq hq=>hnz _ ?_);subst hq;rw[<- hmk];simp[c]
    ·have c:=wd0 c;simp[c]
   ·subst hs2;dsimp only;refine wab (λc=>?_) λc=>hny _ ⟨out,rfl,by omega,hr,λx=>?_⟩
    ·have c:=wdz c;refine wac _ (Js (by simp;omega) (by omega)) (hny _ ⟨_,rfl,by simp;omega,?_,λx=>?_⟩)
     ·unfold jx;rw[wgz];exact⟨hr,by simp,λa ha b' hb'=>by rw[wd5.1 hb'];exact((hx a).1 ha).2.2.1⟩
     ·rw[wd7,hx,wd5];constructor
      ·rintro(⟨h1,h2,h3,h4⟩|rfl)
       ·exact⟨h1,h2,by omega,h4⟩
       ·exact⟨c.1,by omega,by omega,c.2⟩
      ·rintro⟨h1,h2,h3,h4⟩;by_cases hxk:x=(k:Int)
       ·exact .inr hxk
       ·exact .inl ⟨h1,h2,by omega,h4⟩
    ·have c:=wd0 c;rw[hx];constructor
     ·rintro⟨h1,h2,h3,h4⟩;exact⟨h1,h2,by omega,h4⟩
     ·rintro⟨h1,h2,h3,h4⟩;refine⟨h1,h2,?_,h4⟩;by_cases hxk:x=(k:Int)
      ·subst hxk;exact absurd ⟨h1,h4⟩ c
      ·omega
  ·subst hs2;refine wad ?_;dsimp only;rw[wI (by omega) (by omega)];exact hnx (n.1.length-(k+1)) _ (by omega) ⟨k+1,out,by omega,rfl,rfl,ho,hr,hx⟩
 ·have c:=wd0 c;have:k=n.1.length:=by omega
  subst this;refine Tt.pure (z6r hr (hl.r.filter _) λx=>?_);rw[hx,wgh,hll];constructor
  ·rintro⟨h1,h2,h3,h4⟩;exact⟨⟨h1,h2,h3⟩,h4⟩
  ·rintro⟨⟨h1,h2,h3⟩,h4⟩;exact⟨h1,h2,h3,h4⟩
theorem z9a(l:List Int)(hl:l.length<=1000000):Tn (λnn=>zcj nn l) (λb=>b=true↔jx l):=by
 unfold zcj;have ew:T.w64 ((l.length:Int)-1)=(l.length:Int)-1:=wI (by omega) (by omega);rw[ew];refine Tt.loop (λm s=>∃k:Nat,k<=l.length/\m=l.length-k/\s=(l,(l.length:Int)-1,(k:Int))/\∀(i:Nat)(h:i+1<l.length),i<k->l[i]<l[i+1]) l.length waa ⟨0,by omega,by omega,rfl,λi h1 h2=>by omega⟩ λm s⟨k,hk,hm,hs,hi⟩ nx hnx=>?_;subst hs;dsimp only;refine wab (λc=>?_) (λc=>Tt.pure ⟨λ_=>ris_of λi h=>hi i h (by have:=wd0 c;omega),λ_=>rfl⟩);have c:=wdz c;have hlt:k+1<l.length:=by omega
 have e1:T.w64 ((k:Int)+1)=((k+1:Nat):Int):=wI (by omega) (by omega);refine wac _ (atN (by omega)) ?_;rw[e1];refine wac _ (atN hlt) (wab (λc2=>Tt.pure ⟨λh=>(by cases h),λh=>?_⟩) λc2=>wad ?_)
 ·have c2:=wdz c2;have:=wgw.1 h k (k+1) (by omega) hlt (by omega);omega
 refine hnx (l.length-(k+1)) _ (by omega) ⟨k+1,by omega,rfl,rfl,λi h1 h2=>?_⟩;by_cases h:i<k
 ·exact hi i h1 h
 ·have:i=k:=by omega
  subst this;have:=wd0 c2;omega
theorem zwt(N:Nat)(ls:List (List Int))(h1:ls.length<=1000000)(h2:∀x∈ls,x.length<=1000000):Tn (λnn=>zac nn (N:Int) ls) (λb=>b=true↔∀x∈ls,RN N x):=by
 unfold zac;refine Tt.loop (λm s=>∃k:Nat,k<=ls.length/\m=ls.length-k/\s=((N:Int),ls,(ls.length:Int),(k:Int))/\∀x∈ls.take k,RN N x) ls.length waa ⟨0,by omega,by omega,rfl,by simp⟩ λm s⟨k,hk,hm,hs,hi⟩ nx hnx=>?_;subst hs;dsimp only;refine wab (λc=>?_) (λc=>Tt.pure ⟨λ_=>?_,λ_=>rfl⟩)
 rotate_left
 ·have hke:k=ls.length:=by have:=wd0 c;omega
  rw[hke,wen]at hi;exact hi
 have c:=wdz c;have hlt:k<ls.length:=by omega
 have hxm:=wec hlt;have hxl:=h2 _ hxm;refine wac _ (atN hlt) ?_;refine Tt.J (λs=>∃b,s=((N:Int),ls,(ls.length:Int),(k:Int),b)/\(b=false↔RN N ls[k])) (λny hny=>?_) λs⟨b,hs,hb⟩=>?_
 ·refine Tt.bind (Tt.call (z9a _ hxl) waa.fst) λr hr=>wad ?_;refine wab (λc=>hny _ ⟨_,rfl,λh=>(by cases h),λh=>?_⟩) λc=>wad ?_
  ·have c:r=false:=by simpa using c
   have:=hr.2 h.r;rw[c]at this;cases this
  have hr:=hr.1 (by simpa using c);refine wab (λc2=>?_) λc2=>hny _ ⟨_,rfl,λh=>jiw hr λhp=>by have:=wd0 c2;omega,λ_=>rfl⟩;have hp:0<(ls[k]).length:=by have:=wdz c2;omega
  refine wac _ (atN hp) (wad (wab (λc3=>hny _ ⟨_,rfl,λh=>(by cases h),λh=>?_⟩) λc3=>?_))
  ·have c3:=wdz c3;have:=h.b _ (wec hp);omega
  have c3:=wd0 c3;have ew:T.w64 (((ls[k]).length:Int)-1)=(((ls[k]).length-1:Nat):Int):=by rw[wI (by omega) (by omega)];omega
  rw[ew];refine wac _ (atN (by omega)) (hny _ ⟨_,rfl,λh=>jiw hr λhp=>⟨by omega,?_⟩,λh=>wem ?_⟩)
  ·have:=wd0 h;omega
  ·have:=h.b _ (wec (show(ls[k]).length-1<(ls[k]).length by omega));omega
 ·subst hs;dsimp only;refine wab (λc=>Tt.pure ⟨λh=>(by cases h),λh=>?_⟩) λc=>wad ?_
  ·have:=hb.2 (h _ hxm);rw[c]at this;cases this
  rw[wI (by omega) (by omega)];refine hnx (ls.length-(k+1)) _ (by omega) ⟨k+1,by omega,rfl,rfl,λx hx=>?_⟩;rw[web hlt]at hx;rcases wd7.1 hx with h|h
  ·exact hi x h
  ·rw[wd5.1 h];exact hb.1 c
theorem zo0(n:je)(hN:n.1.length<=1000000)(l:List Int)(hl:l.length<=1000000):Tn (λnn=>Yr nn n l) (λb=>b=true↔RN n.1.length l):=by
 unfold Yr;refine Tt.loop (λm s=>∃k:Nat,k<=l.length/\m=l.length-k/\s=(l,(k:Int),n)/\∀x∈l.take k,0<=x/\x<(n.1.length:Int)) l.length waa ⟨0,by omega,by omega,rfl,by simp⟩ λm s⟨k,hk,hm,hs,hi⟩ nx hnx=>?_;subst hs;dsimp only;refine wab (λc=>?_) (λc=>?_)
 ·have c:=wdz c;have hlt:k<l.length:=by omega
  have hxm:=wec hlt;refine Tt.J (λs=>∃b,s=(l,(k:Int),b,n)/\(b=false↔0<=l[k]/\l[k]<(n.1.length:Int))) (λny hny=>?_) λs⟨b,hs,hb⟩=>?_
  ·refine wac _ (atN hlt) (wad (wab (λc=>hny _ ⟨_,rfl,?_⟩) λc=>wac _ (atN hlt) (hny _ ⟨_,rfl,?_⟩)))
   ·have c:=wdz c;exact⟨λh=>(by cases h),λh=>by omega⟩
   ·have c:=wd0 c;rw[decide_eq_false_iff_not];omega
  ·subst hs;dsimp only;refine wab (λc=>Tt.pure ⟨λh=>(by cases h),λh=>?_⟩) λc=>wad ?_
   ·have:=hb.2 (h.b _ hxm);rw[c]at this;cases this
   rw[wI (by omega) (by omega)];refine hnx (l.length-(k+1)) _ (by omega) ⟨k+1,by omega,rfl,rfl,λx hx=>?_⟩;rw[web hlt]at hx;rcases wd7.1 hx with h|h
   ·exact hi x h
   ·rw[wd5.1 h];exact hb.1 c
 ·have hke:k=l.length:=by have:=wd0 c;omega
  rw[hke,wen]at hi;exact Tt.bind (Tt.call (zz5 l hl) waa.fst) λr hr=>Tt.pure (hr.trans ⟨λh=>⟨h,hi⟩,λh=>h.r⟩)
structure zzt(n:je):Prop extends NetOk n where
 p:∀o∈n.2.1,0<=o
theorem zh7(n:je){N:Nat}(hN:N<=1000)(hz:zgt N 60000 n):Tn (λnn=>Qn nn n) (λb=>b=true↔zzt n):=by
 have z1:=hz.s;have z2:=hz.o;have z3:=hz.l;have z4:=hz.f;have z5:=hz.fi;unfold Qn;refine wad ?_;refine Tt.J (λs=>∃b,s=((n.1.length:Int),b,n)/\(b=false↔n.2.1.length=n.1.length/\n.2.2.1.length=n.1.length/\n.2.2.2.1.length=n.1.length)) (λnx hnx=>?_) λs⟨b,hs,hb⟩=>?_
 ·refine wad (wab (λc=>hnx _ ⟨_,rfl,λh=>(by cases h),λh=>?_⟩) λc=>wab (λc2=>hnx _ ⟨_,rfl,λh=>(by cases h),λh=>?_⟩) λc2=>hnx _ ⟨_,rfl,?_⟩)
  ·have c:=wdz c;omega
  ·have c2:=wdz c2;omega
  ·have c:=wd0 c;have c2:=wd0 c2;rw[decide_eq_false_iff_not];omega
 ·subst hs;dsimp only;refine wab (λc=>Tt.pure ⟨λh=>(by cases h),λh=>?_⟩) λc=>?_
  ·have:=hb.2 ⟨h.o,h.l,h.f⟩;rw[c]at this;cases this
  obtain⟨e1,e2,e3⟩:=hb.1 c;refine Tt.loop (λm s=>∃k:Nat,k<=n.2.1.length/\m=n.2.1.length-k/\s=((n.1.length:Int),n.2.1,(n.2.1.length:Int),(k:Int),n)/\∀o∈n.2.1.take k,0<=o) n.2.1.length waa ⟨0,by omega,by omega,rfl,by simp⟩ λm s⟨k,hk,hm,hs,hi⟩ nx hnx=>?_;subst hs;dsimp only;refine wab (λc=>?_) (λc=>?_)
  ·have c:=wdz c;have hlt:k<n.2.1.length:=by omega
   refine wac _ (atN hlt) (wab (λc=>Tt.pure ⟨λh=>(by cases h),λh=>?_⟩) λc=>wad ?_)
   ·have c:=wdz c;have:=h.p _ (wec hlt);omega
   rw[wI (by omega) (by omega)];refine hnx (n.2.1.length-(k+1)) _ (by omega) ⟨k+1,by omega,rfl,rfl,λx hx=>?_⟩;rw[web hlt]at hx;rcases wd7.1 hx with h|h
   ·exact hi x h
   ·rw[wd5.1 h];have:=wd0 c;omega
  ·have hke:k=n.2.1.length:=by have:=wd0 c;omega
   rw[hke,wen]at hi;refine Tt.J (λb=>b=true↔zzt n) (λny hny=>?_) λs hs=>Tt.pure hs;refine Tt.bind (Tt.call (zwt n.1.length [n.2.2.2.2.1] (by simp) (λx hx=>by rw[wd5.1 hx];omega)) waa.fst) λr hr=>?_;refine wab (λc=>?_) λc=>hny _ ⟨λh=>(by cases h),λh=>?_⟩
   ·refine Tt.bind (Tt.call (zwt n.1.length n.2.2.2.1 (by omega) (λx hx=>by have:=hz.fr x hx;omega)) waa.fst) λr2 hr2=>?_;exact hny _ ⟨λh=>⟨⟨e1,e2,e3,hr.1 c _ (by simp),hr2.1 h⟩,hi⟩,λh=>hr2.2 h.fo⟩
   ·have:=hr.2 λx hx=>by rw[wd5.1 hx];exact h.fi
    rw[c]at this;cases this
theorem Zk(n:je){N:Nat}(hN:N<=1000)(hz:zgt N 60000 n):Tn (λnn=>J3 nn n) (λb=>b=true↔zzt n):=by
 have z1:=hz.s;have z2:=hz.o;have z3:=hz.l;have z4:=hz.f;have z5:=hz.fi;unfold J3;refine Tt.J (λs=>∃b,s=(b,n)/\(b=false↔n.2.1.length=n.1.length/\n.2.2.1.length=n.1.length/\n.2.2.2.1.length=n.1.length/\RN n.1.length n.2.2.2.2.1)) (λnx hnx=>?_) λs⟨b,hs,hb⟩=>?_
 ·refine wad (wab (λc=>hnx _ ⟨_,rfl,λh=>(by cases h),λh=>?_⟩) λc=>wab (λc2=>hnx _ ⟨_,rfl,λh=>(by cases h),λh=>?_⟩) λc2=>wab (λc3=>hnx _ ⟨_,rfl,λh=>(by cases h),λh=>?_⟩) λc3=>?_)
  ·have c:=wdz c;omega
  ·have c2:=wdz c2;omega
  ·have c3:=wdz c3;omega
  ·have c:=wd0 c;have c2:=wd0 c2;have c3:=wd0 c3;refine Tt.bind (Tt.call (zo0 n (by omega) _ (by omega)) waa) λr hr=>hnx _ ⟨_,rfl,?_⟩;constructor
   ·intro h;exact⟨by omega,by omega,by omega,hr.1 (by simpa using h)⟩
   ·intro h;rw[hr.2 h.2.2.2];rfl
 ·subst hs;dsimp only;refine wab (λc=>Tt.pure ⟨λh=>(by cases h),λh=>?_⟩) λc=>?_
  ·have:=hb.2 ⟨h.o,h.l,h.f,h.fi⟩;rw[c]at this;cases this
  obtain⟨e1,e2,e3,e4⟩:=hb.1 c;refine Tt.loop (λm s=>∃k:Nat,k<=n.1.length/\m=n.1.length-k/\s=((k:Int),n)/\(∀o∈n.2.1.take k,0<=o)/\∀x∈n.2.2.2.1.take k,RN n.1.length x) n.1.length waa ⟨0,by omega,by omega,rfl,by simp,by simp⟩ λm s⟨k,hk,hm,hs,hi,hj⟩ nx hnx=>?_;subst hs;dsimp only;refine wab (λc=>?_) (λc=>?_)
  ·have c:=wdz c;have hlt:k<n.1.length:=by omega
   have hlo:k<n.2.1.length:=by omega
   have hlf:k<n.2.2.2.1.length:=by omega
   refine Tt.J (λs=>∃b,s=((k:Int),b,n)/\(b=false↔0<=n.2.1[k]/\RN n.1.length n.2.2.2.1[k])) (λny hny=>?_) λs⟨b,hs,hb⟩=>?_
   ·refine wac _ (atN hlo) (wad (wab (λc=>hny _ ⟨_,rfl,λh=>(by cases h),λh=>?_⟩) λc=>?_))
    ·have c:=wdz c;omega
    ·have c:=wd0 c;refine wac _ (atN hlf) (Tt.bind (Tt.call (zo0 n (by omega) _ (by have:=hz.fr _ (wec hlf);omega)) waa.fst) λr hr=>hny _ ⟨_,rfl,?_⟩);constructor
     ·intro h;exact⟨by omega,hr.1 (by simpa using h)⟩
     ·intro h;rw[hr.2 h.2];rfl
   ·subst hs;dsimp only;refine wab (λc=>Tt.pure ⟨λh=>(by cases h),λh=>?_⟩) λc=>wad ?_
    ·have:=hb.2 ⟨h.p _ (wec hlo),h.fo _ (wec hlf)⟩;rw[c]at this;cases this
    obtain⟨b1,b2⟩:=hb.1 c;rw[wI (by omega) (by omega)];refine hnx (n.1.length-(k+1)) _ (by omega) ⟨k+1,by omega,rfl,rfl,λx hx=>?_,λx hx=>?_⟩
    ·rw[web hlo]at hx;rcases wd7.1 hx with h|h
     ·exact hi x h
     ·rw[wd5.1 h];exact b1
    ·rw[web hlf]at hx;rcases wd7.1 hx with h|h
     ·exact hj x h
     ·rw[wd5.1 h];exact b2
  ·have hke:k=n.1.length:=by have:=wd0 c;omega
   rw[show k=n.2.1.length by omega,wen]at hi;rw[show k=n.2.2.2.1.length by omega,wen]at hj;exact Tt.pure ⟨λ_=>⟨⟨e1,e2,e3,e4,hj⟩,hi⟩,λ_=>rfl⟩
open Classical in
noncomputable def zak(n:je)(b:Nat):List Int:=if zzt n then n.2.2.2.2.1.filter (hsB n b)else []
theorem jdd(n:je){N:Nat}(hN:N<=1000)(hz:zgt N 60000 n)(b:Nat)(hb:b<256):Tn (λnn=>Zu nn n (b:Int)) (λr=>r=zak n b):=by
 have z1:=hz.s;unfold Zu;refine Tt.bind (Tt.call (zh7 n hN hz) waa) λr hr=>?_;refine wab (λc=>Tt.pure ?_) λc=>?_
 ·have c:r=false:=by simpa using c
  unfold zak;rw[if_neg λh=>by rw[hr.2 h]at c;cases c]
 ·have h:=hr.1 (by simpa using c);refine Tt.bind (Tt.call (zxg n (by omega) _ h.fi b hb) waa) λr hr=>Tt.pure ?_;unfold zak;rw[if_pos h,hr]
theorem z25(n:je){N:Nat}(hN:N<=1000)(hz:zgt N 60000 n)(hs:∀s∈n.1,zbm s)(b:Nat)(hb:b<256):Tn (λnn=>Yx nn n (b:Int)) (λr=>r=zak n b):=by
 have z1:=hz.s;have z5:=hz.fi;unfold Yx;refine Tt.bind (Tt.call (Zk n hN hz) waa) λr hr=>?_;refine wab (λc=>Tt.pure ?_) λc=>?_
 ·have c:r=false:=by simpa using c
  unfold zak;rw[if_neg λh=>by rw[hr.2 h]at c;cases c]
 ·have h:=hr.1 (by simpa using c);refine Tt.bind (Tt.call (zsn n (by omega) hs _ _ (by omega) h.fi (λx=>⟨λhx=>⟨hx,h.fi.b x hx⟩,λhx=>hx.1⟩) b hb) waa) λr hr=>Tt.pure ?_;unfold zak;rw[if_pos h,hr]
open Classical in
noncomputable def zyu(N:Nat)(p:Int->Prop):List Int:=((List.range N).map λ(i:Nat)=>(i:Int)).filter λx=>decide (p x)
theorem ze7{N:Nat}{p:Int->Prop}{x:Int}:x∈zyu N p↔0<=x/\x<(N:Int)/\p x:=by
 unfold zyu;simp only[wgh,wee,wej];constructor
 ·rintro⟨⟨i,hi,rfl⟩,h⟩;have:=wfl.1 hi;exact⟨by omega,by omega,h⟩
 ·rintro⟨h1,h2,h3⟩;exact⟨⟨x.toNat,wfl.2 (by omega),by omega⟩,h3⟩
theorem zsc{N:Nat}{p:Int->Prop}:jx (zyu N p):=by
 unfold zyu jx;refine List.Pairwise.filter _ ?_;rw[List.pairwise_map];exact List.pairwise_lt_range.imp λh=>by omega
def zqk(n:je)(l:List Int)(x:Int):Prop:=∃i∈l,0<=i/\i<(n.1.length:Int)/\x∈n.2.2.2.1.getD i.toNat []
open Classical in
noncomputable def ze0(n:je)(l:List Int)(b:Nat):List Int:=if zzt n then(zyu n.1.length (zqk n l)).filter (hsB n b)else []
theorem zio{n:je}{l:List Int}{k:Nat}(hlt:k<l.length){x:Int}:zqk n (l.take (k+1)) x↔zqk n (l.take k) x\/(0<=l[k]/\l[k]<(n.1.length:Int)/\x∈n.2.2.2.1.getD l[k].toNat []):=by
 unfold zqk;rw[web hlt];constructor
 ·rintro⟨i,hi,h⟩;rcases wd7.1 hi with h1|h1
  ·exact .inl ⟨i,h1,h⟩
  ·rw[wd5.1 h1]at h;exact .inr h
 ·rintro(⟨i,hi,h⟩|h)
  ·exact⟨i,wd7.2 (.inl hi),h⟩
  ·exact⟨_,wd7.2 (.inr (wd5.2 rfl)),h⟩
theorem on_ex(n:je){N:Nat}(hN:N<=1000)(hz:zgt N 60000 n)(hok:NetOk n)(l:List Int)(hl:l.length<=1000000)(b:Nat)(hb:b<256):Tn (λnn=>zoi nn n l (b:Int)) (λr=>r=(zyu n.1.length (zqk n l)).filter (hsB n b)):=by
 have z1:=hz.s;have z4:=hz.f;have z5:=hok.f;unfold zoi zn8;refine Tt.loop (λm s=>∃(k:Nat)(al:List Int),k<=l.length/\m=l.length-k/\s=((b:Int),al,l,(l.length:Int),(k:Int),n)/\RN n.1.length al/\∀x,x∈al↔zqk n (l.take k) x) l.length waa ⟨0,_,by omega,by omega,rfl,RN.nil _,λx=>⟨λh=>(by cases h),λ⟨i,hi,_⟩=>(by cases hi)⟩⟩ λm s⟨k,al,hk,hm,hs,ha,hx⟩ nx hnx=>?_;subst hs;dsimp only;refine wab (λc=>?_) (λc=>Tt.bind (Tt.call (zxg n (by omega) _ ha b hb) waa.fst) λr hr=>Tt.pure ?_)
 rotate_left
 ·have hke:k=l.length:=by have:=wd0 c;omega
  rw[hke,wen]at hx;have e:al=zyu n.1.length (zqk n l):=z6r ha.r zsc λx=>by
   rw[ze7];exact⟨λh=>⟨(ha.b x h).1,(ha.b x h).2,(hx x).1 h⟩,λh=>(hx x).2 h.2.2⟩
  rw[hr,e]
 have c:=wdz c;have hlt:k<l.length:=by omega
 refine Tt.J (λs=>∃al',s=((b:Int),al',l,(l.length:Int),(k:Int),n)/\RN n.1.length al'/\∀x,x∈al'↔zqk n (l.take (k+1)) x) (λny hny=>?_) λs⟨al',hs,ha',hx'⟩=>?_
 ·refine wac _ (atN hlt) ?_;refine Tt.J (λs=>∃bb,s=((b:Int),al,l[k],l,(l.length:Int),(k:Int),bb,n)/\(bb=true↔0<=l[k]/\l[k]<(n.2.2.2.1.length:Int))) (λnz hnz=>?_) λs⟨bb,hs,hbb⟩=>?_
  ·refine wad (wab (λc=>hnz _ ⟨_,rfl,λh=>⟨wdz c,wdz h⟩,λh=>wes h.2⟩) λc=>hnz _ ⟨_,rfl,λh=>(by cases h),λh=>absurd h.1 (wd0 c)⟩)
  ·subst hs;dsimp only;refine wab (λc=>?_) λc=>hny _ ⟨_,rfl,ha,λx=>?_⟩
   ·obtain⟨h0,h1⟩:=hbb.1 c;obtain⟨z,hz⟩:∃z:Nat,l[k]=(z:Int):=⟨(l[k]).toNat,by omega⟩
    have hbt:=λx=>zio (n:=n) hlt (x:=x);rw[hz]at h1 hbt⊢;have hz':z<n.2.2.2.1.length:=by omega
    refine wac _ (atN hz') (Tt.bind (Tt.call (zjr (by omega) ha (hok.fo _ (wec hz'))) waa.fst) λu hu=>?_);refine hny _ ⟨_,rfl,hu.1,λx=>?_⟩;rw[hu.2,hx,hbt];have:n.2.2.2.1.getD ((z:Int)).toNat []=n.2.2.2.1[z]:=by simp[List.getD,hz']
    rw[this];exact or_congr Iff.rfl ⟨λh=>⟨by omega,by omega,h⟩,λh=>h.2.2⟩
   ·rw[hx,zio hlt];refine⟨.inl,λh=>h.resolve_right λh2=>?_⟩;have:=hbb.2 ⟨h2.1,by omega⟩;rw[c]at this;cases this
 ·subst hs;refine wad ?_;dsimp only;rw[wI (by omega) (by omega)];exact hnx (l.length-(k+1)) _ (by omega) ⟨k+1,_,by omega,rfl,rfl,ha',hx'⟩
theorem jh4(n:je){N:Nat}(hN:N<=1000)(hz:zgt N 60000 n)(l:List Int)(hl:l.length<=1000000)(b:Nat)(hb:b<256):Tn (λnn=>zbw nn n l (b:Int)) (λr=>r=ze0 n l b):=by
 unfold zbw;refine Tt.bind (Tt.call (zh7 n hN hz) waa) λr hr=>?_;refine wab (λc=>Tt.pure ?_) λc=>?_
 ·have c:r=false:=by simpa using c
  unfold ze0;rw[if_neg λh=>by rw[hr.2 h]at c;cases c]
 ·have h:=hr.1 (by simpa using c);refine Tt.bind (Tt.call (on_ex n hN hz h.toNetOk l hl b hb) waa) λr hr=>Tt.pure ?_;unfold ze0;rw[if_pos h,hr]
theorem z5d(n:je){N:Nat}(hN:N<=1000)(hz:zgt N 60000 n)(hs:∀s∈n.1,zbm s)(l:List Int)(hl:l.length<=1000)(b:Nat)(hb:b<256):Tn (λnn=>Zp nn n l (b:Int)) (λr=>r=ze0 n l b):=by
 have z1:=hz.s;have z4:=hz.f;unfold Zp;refine Tt.bind (Tt.call (Zk n hN hz) waa) λr hr=>?_;refine wab (λc=>Tt.pure ?_) λc=>?_
 ·have c:r=false:=by simpa using c
  unfold ze0;rw[if_neg λh=>by rw[hr.2 h]at c;cases c]
 have hR:=hr.1 (by simpa using c);have z5:=hR.f;refine Tt.loop (λm s=>∃(k:Nat)(al:List Int),k<=l.length/\m=l.length-k/\s=(l,(b:Int),(k:Int),n,al)/\al.length<=512*k/\∀x,x∈al↔zqk n (l.take k) x) l.length waa ⟨0,_,by omega,by omega,rfl,by simp,λx=>⟨λh=>(by cases h),λ⟨i,hi,_⟩=>(by cases hi)⟩⟩ λm s⟨k,al,hk,hm,hs2,ha,hx⟩ nx hnx=>?_;subst hs2;dsimp only;refine wab (λc=>?_) (λc=>?_)
 rotate_left
 ·have hke:k=l.length:=by have:=wd0 c;omega
  rw[hke,wen]at hx;have hRN:RN n.1.length (zyu n.1.length (zqk n l)):=⟨zsc,λx h=>⟨(ze7.1 h).1,(ze7.1 h).2.1⟩⟩
  refine Tt.bind (Tt.call (zsn n (by omega) hs _ al (by omega) hRN (λx=>?_) b hb) waa.fst) λr hr=>Tt.pure ?_
  ·rw[ze7,hx];exact⟨λh=>⟨h.2.2,h.1,h.2.1⟩,λh=>⟨h.2.1,h.2.2,h.1⟩⟩
  ·unfold ze0;rw[if_pos hR,hr]
 have c:=wdz c;have hlt:k<l.length:=by omega
 refine Tt.J (λs=>∃al',s=(l,(b:Int),(k:Int),n,al')/\al'.length<=512*(k+1)/\∀x,x∈al'↔zqk n (l.take (k+1)) x) (λny hny=>?_) λs⟨al',hs2,ha',hx'⟩=>?_
 ·refine Tt.J (λs=>∃bb,s=(l,(b:Int),(k:Int),bb,n,al)/\(bb=true↔0<=l[k]/\l[k]<(n.1.length:Int))) (λnz hnz=>?_) λs⟨bb,hs2,hbb⟩=>?_
  ·refine wac _ (atN hlt) (wad (wab (λc=>wac _ (atN hlt) (hnz _ ⟨_,rfl,λh=>⟨wdz c,wdz h⟩,λh=>wes h.2⟩)) λc=>hnz _ ⟨_,rfl,λh=>(by cases h),λh=>absurd h.1 (wd0 c)⟩))
  ·subst hs2;dsimp only;refine wab (λc=>?_) λc=>hny _ ⟨_,rfl,by omega,λx=>?_⟩
   ·obtain⟨h0,h1⟩:=hbb.1 c;refine wac _ (atN hlt) ?_;obtain⟨z,hzz⟩:∃z:Nat,l[k]=(z:Int):=⟨(l[k]).toNat,by omega⟩
    have hbt:=λx=>zio (n:=n) hlt (x:=x);rw[hzz]at h1 hbt⊢;have hz':z<n.2.2.2.1.length:=by omega
    have hrl:=hz.fr _ (wec hz');refine wac _ (atN hz') (wac _ (Js (by omega) (by omega)) (hny _ ⟨_,rfl,by rw[weg];omega,λx=>?_⟩));rw[wd7,hx,hbt];have:n.2.2.2.1.getD ((z:Int)).toNat []=n.2.2.2.1[z]:=by simp[List.getD,hz']
    rw[this];exact or_congr Iff.rfl ⟨λh=>⟨by omega,by omega,h⟩,λh=>h.2.2⟩
   ·rw[hx,zio hlt];refine⟨.inl,λh=>h.resolve_right λh2=>?_⟩;have:=hbb.2 ⟨h2.1,h2.2.1⟩;rw[c]at this;cases this
 ·subst hs2;refine wad ?_;dsimp only;rw[wI (by omega) (by omega)];exact hnx (l.length-(k+1)) _ (by omega) ⟨k+1,_,by omega,rfl,rfl,ha',hx'⟩
def zds(n:je)(t i:Int):Int:=if 0<=i/\i<(n.1.length:Int)/\n.2.2.1.getD i.toNat false=true then(if t<0 then n.2.1.getD i.toNat 0 else min t (n.2.1.getD i.toNat 0))else t
open Classical in
noncomputable def zi9(n:je)(l:List Int):Int:=if zzt n then l.foldl (zds n) (-1)else -1
theorem zxs{n:je}{l:List Int}{k:Nat}(hlt:k<l.length):(l.take (k+1)).foldl (zds n) (-1)=zds n ((l.take k).foldl (zds n) (-1)) l[k]:=by
 rw[web hlt,wg7];rfl
theorem jaq(n:je){N:Nat}(hN:N<=1000)(hz:zgt N 60000 n)(l:List Int)(hl:l.length<=1000000):Tn (λnn=>zcs nn n l) (λr=>r=zi9 n l):=by
 unfold zcs;refine Tt.bind (Tt.call (zh7 n hN hz) waa) λr hr=>?_;refine wab (λc=>Tt.pure ?_) λc=>?_
 ·have c:r=false:=by simpa using c
  unfold zi9;rw[if_neg λh=>by rw[hr.2 h]at c;cases c]
 have hok:=hr.1 (by simpa using c);have e1:=hok.o;have e2:=hok.l;unfold zi9;rw[if_pos hok];refine Tt.loop (λm s=>∃(k:Nat)(t:Int),k<=l.length/\m=l.length-k/\s=(t,l,(l.length:Int),(k:Int),n)/\t=(l.take k).foldl (zds n) (-1)) l.length waa ⟨0,_,by omega,by omega,rfl,rfl⟩ λm s⟨k,t,hk,hm,hs,ht⟩ nx hnx=>?_;subst hs;dsimp only;refine wab (λc=>?_) (λc=>Tt.pure ?_)
 rotate_left
 ·have hke:k=l.length:=by have:=wd0 c;omega
  rw[hke,wen]at ht;exact ht
 have c:=wdz c;have hlt:k<l.length:=by omega
 have hstep:=zxs (n:=n) hlt;rw[<- ht]at hstep;refine Tt.J (λs=>s=(zds n t l[k],l,(l.length:Int),(k:Int),n)) (λny hny=>?_) λs hs=>?_
 ·refine wac _ (atN hlt) ?_;refine Tt.J (λs=>∃bb,s=(t,l[k],l,(l.length:Int),(k:Int),bb,n)/\(bb=false↔0<=l[k]/\l[k]<(n.1.length:Int)/\n.2.2.1.getD l[k].toNat false=true)) (λnz hnz=>?_) λs⟨bb,hs,hbb⟩=>?_
  ·refine wad (wab (λc=>hnz _ ⟨_,rfl,λh=>(by cases h),λh=>?_⟩) λc=>wab (λc2=>hnz _ ⟨_,rfl,λh=>(by cases h),λh=>?_⟩) λc2=>?_)
   ·have:=wdz c;omega
   ·have:=wdz c2;omega
   have c:=wd0 c;have c2:=wd0 c2;have hr:0<=l[k]/\l[k]<(n.1.length:Int):=by omega
   obtain⟨z,hz⟩:∃z:Nat,l[k]=(z:Int):=⟨(l[k]).toNat,by omega⟩
   have hzl:z<n.2.2.1.length:=by omega
   have ha:atL n.2.2.1 l[k]=some (n.2.2.1[z]'hzl):=by rw[hz];exact atN hzl
   have hg:n.2.2.1.getD l[k].toNat false=n.2.2.1[z]:=by rw[hz];simp[List.getD,hzl]
   refine wac _ ha (hnz _ ⟨_,rfl,?_⟩);rw[hg];constructor
   ·intro h;exact⟨hr.1,hr.2,by simpa using h⟩
   ·intro h;rw[h.2.2];rfl
  ·subst hs;dsimp only;refine wab (λc=>hny _ ?_) λc=>?_
   ·have:¬(0<=l[k]/\l[k]<(n.1.length:Int)/\n.2.2.1.getD l[k].toNat false=true):=λh=>by
     have:=hbb.2 h;rw[c]at this;cases this
    unfold zds;rw[if_neg this]
   have hr:=hbb.1 c;obtain⟨z,hz⟩:∃z:Nat,l[k]=(z:Int):=⟨(l[k]).toNat,by omega⟩
   have hzl:z<n.2.1.length:=by omega
   have ha:atL n.2.1 l[k]=some (n.2.1[z]'hzl):=by rw[hz];exact atN hzl
   have hg:n.2.1.getD l[k].toNat 0=n.2.1[z]:=by rw[hz];simp[List.getD,hzl]
   have hF:zds n t l[k]=if t<0 then n.2.1[z]else min t n.2.1[z]:=by unfold zds;rw[if_pos hr,hg]
   refine Tt.J (λs=>s=(if t<0 then n.2.1[z]else t,l[k],l,(l.length:Int),(k:Int),n)) (λnz hnz=>?_) λs hs=>?_
   ·refine wab (λc=>wac _ ha (hnz _ ?_)) λc=>hnz _ ?_
    ·rw[if_pos (wdz c)]
    ·rw[if_neg (wd0 c)]
   ·subst hs;refine wac _ ha (wad (hny _ ?_));rw[hF];dsimp only;by_cases h:t<0
    ·simp[h]
    ·simp[h]
 ·subst hs;refine wad ?_;dsimp only;rw[wI (by omega) (by omega)];exact hnx (l.length-(k+1)) _ (by omega) ⟨k+1,_,by omega,rfl,rfl,hstep.symm⟩
theorem z1n(n:je){N:Nat}(hN:N<=1000)(hz:zgt N 60000 n)(l:List Int)(hl:l.length<=1000000):Tn (λnn=>za6 nn n l) (λr=>r=zi9 n l):=by
 unfold za6;refine Tt.bind (Tt.call (Zk n hN hz) waa) λr hr=>?_;refine wab (λc=>Tt.pure ?_) λc=>?_
 ·have c:r=false:=by simpa using c
  unfold zi9;rw[if_neg λh=>by rw[hr.2 h]at c;cases c]
 have hok:=hr.1 (by simpa using c);have e1:=hok.o;have e2:=hok.l;unfold zi9;rw[if_pos hok];refine Tt.loop (λm s=>∃(k:Nat)(t:Int),k<=l.length/\m=l.length-k/\s=(l,t,(k:Int),n)/\t=(l.take k).foldl (zds n) (-1)) l.length waa ⟨0,_,by omega,by omega,rfl,rfl⟩ λm s⟨k,t,hk,hm,hs,ht⟩ nx hnx=>?_;subst hs;dsimp only;refine wab (λc=>?_) (λc=>Tt.pure ?_)
 rotate_left
 ·have hke:k=l.length:=by have:=wd0 c;omega
  rw[hke,wen]at ht;exact ht
 have c:=wdz c;have hlt:k<l.length:=by omega
 have hstep:=zxs (n:=n) hlt;rw[<- ht]at hstep;refine Tt.J (λs=>s=(l,zds n t l[k],(k:Int),n)) (λny hny=>?_) λs hs=>?_
 ·refine Tt.J (λs=>∃bb,s=(l,t,(k:Int),bb,n)/\(bb=true->0<=l[k]/\l[k]<(n.1.length:Int)/\zds n t l[k]=n.2.1.getD l[k].toNat 0)/\(bb=false->zds n t l[k]=t)) (λnz hnz=>?_) λs⟨bb,hs,hbt,hbf⟩=>?_
  ·have hno:¬(0<=l[k]/\l[k]<(n.1.length:Int)/\n.2.2.1.getD l[k].toNat false=true)->zds n t l[k]=t:=λh=>by unfold zds;rw[if_neg h]
   refine wac _ (atN hlt) (wad (wab (λc=>?_) λc=>hnz _ ⟨_,rfl,λh=>(by cases h),λ_=>hno λh=>absurd h.1 (wd0 c)⟩));refine wac _ (atN hlt) (wab (λc2=>?_) λc2=>hnz _ ⟨_,rfl,λh=>(by cases h),λ_=>hno λh=>absurd h.2.1 (wd0 c2)⟩);have c:=wdz c;have c2:=wdz c2;obtain⟨z,hz⟩:∃z:Nat,l[k]=(z:Int):=⟨(l[k]).toNat,by omega⟩
   have hzl:z<n.2.2.1.length:=by omega
   have hzo:z<n.2.1.length:=by omega
   have ha:atL n.2.2.1 l[k]=some (n.2.2.1[z]'hzl):=by rw[hz];exact atN hzl
   have hao:atL n.2.1 l[k]=some (n.2.1[z]'hzo):=by rw[hz];exact atN hzo
   have hg:n.2.2.1.getD l[k].toNat false=n.2.2.1[z]:=by rw[hz];simp[List.getD,hzl]
   have hgo:n.2.1.getD l[k].toNat 0=n.2.1[z]:=by rw[hz];simp[List.getD,hzo]
   refine wac _ (atN hlt) (wac _ ha (wab (λc3=>?_) λc3=>hnz _ ⟨_,rfl,λh=>(by cases h),λ_=>hno λh=>?_⟩))
   ·have hF:zds n t l[k]=if t<0 then n.2.1[z]else min t n.2.1[z]:=by unfold zds;rw[if_pos ⟨c,c2,hg.trans c3⟩,hgo]
    refine wad (wab (λc4=>hnz _ ⟨_,rfl,λ_=>⟨c,c2,by rw[hF,hgo,if_pos (wdz c4)]⟩,λh=>by cases h⟩) λc4=>?_);have c4:=wd0 c4;rw[if_neg c4]at hF;refine wac _ (atN hlt) (wac _ hao (hnz _ ⟨_,rfl,λh=>⟨c,c2,?_⟩,λh=>?_⟩))
    ·rw[hF,hgo];have:=wdz h;omega
    ·rw[hF];have:=wd0 h;omega
   ·have:=h.2.2;rw[hg,c3]at this;cases this
  ·subst hs;dsimp only;refine wab (λc=>?_) λc=>hny _ (by rw[hbf c]);obtain⟨h1,h2,h3⟩:=hbt c;obtain⟨z,hz⟩:∃z:Nat,l[k]=(z:Int):=⟨(l[k]).toNat,by omega⟩
   have hzo:z<n.2.1.length:=by omega
   have hao:atL n.2.1 l[k]=some (n.2.1[z]'hzo):=by rw[hz];exact atN hzo
   have hgo:n.2.1.getD l[k].toNat 0=n.2.1[z]:=by rw[hz];simp[List.getD,hzo]
   exact wac _ (atN hlt) (wac _ hao (hny _ (by rw[h3,hgo])))
 ·subst hs;refine wad ?_;dsimp only;rw[wI (by omega) (by omega)];exact hnx (l.length-(k+1)) _ (by omega) ⟨k+1,_,by omega,rfl,rfl,hstep.symm⟩
def qf(E:Nat->Nat->Bool):Nat->List Nat
 |0=>[]
 |k+1=>if(qf E k).any (E · k)then qf E k else qf E k++[k]
def cls(E:Nat->Nat->Bool)(b:Nat):Nat:=(qf E 256).findIdx (E · b)
structure Eqv(E:Nat->Nat->Bool):Prop where
 r:∀a,E a a=true
 s:∀a b,E a b=E b a
 t:∀a b c,E a b=true->E a c=E b c
theorem zfa{E:Nat->Nat->Bool}(h:Eqv E):∀{k b:Nat},b<k->∃a∈qf E k,E a b=true
 |0,b,hb=>by omega
 |k+1,b,hb=>by
  unfold qf;by_cases hbk:b<k
  ·obtain⟨a,ha,he⟩:=zfa h hbk;split
   ·exact⟨a,ha,he⟩
   ·exact⟨a,wd7.2 (.inl ha),he⟩
  ·have:b=k:=by omega
   subst this;split
   ·rename_i c;obtain⟨a,ha,he⟩:=wfz.1 c;exact⟨a,ha,he⟩
   ·exact⟨b,by simp,h.r b⟩
theorem ztc{E:Nat->Nat->Bool}(k:Nat):∀d,∃t,qf E (k+d)=qf E k++t
 |0=>⟨[],by simp⟩
 |d+1=>by
  obtain⟨t,ht⟩:=ztc (E:=E) k d;have e:qf E (k+(d+1))=if(qf E (k+d)).any (E · (k+d))then qf E (k+d)else qf E (k+d)++[k+d]:=rfl
  rw[e];split
  ·exact⟨t,ht⟩
  ·exact⟨t++[k+d],by rw[ht,wey]⟩
theorem jca{E:Nat->Nat->Bool}(h:Eqv E){k b:Nat}(hb:b<k)(hk:k<=256):(qf E k).findIdx (E · b)=cls E b:=by
 obtain⟨t,ht⟩:=ztc (E:=E) k (256-k);rw[show k+(256-k)=256 by omega]at ht;unfold cls;rw[ht,List.findIdx_append,if_pos];obtain⟨a,ha,he⟩:=zfa h hb;exact wgb ⟨a,ha,he⟩
theorem z6p{E:Nat->Nat->Bool}(h:Eqv E){a b:Nat}(he:E a b=true):cls E a=cls E b:=by
 unfold cls;have:(λx=>E x a)=λx=>E x b:=funext λx=>by rw[h.s x a,h.s x b];exact h.t a b x he
 rw[this]
theorem jhp{E:Nat->Nat->Bool}(h:Eqv E){b:Nat}(hb:b<256)(hn:∀a,a<b->E a b=false):cls E b=(qf E b).length/\(qf E (b+1)).length=(qf E b).length+1:=by
 have hm:∀k a,a∈qf E k->a<k:=by
  intro k;induction k with
  |zero=>intro a ha;cases ha
  |succ k ih=>
   intro a ha;unfold qf at ha;split at ha
   ·have:=ih a ha;omega
   ·rcases wd7.1 ha with h1|h1
    ·have:=ih a h1;omega
    ·rw[wd5.1 h1];omega
 have hany:(qf E b).any (E · b)=false:=by
  rw[List.any_eq_false];intro a ha;rw[hn a (hm b a ha)];simp
 have e:qf E (b+1)=qf E b++[b]:=by
  show(if(qf E b).any (E · b)then qf E b else qf E b++[b])=_;rw[hany];rfl
 refine⟨?_,by rw[e];simp⟩;rw[<- jca h (wgl b) (by omega),e,List.findIdx_append];have:(qf E b).findIdx (E · b)=(qf E b).length:=List.findIdx_eq_length.2 λa ha=>by simpa using hn a (hm b a ha)
 rw[this,if_neg (by omega)];simp[h.r b]
theorem jax{E:Nat->Nat->Bool}(h:Eqv E){a b:Nat}(hab:a<b)(he:E a b=true):qf E (b+1)=qf E b:=by
 obtain⟨x,hx,hxe⟩:=zfa h hab;have:E x b=true:=by rw[<- h.t x a b hxe]at he;exact he
 show(if(qf E b).any (E · b)then qf E b else qf E b++[b])=_;rw[if_pos (wfz.2 ⟨x,hx,this⟩)]
def Ve(l:List (Arr 4 Int))(a b:Nat):Bool:=decide (l.map (zev · a)=l.map (zev · b))
theorem zc5(l:List (Arr 4 Int)):Eqv (Ve l) where
 r a:=by simp[Ve]
 s a b:=decide_eq_decide.2 ⟨Eq.symm,Eq.symm⟩
 t a b c h:=by
  have h:=wdz h;unfold Ve;rw[h]
theorem z2c(l:List (Arr 4 Int))(hl:l.length<=1000000)(hs:∀s∈l,zbm s)(a b:Nat)(ha:a<256)(hb:b<256):Tn (λnn=>Yu nn l (a:Int) (b:Int)) (λr=>r=Ve l a b):=by
 unfold Yu;refine Tt.loop (λm s=>∃k:Nat,k<=l.length/\m=l.length-k/\s=(l,(a:Int),(b:Int),(k:Int))/\Ve l a b=Ve (l.drop k) a b) l.length waa ⟨0,by omega,by omega,rfl,rfl⟩ λm s⟨k,hk,hm,hs2,he⟩ nx hnx=>?_;subst hs2;dsimp only;refine wab (λc=>?_) (λc=>Tt.pure ?_)
 ·have c:=wdz c;have hlt:k<l.length:=by omega
  have hsk:=hs _ (wec hlt);have wa:wr .u8 (a:Int)=(a:Int):=Jp (by omega) (by omega);have wb:wr .u8 (b:Int)=(b:Int):=Jp (by omega) (by omega);rw[wa,wb];rw[wet hlt]at he;refine wac _ (atN hlt) (Tt.bind (Tt.call (zjm _ hsk a ha) waa.fst) λx hx=>wac _ (atN hlt) (Tt.bind (Tt.call (zjm _ hsk b hb) waa.fst) λy hy=>?_));subst hx hy;have e2:Ve (l[k]::l.drop (k+1)) a b=((zev l[k] a == zev l[k] b) && Ve (l.drop (k+1)) a b):=by
   unfold Ve;rw[wel,wel,Bool.eq_iff_iff];simp
  rw[e2]at he;refine wab (λc=>Tt.pure ?_) λc=>wad ?_
  ·have c:(zev l[k] a == zev l[k] b)=false:=by simpa using c
   rw[he,c];rfl
  ·have c:(zev l[k] a == zev l[k] b)=true:=by simpa using c
   rw[wI (by omega) (by omega)];exact hnx (l.length-(k+1)) _ (by omega) ⟨k+1,by omega,rfl,rfl,by rw[he,c];rfl⟩
 ·have hke:k=l.length:=by have:=wd0 c;omega
  rw[he,hke,wfg];simp[Ve]
theorem Z5(E:Nat->Nat->Bool):∀k,(qf E k).length<=k
 |0=>by simp[qf]
 |k+1=>by
  have h:=Z5 E k;unfold qf;split
  ·omega
  ·rw[weg,weq];omega
structure ClsAt(E:Nat->Nat->Bool)(a:Arr 256 Int)(k:Nat):Prop where
 c:∀b,b<k->a.l[b]?=some (cls E b:Int)
theorem ClsAt.set{E:Nat->Nat->Bool}{a a':Arr 256 Int}{k:Nat}(h:ClsAt E a k)(hk:k<256){x:Int}(he:a'.l=a.l.set k x)(hx:x=(cls E k:Int)):ClsAt E a' (k+1):=⟨λb hb=>by
 have hl:=a.h;rw[he,we1];by_cases e:k=b
 ·subst e;rw[if_pos rfl,if_pos (by omega),hx]
 ·rw[if_neg e];exact h.c b (by omega)⟩
theorem jb1(l:List (Arr 4 Int))(hl:l.length<=1000000)(hs:∀s∈l,zbm s):Tn (λnn=>zge nn l) (λr=>r.2.1=((qf (Ve l) 256).length:Int)/\ClsAt (Ve l) r.1 256):=by
 obtain⟨E,hE⟩:∃E,Ve l=E:=⟨_,rfl⟩
 have hq:Eqv E:=hE▸zc5 l;have hal:∀a b:Nat,a<256->b<256->Tn (λnn=>Yu nn l (a:Int) (b:Int)) (λr=>r=E a b):=λa b ha hb=>hE▸z2c l hl hs a b ha hb;rw[hE];unfold zge;refine Tt.loop (λm s=>∃(k:Nat)(of:Arr 256 Int),k<=256/\m=256-k/\s=(l,((qf E k).length:Int),(k:Int),⟨List.replicate 256 0,wd2⟩,of)/\ClsAt E of k) 256 waa ⟨0,_,by omega,by omega,rfl,⟨λb hb=>by omega⟩⟩ λm s⟨k,of,hk,hm,hs2,hc⟩ nx hnx=>?_;subst hs2;dsimp only;refine wab (λc=>?_) (λc=>Tt.pure ?_)
 rotate_left
 ·have hke:k=256:=by have:=wd0 c;omega
  subst hke;exact⟨rfl,hc⟩
 have c:=wdz c;have hlt:k<256:=by omega
 have hol:=of.h;have hrl:=Z5 E k;refine Tt.J (λs=>∃of',s=(l,((qf E (k+1)).length:Int),(k:Int),⟨List.replicate 256 0,wd2⟩,of')/\ClsAt E of' (k+1)) (λny hny=>?_) λs⟨of',hs2,hc'⟩=>?_
 ·refine Tt.loop (λm s=>∃a:Nat,a<=k/\m=k-a/\s=(l,((qf E k).length:Int),(k:Int),(a:Int),⟨List.replicate 256 0,wd2⟩,of)/\∀x,x<a->E x k=false) k waa.fst ⟨0,by omega,by omega,rfl,λx hx=>by omega⟩ λm s⟨a,ha,hm2,hs2,hx⟩ nz hnz=>?_;subst hs2;dsimp only;refine Tt.bind (Tt.call (hal a k (by omega) hlt) waa.fst.fst) λr hr=>?_;subst hr;refine wab (λc2=>wad ?_) λc2=>?_
  ·have c2:E a k=false:=by simpa using c2
   have hak:a<k:=by
    by_cases e:a=k
    ·rw[e,hq.r]at c2;cases c2
    ·omega
   rw[wI (by omega) (by omega)];refine hnz (k-(a+1)) _ (by omega) ⟨a+1,by omega,rfl,rfl,λx hx2=>?_⟩;by_cases e:x=a
   ·rw[e];exact c2
   ·exact hx x (by omega)
  ·have c2:E a k=true:=by simpa using c2
   refine wab (λc3=>?_) λc3=>?_
   ·have hak:a<k:=by have:=wdz c3;omega
    have hv:atL of.l (a:Int)=some (cls E a:Int):=by
     have h1:=hc.c a hak;have h2:a<of.l.length:=by omega
     rw[atN h2];rw[wdy h2]at h1;exact h1
    obtain⟨of',e1,e2⟩:=zq1 of hlt (cls E a:Int);refine wac _ (zh (by omega)) (wac _ hv (wac _ (zh hlt) (wac _ e1 (hny.fst _ ⟨of',?_,hc.set hlt e2 (by rw[z6p hq c2])⟩))));rw[jax hq hak c2]
   ·have hak:a=k:=by have:=wd0 c3;omega
    subst hak;obtain⟨n1,n2⟩:=jhp hq hlt hx;have hwu:wr .u8 ((qf E a).length:Int)=((qf E a).length:Int):=Jp (by omega) (by omega);obtain⟨of',e1,e2⟩:=zq1 of hlt ((qf E a).length:Int);rw[hwu];refine wac _ (zh hlt) (wac _ e1 (wad (hny.fst _ ⟨of',?_,hc.set hlt e2 (by rw[n1])⟩)));rw[wI (by omega) (by omega),n2];rfl
 ·subst hs2;refine wad ?_;dsimp only;rw[wI (by omega) (by omega)];exact hnx (256-(k+1)) _ (by omega) ⟨k+1,of',by omega,rfl,rfl,hc'⟩
theorem nandP(m r:Nat):m &&& 2 ^ r=if m.testBit r=true then 2 ^ r else 0:=by
 apply Nat.eq_of_testBit_eq;intro i;rw[Nat.testBit_and,Nat.testBit_two_pow];by_cases h:r=i
 ·subst h;cases hb:m.testBit r<;>simp
 ·cases hb:m.testBit r<;>simp[h]
theorem andP(m r:Nat)(hm:m<18446744073709551616)(hr:r<64):zvi .u64 (m:Int) ((2 ^ r:Nat):Int)=((if m.testBit r=true then 2 ^ r else 0:Nat):Int):=by
 have h2:2 ^ r<18446744073709551616:=wgv (Nat.pow_lt_pow_right (by decide) hr) (by decide);have h1:(BitVec.ofInt IntKind.u64.bits (m:Int) &&& BitVec.ofInt IntKind.u64.bits ((2 ^ r:Nat):Int)).toNat=if m.testBit r=true then 2 ^ r else 0:=by
  show(BitVec.ofInt 64 (m:Int) &&& BitVec.ofInt 64 ((2 ^ r:Nat):Int)).toNat=_;rw[BitVec.ofInt_natCast,BitVec.ofInt_natCast,BitVec.toNat_and,BitVec.toNat_ofNat,BitVec.toNat_ofNat,Nat.mod_eq_of_lt hm,Nat.mod_eq_of_lt h2,nandP]
 have h3:(if m.testBit r=true then 2 ^ r else 0)<18446744073709551616:=by
  split
  ·exact h2
  ·decide
 unfold zvi;rw[h1];generalize (if m.testBit r=true then 2 ^ r else 0)=q at h3;exact zb1 (by omega) (by omega)
theorem jgl(s:Arr 4 Int)(hs:zbm s)(b:Nat)(hb:b<256):Tn (λnn=>zar nn s (b:Int)) (λr=>r=zev s b):=by
 unfold zar;obtain⟨w,hw⟩:∃w:Nat,s.l.getD (b / 64) 0=(w:Int):=⟨(s.l.getD (b / 64) 0).toNat,by have:=(hs (b / 64)).1;omega⟩
 have hwl:w<18446744073709551616:=by have:=(hs (b / 64)).2;omega
 have hr:b % 64<64:=Nat.mod_lt _ (by decide);have h2:2 ^ (b % 64)<18446744073709551616:=wgv (Nat.pow_lt_pow_right (by decide) hr) (by decide);have sh:zx6 .u64 1 ((b % 64:Nat):Int)=some ((2 ^ (b % 64):Nat):Int):=by
  unfold zx6;rw[if_neg (by omega),wew,show min (b % 64) IntKind.u64.bits=b % 64 from whb (by show b % 64<=64;omega)];rw[Int.one_mul,show((2:Int) ^ (b % 64))=((2 ^ (b % 64):Nat):Int) by simp];generalize 2 ^ (b % 64)=q at h2;rw[zb1 (by omega) (by omega)]
 refine wac _ (je3 hb) (wac _ (zh (by omega)) (wac _ (at4E s (k:=b / 64) (by omega)) (wac _ (z6l b) (wac _ sh (Tt.pure ?_)))));rw[hw,andP w _ hwl hr];unfold zev zxw;rw[hw,wew,show min (b % 64) 64=b % 64 from whb (by omega)];have e:((w:Int)).fdiv (2 ^ (b % 64))=((w / 2 ^ (b % 64):Nat):Int):=by
  rw[Int.fdiv_eq_ediv_of_nonneg _ (by exact_mod_cast wf1 _)];simp
 rw[e,and1];refine decide_eq_decide.2 (not_congr ?_);have h3:w.testBit (b % 64)=decide (w / 2 ^ (b % 64) % 2=1):=Nat.testBit_eq_decide_div_mod_eq;have hp:0<2 ^ (b % 64):=Nat.two_pow_pos _;rw[h3];by_cases h:w / 2 ^ (b % 64) % 2=1
 ·rw[if_pos (wes h),h];generalize 2 ^ (b % 64)=q at hp;omega
 ·have h4:w / 2 ^ (b % 64) % 2=0:=by omega
  rw[if_neg (by rw[wem h];simp),h4]
theorem ztq{E:Nat->Nat->Bool}(h:Eqv E){k:Nat}(hk:k<256):((qf E k).any (E · k)=true->qf E (k+1)=qf E k/\cls E k=(qf E k).findIdx (E · k))/\((qf E k).any (E · k)=false->qf E (k+1)=qf E k++[k]/\cls E k=(qf E k).length):=by
 have e:qf E (k+1)=if(qf E k).any (E · k)then qf E k else qf E k++[k]:=rfl
 have c:=jca h (wgl k) (by omega:k+1<=256);constructor
 ·intro ha;rw[if_pos ha]at e;rw[e]at c;exact⟨e,c.symm⟩
 ·intro ha;rw[if_neg (by rw[ha];simp)]at e;rw[e,List.findIdx_append]at c;have:(qf E k).findIdx (E · k)=(qf E k).length:=List.findIdx_eq_length.2 λa hm=>by simpa using List.any_eq_false.1 ha a hm
  rw[this,if_neg (by omega)]at c;simp[h.r k]at c;exact⟨e,c.symm⟩
theorem jf3{E:Nat->Nat->Bool}(h:Eqv E){a b:Nat}(ha:a<256)(hb:b<256)(he:cls E a=cls E b):E a b=true:=by
 have hia:(qf E 256).findIdx (E · a)<(qf E 256).length:=by
  obtain⟨x,h1,h2⟩:=zfa h ha;exact wgb ⟨x,h1,h2⟩
 have hib:(qf E 256).findIdx (E · b)<(qf E 256).length:=by
  obtain⟨x,h1,h2⟩:=zfa h hb;exact wgb ⟨x,h1,h2⟩
 have p1:=List.findIdx_getElem (w:=hia);have p2:=List.findIdx_getElem (w:=hib);unfold cls at he;simp only[he]at p1;rw[h.t _ a b p1]at p2;exact p2
def zj0(key:Nat->v7):List Nat->Nat->List (v7×Int×Unit)
 |[],_=>[]
 |r::L,i=>(key r,(i:Int),())::zj0 key L (i+1)
theorem z2w(key:Nat->v7)(k:Nat):∀(L:List Nat)(i:Nat),zj0 key (L++[k]) i=zj0 key L i++[(key k,((i+L.length:Nat):Int),())]
 |[],i=>by simp[zj0]
 |r::L,i=>by
  rw[wgk];show(key r,(i:Int),())::zj0 key (L++[k]) (i+1)=_;rw[z2w key k L (i+1),we7,show i+1+L.length=i+(L.length+1) by omega];rfl
theorem z2b(key:Nat->v7):∀(L:List Nat)(i:Nat),(zj0 key L i).length=L.length
 |[],_=>rfl
 |r::L,i=>by
  show(zj0 key L (i+1)).length+1=L.length+1;rw[z2b key L (i+1)]
theorem z3e{key:Nat->v7}{P:Nat->Bool}{k:Nat}:∀{L:List Nat}{i:Nat},(∀r∈L,J0 (key k) (key r)=P r)->zr J0 (zj0 key L i) (key k)=if L.any P then some ((i+L.findIdx P:Nat):Int)else none
 |[],i,_=>rfl
 |r::L,i,h=>by
  have h1:=h r (by simp);have h2:=z3e (key:=key) (P:=P) (k:=k) (L:=L) (i:=i+1) λx hx=>h x (by simp[hx]);show zr J0 ((key r,(i:Int),())::zj0 key L (i+1)) (key k)=_;unfold zr;dsimp only;rw[h1];cases hp:P r with
  |true=>simp[hp,List.findIdx_cons]
  |false=>
   dsimp only;rw[h2];simp only[List.any_cons,hp,Bool.false_or,List.findIdx_cons,cond_false];rw[show i+1+L.findIdx P=i+(L.findIdx P+1) by omega]
def zvy(E:Nat->Nat->Bool)(s:Arr 4 Int)(a b:Nat):Bool:=E a b && (zev s a == zev s b)
theorem jau{E:Nat->Nat->Bool}(h:Eqv E)(s:Arr 4 Int):Eqv (zvy E s) where
 r a:=by simp[zvy,h.r]
 s a b:=by unfold zvy;rw[h.s a b,Bool.beq_comm]
 t a b c he:=by
  unfold zvy at he⊢;rw[wd4,beq_iff_eq]at he;rw[h.t a b c he.1,he.2]
def zh1(E:Nat->Nat->Bool)(s:Arr 4 Int)(b:Nat):v7:=((cls E b:Int),zev s b,())
theorem kq_iff{x y:v7}:J0 x y=true↔x=y:=by
 obtain⟨a,b,c⟩:=x;obtain⟨a',b',c'⟩:=y;simp[J0,zrw]
theorem jg0{E:Nat->Nat->Bool}(h:Eqv E){s:Arr 4 Int}{k r:Nat}(hk:k<256)(hr:r<256):J0 (zh1 E s k) (zh1 E s r)=zvy E s r k:=by
 rw[Bool.eq_iff_iff,kq_iff];unfold zvy zh1;rw[wd4,beq_iff_eq];constructor
 ·intro e;have e1:(cls E k:Int)=cls E r:=congrArg (·.1) e;have e2:zev s k=zev s r:=congrArg (·.2.1) e;exact⟨jf3 h hr hk (by omega),e2.symm⟩
 ·rintro⟨e1,e2⟩;rw[z6p h e1,e2]
theorem zqw{E:Nat->Nat->Bool}:∀{k a:Nat},a∈qf E k->a<k
 |0,a,ha=>by cases ha
 |k+1,a,ha=>by
  unfold qf at ha;split at ha
  ·have:=zqw ha;omega
  ·rcases wd7.1 ha with h1|h1
   ·have:=zqw h1;omega
   ·rw[wd5.1 h1];omega
theorem jex{E:Nat->Nat->Bool}(h:Eqv E)(a:Arr 256 Int)(hc:ClsAt E a 256)(s:Arr 4 Int)(hs:zbm s):Tn (λnn=>Qq nn a s) (λr=>ClsAt (zvy E s) r 256):=by
 obtain⟨F,hF⟩:∃F,zvy E s=F:=⟨_,rfl⟩
 have hq:Eqv F:=hF▸jau h s;have hkq:∀k r:Nat,k<256->r<256->J0 (zh1 E s k) (zh1 E s r)=F r k:=λk r hk hr=>hF▸jg0 h hk hr;rw[hF];unfold Qq;refine Tt.loop (λj t=>∃(k:Nat)(a':Arr 256 Int),k<=256/\j=256-k/\t=((k:Int),a',s,⟨List.replicate 256 0,wd2⟩,zj0 (zh1 E s) (qf F k) 0)/\ClsAt F a' k/\∀b,k<=b->b<256->a'.l[b]?=some (cls E b:Int)) 256 waa ⟨0,a,by omega,by omega,rfl,⟨λb hb=>by omega⟩,λb _ hb=>hc.c b hb⟩ λj t⟨k,a',hk,hj,ht,hi,hr⟩ nx hnx=>?_;subst ht;dsimp only;refine wab (λc=>?_) (λc=>Tt.pure ?_)
 rotate_left
 ·have hke:k=256:=by have:=wd0 c;omega
  subst hke;exact hi
 have c:=wdz c;have hlt:k<256:=by omega
 have hal:=a'.h;have hkl:k<a'.l.length:=by omega
 have hwu:wr .u8 (k:Int)=(k:Int):=Jp (by omega) (by omega);have hv:a'.l[k]=(cls E k:Int):=by
  have:=hr k (wed _) hlt;rw[wdy hkl]at this;exact wfj this
 refine wac _ (zh hlt) (wac _ (atN hkl) ?_);rw[hwu,hv];refine Tt.bind (Tt.call (jgl s hs k hlt) waa.fst) λr hr2=>?_;subst hr2;obtain⟨m,hm⟩:∃m,zj0 (zh1 E s) (qf F k) 0=m:=⟨_,rfl⟩
 have hml:m.length=(qf F k).length:=by rw[<- hm,z2b]
 have hrl:=Z5 F k;have hg:zr J0 m (zh1 E s k)=if(qf F k).any (F · k)then some ((0+(qf F k).findIdx (F · k):Nat):Int)else none:=by
  rw[<- hm];exact z3e λr hr=>hkq k r hlt (by have:=zqw hr;omega)
 obtain⟨s1,s2⟩:=ztq hq hlt;rw[hm];refine Tt.J (λt=>t=((k:Int),(k:Int),a',s,⟨List.replicate 256 0,wd2⟩,zj0 (zh1 E s) (qf F (k+1)) 0,zh1 E s k)/\zr J0 (zj0 (zh1 E s) (qf F (k+1)) 0) (zh1 E s k)=some (cls F k:Int)) (λny hny=>?_) λt⟨ht,hg2⟩=>?_
 ·refine wad ?_;show Tt _ (λi=>ifB (!(zr J0 m (zh1 E s k)).isSome) _ _) _;cases ha:(qf F k).any (F · k)with
  |true=>
   obtain⟨e1,e2⟩:=s1 ha;rw[ha,if_pos rfl,we3,<- e2]at hg;rw[hg];refine waf rfl (hny _ ⟨?_,?_⟩)
   ·rw[e1,hm];rfl
   ·rw[e1,hm];exact hg
  |false=>
   obtain⟨e1,e2⟩:=s2 ha;rw[ha,if_neg (by simp)]at hg;have hput:Zi J0 m (zh1 E s k) (wr .u8 (m.length:Int))=zj0 (zh1 E s) (qf F (k+1)) 0:=by
    have hw:wr .u8 (m.length:Int)=(m.length:Int):=Jp (by omega) (by omega);rw[hw,zkc hg,e1,z2w,hm,we3,hml]
   have hget:zr J0 (zj0 (zh1 E s) (qf F (k+1)) 0) (zh1 E s k)=some (cls F k:Int):=by
    have hw:wr .u8 (m.length:Int)=(m.length:Int):=Jp (by omega) (by omega);rw[<- hput,zik (z7v _),hw,hml,e2]
   rw[hg];refine wan rfl (wad (wad (hny _ ⟨?_,hget⟩)));rw[<- hput];rfl
 ·subst ht;dsimp only;rw[hg2];obtain⟨a2,e1,e2⟩:=zq1 a' hlt (cls F k:Int);refine wad (wac _ (zh hlt) (wac _ e1 (wad ?_)));rw[wI (by omega) (by omega)];refine hnx (256-(k+1)) _ (by omega) ⟨k+1,a2,by omega,rfl,rfl,hi.set hlt e2 rfl,λb hb hb2=>?_⟩;rw[e2,wgy (by omega)];exact hr b (by omega) hb2
theorem zue{E:Nat->Nat->Bool}(h:Eqv E):∀{k:Nat},k<=256->∀{j r:Nat},(qf E k)[j]?=some r->cls E r=j
 |0,_,j,r,hr=>by simp[qf]at hr
 |k+1,hk,j,r,hr=>by
  obtain⟨s1,s2⟩:=ztq h (show k<256 by omega);cases ha:(qf E k).any (E · k)with
  |true=>
   rw[(s1 ha).1]at hr;exact zue h (by omega) hr
  |false=>
   obtain⟨e1,e2⟩:=s2 ha;rw[e1]at hr;by_cases hj:j<(qf E k).length
   ·rw[wd8 hj]at hr;exact zue h (by omega) hr
   ·rw[wea (by omega)]at hr;have h0:=(wd1.1 hr).1;have hj0:j-(qf E k).length=0:=by simp at h0;omega
    rw[hj0]at hr;simp at hr;rw[<- hr,e2];omega
theorem jby{E:Nat->Nat->Bool}(h:Eqv E){b:Nat}(hb:b<256):cls E b<(qf E 256).length:=by
 obtain⟨x,h1,h2⟩:=zfa h hb;exact wgb ⟨x,h1,h2⟩
theorem zqu{E:Nat->Nat->Bool}(h:Eqv E){a:Arr 256 Int}(hc:ClsAt E a 256):ClsN a (qf E 256).length:=by
 have hal:=a.h;refine⟨by have:=jby h (show 0<256 by omega);omega,Z5 E 256,λb x hx=>?_,λj hj=>?_⟩
 ·have hb:b<256:=by have:=(wd1.1 hx).1;omega
  rw[hc.c b hb]at hx;exact⟨cls E b,jby h hb,(wfj hx).symm⟩
 ·have hr:(qf E 256)[j]?=some (qf E 256)[j]:=wdy hj;refine⟨(qf E 256)[j],?_⟩;rw[hc.c _ (zqw (wec hj)),zue h (wed _) hr]
theorem jge(b:Nat):cls (Ve []) b=0:=by
 have h:qf (Ve []) 256=0::(qf (Ve []) 256).tail:=by
  obtain⟨t,ht⟩:=ztc (E:=Ve []) 1 255;have h1:qf (Ve []) 1=[0]:=by simp[qf]
  rw[h1]at ht;rw[show(1:Nat)+255=256 from rfl]at ht;rw[ht];rfl
 unfold cls;rw[h,List.findIdx_cons];simp[Ve]
theorem z9f{l:List (Arr 4 Int)}{k:Nat}(hlt:k<l.length):zvy (Ve (l.take k)) l[k]=Ve (l.take (k+1)):=by
 funext a b;unfold zvy Ve;rw[web hlt,Bool.eq_iff_iff];simp only[we8,wel,wfb,wd4,wej,beq_iff_eq];constructor
 ·rintro⟨h1,h2⟩;rw[h1,h2]
 ·intro h;have h3:=List.append_inj h (by simp);exact⟨h3.1,by simpa using h3.2⟩
theorem kOf_ex(l:List (Arr 4 Int))(hl:l.length<=1000000)(hs:∀s∈l,zbm s):Tn (λnn=>zic nn l) (λr=>r.2.1=((qf (Ve l) 256).length:Int)/\ClsAt (Ve l) r.1 256):=by
 unfold zic;refine Tt.loop (λj t=>∃(k:Nat)(a:Arr 256 Int),k<=l.length/\j=l.length-k/\t=(l,(l.length:Int),(k:Int),⟨List.replicate 256 0,wd2⟩,a)/\ClsAt (Ve (l.take k)) a 256) l.length waa ⟨0,_,by omega,by omega,rfl,⟨λb hb=>?_⟩⟩ λj t⟨k,a,hk,hj,ht,hc⟩ nx hnx=>?_
 ·rw[List.take_zero,jge];show(List.replicate 256 (0:Int))[b]?=some _;rw[wf6,if_pos hb];rfl
 subst ht;dsimp only;refine wab (λc=>?_) (λc=>?_)
 ·have c:=wdz c;have hlt:k<l.length:=by omega
  refine wac _ (atN hlt) (Tt.bind (Tt.call (jex (zc5 _) a hc _ (hs _ (wec hlt))) waa.fst) λa2 h2=>wad ?_);rw[wI (by omega) (by omega)];rw[z9f hlt]at h2;exact hnx (l.length-(k+1)) _ (by omega) ⟨k+1,_,by omega,rfl,rfl,h2⟩
 ·have hke:k=l.length:=by have:=wd0 c;omega
  rw[hke,wen]at hc;exact Tt.bind (Tt.call (z88 a (zqu (zc5 l) hc)) waa.fst) λw hw=>Tt.pure ⟨hw,hc⟩
theorem Of_one{E:Nat->Nat->Bool}{n:Int}{x y:Arr 256 Int×Int×Unit}(hx:x.2.1=n/\ClsAt E x.1 256)(hy:y.2.1=n/\ClsAt E y.1 256):x=y:=by
 obtain⟨⟨a,ha⟩,w,u⟩:=x;obtain⟨⟨b,hb⟩,v,u'⟩:=y;obtain⟨rfl,h1⟩:=hx;obtain⟨h3,h2⟩:=hy;dsimp only at h3;subst h3;have:a=b:=by
  apply wfi;intro i;by_cases hi:i<256
  ·exact(h1.c i hi).trans (h2.c i hi).symm
  ·rw[wfe (by omega),wfe (by omega)]
 subst this;rfl
def Jg(fd:List (List Int))(x:List Int):Int×List (List Int):=if x=[]then(-1,fd)else if zag fd x 0<0 then((fd.length:Int),fd++[x])else(zag fd x 0,fd)
theorem zha(fd:List (List Int))(x:List Int):fd.length<=(Jg fd x).2.length/\(Jg fd x).2.length<=fd.length+1:=by
 unfold Jg;split
 ·exact⟨wed _,Nat.le_succ _⟩
 ·split
  ·simp
  ·exact⟨wed _,Nat.le_succ _⟩
def zlc(sp:Nat->List Int):List Nat->List (List Int)->List Int->List (List Int)×List Int
 |[],fd,row=>(fd,row)
 |c::cs,fd,row=>zlc sp cs (Jg fd (sp c)).2 (row++[(Jg fd (sp c)).1])
def zi2(sp:Nat->List Int)(most:Int):List Nat->List (List Int)->List Int->Option (List (List Int)×List Int)
 |[],fd,row=>some (fd,row)
 |c::cs,fd,row=>if most<((Jg fd (sp c)).2.length:Int)then none else zi2 sp most cs (Jg fd (sp c)).2 (row++[(Jg fd (sp c)).1])
theorem zh0(sp:Nat->List Int):∀(cs:List Nat)(fd:List (List Int))(row:List Int),fd.length<=(zlc sp cs fd row).1.length
 |[],_,_=>wed _
 |c::cs,fd,row=>wfc (zha fd (sp c)).1 (zh0 sp cs _ _)
theorem zlp(sp:Nat->List Int)(most:Int):∀(cs:List Nat)(fd:List (List Int))(row:List Int),(fd.length:Int)<=most->zi2 sp most cs fd row=if((zlc sp cs fd row).1.length:Int)<=most then some (zlc sp cs fd row)else none
 |[],fd,row,h=>by
  show some (fd,row)=if(fd.length:Int)<=most then some (fd,row)else none
  rw[if_pos h]
 |c::cs,fd,row,h=>by
  have hl:=zh0 sp cs (Jg fd (sp c)).2 (row++[(Jg fd (sp c)).1]);show(if most<((Jg fd (sp c)).2.length:Int)then none else zi2 sp most cs (Jg fd (sp c)).2 (row++[(Jg fd (sp c)).1]))=if((zlc sp cs (Jg fd (sp c)).2 (row++[(Jg fd (sp c)).1])).1.length:Int)<=most then some (zlc sp cs (Jg fd (sp c)).2 (row++[(Jg fd (sp c)).1]))else none
  by_cases hc:most<((Jg fd (sp c)).2.length:Int)
  ·rw[if_pos hc,if_neg (by omega)]
  ·rw[if_neg hc];exact zlp sp most cs _ _ (by omega)
def zc8(start:Nat->List Int)(step:List Int->Nat->List Int)(fd:List (List Int))(at':Nat)(c:Nat):List Int:=if at'=0 then start c else step (fd.getD at' []) c
def ztj(start:Nat->List Int)(step:List Int->Nat->List Int)(tok:List Int->Int)(W:Nat)(most:Int):Nat->Nat->List (List Int)->List (List Int)->List Int->Option (Option (List (List Int)×List (List Int)×List Int))
 |0,_,_,_,_=>none
 |f+1,i,fd,rows,labs=>if i<fd.length then
   match zi2 (zc8 start step fd i) most (List.range W) fd []with
   |none=>some none
   |some (fd',row)=>ztj start step tok W most f (i+1) fd' (rows++[row]) (labs++[tok (fd.getD i [])])
  else some (some (fd,rows,labs))
theorem zem{start:Nat->List Int}{step:List Int->Nat->List Int}{tok:List Int->Int}{W:Nat}{most:Int}:∀{f i:Nat}{fd rows:List (List Int)}{labs:List Int}{r:List (List Int)×List (List Int)×List Int},(fd.length:Int)<=most->ztj start step tok W most f i fd rows labs=some (some r)->fd.length<=r.1.length/\(r.1.length:Int)<=most
 |0,_,_,_,_,_,_,h=>by cases h
 |f+1,i,fd,rows,labs,r,hm,h=>by
  unfold ztj at h;by_cases hi:i<fd.length
  ·rw[if_pos hi,zlp _ _ _ _ _ hm]at h;have hl:=zh0 (zc8 start step fd i) (List.range W) fd [];by_cases hc:((zlc (zc8 start step fd i) (List.range W) fd []).1.length:Int)<=most
   ·rw[if_pos hc]at h;obtain⟨h1,h2⟩:=zem hc h;exact⟨by omega,h2⟩
   ·rw[if_neg hc]at h;cases h
  ·rw[if_neg hi]at h;cases h;exact⟨wed _,hm⟩
theorem zt6{start:Nat->List Int}{step:List Int->Nat->List Int}{tok:List Int->Int}{W:Nat}{most most':Int}:∀{f i:Nat}{fd rows:List (List Int)}{labs:List Int}{r:List (List Int)×List (List Int)×List Int},(fd.length:Int)<=most->(fd.length:Int)<=most'->ztj start step tok W most f i fd rows labs=some (some r)->ztj start step tok W most' f i fd rows labs=if(r.1.length:Int)<=most' then some (some r)else some none
 |0,_,_,_,_,_,_,_,h=>by cases h
 |f+1,i,fd,rows,labs,r,hm,hm',h=>by
  have hlen:=zem hm h;unfold ztj at h⊢;by_cases hi:i<fd.length
  ·rw[if_pos hi,zlp _ _ _ _ _ hm]at h;rw[if_pos hi,zlp _ _ _ _ _ hm'];have hl:=zh0 (zc8 start step fd i) (List.range W) fd [];by_cases hc:((zlc (zc8 start step fd i) (List.range W) fd []).1.length:Int)<=most
   ·rw[if_pos hc]at h;have h2:=zem hc h;by_cases hc':((zlc (zc8 start step fd i) (List.range W) fd []).1.length:Int)<=most'
    ·rw[if_pos hc'];exact zt6 hc hc' h
    ·rw[if_neg hc',if_neg (by omega)]
   ·rw[if_neg hc]at h;cases h
  ·rw[if_neg hi]at h⊢;cases h;rw[if_pos hm']
theorem fb_ex(a:Arr 256 Int){n:Nat}(h:ClsN a n)(c:Nat)(hc:c<n):∃b:Nat,b<256/\Tn (λnn=>Jt nn a (c:Int)) (λr=>atL r 0=some (b:Int)):=by
 obtain⟨r,⟨N,h1⟩,b,h2,h3⟩:=z9c a h c hc;exact⟨b,h2,r,⟨N,h1⟩,h3⟩
open Classical in
noncomputable def zfd(a:Arr 256 Int)(c:Nat):Nat:=if h:∃b:Nat,b<256/\Tn (λnn=>Jt nn a (c:Int)) (λr=>atL r 0=some (b:Int))then h.choose else 0
theorem zqy(a:Arr 256 Int)(c:Nat):zfd a c<256:=by
 unfold zfd;split
 ·rename_i h;exact h.choose_spec.1
 ·omega
theorem z7l(a:Arr 256 Int){n:Nat}(h:ClsN a n)(c:Nat)(hc:c<n):Tn (λnn=>Jt nn a (c:Int)) (λr=>atL r 0=some (zfd a c:Int)):=by
 have h1:=fb_ex a h c hc;unfold zfd;rw[dif_pos h1];exact h1.choose_spec.2
theorem z39(a:Arr 256 Int){n:Nat}(h:ClsN a n)(c:Nat)(hc:c<n):Tn (λnn=>za7 nn a (c:Int)) (λr=>atL r 0=some (zfd a c:Int)):=z7l a h c hc
noncomputable def spN(n:je)(a:Arr 256 Int)(fd:List (List Int))(i c:Nat):List Int:=zc8 (λc=>zak n (zfd a c)) (λl c=>ze0 n l (zfd a c)) fd i c
theorem zw5(n:je)(b:Nat):RN n.1.length (zak n b):=by
 unfold zak;split
 ·rename_i h;exact h.fi.sub List.filter_sublist
 ·exact RN.nil _
theorem z0q(n:je)(l:List Int)(b:Nat):RN n.1.length (ze0 n l b):=by
 unfold ze0;split
 ·have hRN:RN n.1.length (zyu n.1.length (zqk n l)):=⟨zsc,λx h=>⟨(ze7.1 h).1,(ze7.1 h).2.1⟩⟩
  exact hRN.sub List.filter_sublist
 ·exact RN.nil _
theorem jc1(n:je)(a:Arr 256 Int)(fd:List (List Int))(i c:Nat):RN n.1.length (spN n a fd i c):=by
 unfold spN zc8;split
 ·exact zw5 _ _
 ·exact z0q _ _ _
def zi4(a:Arr 256 Int)(W:Int):Option (Option (List (List Int)×List (List Int)×List Int))->D_api_Dfa×Int×Int×Unit
 |some (some (fd,rows,labs))=>((a,W,rows,labs,()),(fd.length:Int),0,())
 |_=>((⟨List.replicate 256 0,wd2⟩,0,[],[],()),0,16,())
noncomputable def zb0(n:je)(a:Arr 256 Int)(W:Nat)(z:Int):=ztj (λc=>zak n (zfd a c)) (λl c=>ze0 n l (zfd a c)) (zi9 n) W z
theorem z6z{x:List Int}:∀{l:List (List Int)}{i:Nat},zag l x i<(i+l.length:Int)/\(zag l x i=-1\/(i:Int)<=zag l x i)
 |[],i=>⟨by simp[zag];omega,.inl rfl⟩
 |y::l,i=>by
  have:=z6z (x:=x) (l:=l) (i:=i+1);show(if y=x then(i:Int)else zag l x (i+1))<_/\_;have e:zag (y::l) x i=if y=x then(i:Int)else zag l x (i+1):=rfl
  rw[e];split
  ·exact⟨by simp;omega,.inr (by omega)⟩
  ·obtain⟨h1,h2⟩:=this;refine⟨by simp;omega,?_⟩;rcases h2 with h2|h2
   ·exact .inl h2
   ·exact .inr (by omega)
theorem z1t(fd:List (List Int))(x:List Int):∃t,(Jg fd x).2=fd++t:=by
 unfold Jg;split
 ·exact⟨[],by simp⟩
 ·split
  ·exact⟨[x],rfl⟩
  ·exact⟨[],by simp⟩
theorem z2g{fd:List (List Int)}{x y:List Int}(h:y∈(Jg fd x).2):y∈fd\/y=x:=by
 unfold Jg at h;split at h
 ·exact .inl h
 ·split at h
  ·rcases wd7.1 h with h|h
   ·exact .inl h
   ·exact .inr (wd5.1 h)
  ·exact .inl h
theorem zws(n:je){N:Nat}(hN:N<=1000)(hz:zgt N 60000 n)(hs:∀s∈n.1,zbm s)(hR:zzt n)(z:Int)(h1:1<=z)(h2:z<=200):Tn (λnn=>Yv nn n z) (λr=>∃a:Arr 256 Int,ClsAt (Ve n.1) a 256/\r=zi4 a ((qf (Ve n.1) 256).length:Int) (zb0 n a (qf (Ve n.1) 256).length z 202 0 [[]] [] [])):=by
 have z1:=hz.s;unfold Yv;refine Tt.bind (Tt.call (Zk n hN hz) waa) λb hb=>?_;have hb:=hb.2 hR;subst hb;refine waf rfl ?_;refine Tt.J (λs=>s=(z,false,n,⟨List.replicate 256 0,wd2⟩,0,[],[])) (λnx hnx=>?_) λs hs2=>?_
 ·refine wad (waf (wem (by omega)) (hnx _ ?_));rw[wem (by omega)]
 subst hs2;dsimp only;refine waf rfl ?_;refine Tt.bind (Tt.call (jb1 n.1 (by omega) hs) waa) λcw⟨hw,hc⟩=>?_;obtain⟨a,w,u⟩:=cw;dsimp only at hw hc;obtain⟨W,hW⟩:∃W,(qf (Ve n.1) 256).length=W:=⟨_,rfl⟩
 have hW2:W<=256:=by rw[<- hW];exact Z5 _ _
 have hcn:ClsN a W:=hW▸zqu (zc5 n.1) hc;rw[hW]at hw⊢;subst hw;obtain⟨R,hRR⟩:∃R,zb0 n a W z 202 0 [[]] [] []=R:=⟨_,rfl⟩
 refine Tt.mono (Q:=λr=>r=zi4 a (W:Int) R) ?_ λr hr=>⟨a,hc,by rw[hRR];exact hr⟩
 refine Tt.loop (λm s=>∃(i:Nat)(fd rows:List (List Int))(labs:List Int),m=202-i/\s=(z,(i:Int),n,⟨List.replicate 256 0,wd2⟩,0,a,(W:Int),fd,[],[],rows,labs)/\i<=fd.length/\(fd.length:Int)<=z/\rows.length=i/\labs.length=i/\(∀x∈fd,RN n.1.length x)/\R=zb0 n a W z (202-i) i fd rows labs) 202 waa ⟨0,_,_,_,rfl,rfl,by omega,by simp;omega,rfl,rfl,λx hx=>by rw[wd5.1 hx];exact RN.nil _,hRR.symm⟩ λm s⟨i,fd,rows,labs,hm,hs2,hi,hl,hr,hb,hf,hB⟩ nx hnx=>?_;subst hs2;dsimp only;have hBs:zb0 n a W z (202-i) i fd rows labs=if i<fd.length then(match zi2 (spN n a fd i) z (List.range W) fd []with
   |none=>some none
   |some (fd',row)=>zb0 n a W z (202-(i+1)) (i+1) fd' (rows++[row]) (labs++[zi9 n (fd.getD i [])]))else some (some (fd,rows,labs)):=by
  rw[show 202-i=(202-(i+1))+1 by omega];rfl
 refine wab (λc=>?_) (λc=>Tt.pure ?_)
 rotate_left
 ·have c:=wd0 c;rw[hB,hBs,if_neg (by omega)];rfl
 have c:=wdz c;have hif:i<fd.length:=by omega
 rw[if_pos hif]at hBs;refine Tt.loop (λm s=>∃(k:Nat)(fe:List (List Int))(row:List Int),k<=W/\m=W-k/\s=(z,(i:Int),(k:Int),n,⟨List.replicate 256 0,wd2⟩,0,a,(W:Int),fe,row,[],[],rows,labs)/\i<fe.length/\(fe.length:Int)<=z/\row.length=k/\(∀x∈fe,RN n.1.length x)/\fe.getD i []=fd.getD i []/\zi2 (spN n a fd i) z (List.range W) fd []=zi2 (spN n a fd i) z ((List.range W).drop k) fe row) W waa.fst ⟨0,fd,[],by omega,by omega,rfl,hif,hl,rfl,hf,rfl,rfl⟩ λm2 s⟨k,fe,row,hk,hm2,hs2,hie,hle,hrk,hfe,hge,hrw⟩ ny hny=>?_;subst hs2;dsimp only;refine wab (λc=>?_) (λc=>?_)
 ·have c:=wdz c;have hkW:k<W:=by omega
  have hdr:(List.range W).drop k=k::(List.range W).drop (k+1):=by
   rw[wet (by simpa using hkW)];simp
  have hstep:zi2 (spN n a fd i) z ((List.range W).drop k) fe row=if z<((Jg fe (spN n a fd i k)).2.length:Int)then none else zi2 (spN n a fd i) z ((List.range W).drop (k+1)) (Jg fe (spN n a fd i k)).2 (row++[(Jg fe (spN n a fd i k)).1]):=by
   rw[hdr];rfl
  have hgi:fe.getD i []=fe[i]:=by simp[List.getD,hie]
  refine Tt.bind (Tt.call (z39 a hcn k hkW) waa.fst.fst) λbs hbs=>wac _ hbs (wac _ (zh hie) (wac _ (atN hie) ?_));have hxl:=(hfe _ (wec hie)).len;refine Tt.bind (Tt.call (z5d n hN hz hs fe[i] (by omega) (zfd a k) (zqy a k)) waa.fst.fst) λto hto=>?_;subst hto;refine Tt.J (λs=>s=(z,(i:Int),(k:Int),spN n a fd i k,n,⟨List.replicate 256 0,wd2⟩,0,a,(W:Int),fe,row,[],[],rows,labs)) (λnz hnz=>?_) λs hs2=>?_
  ·refine wab (λc=>?_) λc=>hnz _ ?_
   ·have c:=wdz c;have hi0:i=0:=by omega
    refine Tt.bind (Tt.call (z25 n hN hz hs (zfd a k) (zqy a k)) waa.fst.fst) λto hto=>hnz _ ?_;subst hto;unfold spN zc8;rw[if_pos hi0]
   ·have c:=wd0 c;unfold spN zc8;rw[if_neg (by omega),<- hge,hgi]
  subst hs2;dsimp only;obtain⟨to,hto⟩:∃to,spN n a fd i k=to:=⟨_,rfl⟩
  have htr:RN n.1.length to:=hto▸jc1 n a fd i k;have htl:=htr.len;rw[hto]at hstep⊢;refine Tt.bind (Tt.call (z09 fe to (by omega) (by omega) λy hy=>by have:=(hfe y hy).len;omega) waa.fst.fst) λq hq=>?_;subst hq;have hp:=zha fe to;obtain⟨tl,htl2⟩:=z1t fe to;refine Tt.J (λs=>s=(z,(i:Int),(k:Int),(Jg fe to).1,n,⟨List.replicate 256 0,wd2⟩,0,a,(W:Int),(Jg fe to).2,row,[],[],rows,labs)) (λnz hnz=>?_) λs hs2=>?_
  ·unfold Jg at hnz;refine wab (λc=>hnz _ ?_) λc=>?_
   ·have c:=wdz c;have:to=[]:=List.length_eq_zero_iff.1 (by omega);rw[if_pos this]
   ·have c:=wd0 c;have hne:to≠[]:=λh=>c (by rw[h];rfl);rw[if_neg hne]at hnz;refine wab (λc2=>wad ?_) λc2=>hnz _ ?_
    ·rw[if_pos (wdz c2)]at hnz;exact wac _ (Js (by simp;omega) (by omega)) (hnz _ rfl)
    ·rw[if_neg (wd0 c2)]
  subst hs2;dsimp only;refine wab (λc3=>Tt.pure ?_) λc3=>?_
  ·rw[hB,hBs,hrw,hstep,if_pos (wdz c3)];rfl
  ·have c3:=wd0 c3;rw[if_neg c3]at hstep;refine wac _ (Js (by simp;omega) (by omega)) (wad ?_);rw[wI (by omega) (by omega)];refine hny (W-(k+1)) _ (by omega) ⟨k+1,(Jg fe to).2,row++[(Jg fe to).1],by omega,rfl,rfl,by omega,by omega,by simp[hrk],λx hx=>?_,?_,hrw.trans hstep⟩
   ·rcases z2g hx with h|h
    ·exact hfe x h
    ·rw[h];exact htr
   ·rw[<- hge,htl2];simp only[wev];rw[wd8 hie]
 ·have c:=wd0 c;have hkW:k=W:=by omega
  have hdn:(List.range W).drop k=[]:=wgr (by simp;omega);rw[hdn]at hrw;have hrw:zi2 (spN n a fd i) z (List.range W) fd []=some (fe,row):=hrw;rw[hrw]at hBs;dsimp only at hBs;have hgi:fe.getD i []=fe[i]:=by simp[List.getD,hie]
  have hxl:=(hfe _ (wec hie)).len;refine wac _ (Js (by simp;omega) (by omega)) (wac _ (zh hie) (wac _ (atN hie) ?_));refine Tt.bind (Tt.call (z1n n hN hz fe[i] (by omega)) waa.fst.fst) λt ht=>?_;subst ht;refine wac _ (Js (by simp;omega) (by omega)) (wad ?_);rw[wI (by omega) (by omega)];exact Tt.fst (hnx (202-(i+1)) _ (by omega) ⟨i+1,fe,rows++[row],labs++[zi9 n fe[i]],rfl,rfl,by omega,hle,by simp[hr],by simp[hb],hfe,by rw[hB,hBs,<- hge,hgi]⟩)
def b8(x:Int)(i:Nat):Int:=wr .u8 ((wr .u64 x).fdiv (2 ^ (min (56-8*(i:Int)).toNat 64)))
def z5e(l:List Int):List Int:=l.flatMap λx=>(List.range 8).map (b8 x)
def zl1(l:List Int):List UInt8:=(z5e l).map λn=>UInt8.ofNat n.toNat
theorem z9q{l:List Int}{k:Nat}(hlt:k<l.length):z5e (l.take (k+1))=z5e (l.take k)++(List.range 8).map (b8 l[k]):=by
 unfold z5e;rw[web hlt,wfy];simp
theorem Key_ex(l:List Int)(hl:l.length<=1000):Tn (λnn=>za1 nn l) (λr=>r=zl1 l):=by
 unfold za1;refine Tt.loop (λj t=>∃(k:Nat)(out:List Int),k<=l.length/\j=l.length-k/\t=(l,(l.length:Int),(k:Int),out)/\out.length=8*k/\out=z5e (l.take k)) l.length waa ⟨0,_,by omega,by omega,rfl,by simp,rfl⟩ λj t⟨k,out,hk,hj,ht,ho,hv⟩ nx hnx=>?_;subst ht;dsimp only;refine wab (λc=>?_) (λc=>?_)
 ·have c:=wdz c;have hlt:k<l.length:=by omega
  refine wac _ (atN hlt) ?_;refine Tt.loop (λm t=>∃(i:Nat)(out:List Int),i<=8/\m=8-i/\t=(l[k],(56-8*i:Int),l,(l.length:Int),(k:Int),out)/\out.length=8*k+i/\out=z5e (l.take k)++(List.range i).map (b8 l[k])) 8 waa.fst ⟨0,_,by omega,by omega,rfl,by omega,by simp[hv]⟩ λm t⟨i,out,hi,hm,ht,ho,hv⟩ ny hny=>?_;subst ht;dsimp only;refine wab (λc=>?_) (λc=>?_)
  ·have c:=wdz c;refine wac _ (show zm2 .u64 (wr .u64 l[k]) (56-8*i:Int)=some ((wr .u64 l[k]).fdiv (2 ^ (min (56-8*(i:Int)).toNat 64))) by unfold zm2;rw[if_neg (by omega)];rfl) ?_;refine wac _ (Js (by simp;omega) (by omega)) (wad ?_);rw[wI (by omega) (by omega)];refine hny (8-(i+1)) _ (by omega) ⟨i+1,out++[b8 l[k] i],by omega,rfl,by show _=_;congr 2;omega,by simp;omega,?_⟩;rw[hv,List.range_succ,we8,wey];rfl
  ·have c:=wd0 c;have hi8:i=8:=by omega
   subst hi8;refine wad ?_;rw[wI (by omega) (by omega)];exact(hnx (l.length-(k+1)) _ (by omega) ⟨k+1,_,by omega,rfl,rfl,by omega,by rw[hv,z9q hlt]⟩).fst
 ·have c:=wd0 c;have hke:k=l.length:=by omega
  rw[hke,wen]at hv;exact wac _ rfl (Tt.pure (by rw[hv];rfl))
theorem je4:∀x:Fin 1000,(x.val:Int)=256*((UInt8.ofNat (b8 (x.val:Int) 6).toNat).toNat:Int)+((UInt8.ofNat (b8 (x.val:Int) 7).toNat).toNat:Int):=by decide +kernel
theorem zh5(x:Int)(l:List Int):zl1 (x::l)=((List.range 8).map λi=>UInt8.ofNat (b8 x i).toNat)++zl1 l:=by
 unfold zl1 z5e;rw[wex,we8,wfd];rfl
theorem z1i:∀{l m:List Int},(∀x∈l,0<=x/\x<1000)->(∀x∈m,0<=x/\x<1000)->zl1 l=zl1 m->l=m
 |[],[],_,_,_=>rfl
 |[],y::m,_,_,h=>by
  have:=congrArg List.length h;have h0:(zl1 ([]:List Int)).length=0:=rfl;rw[zh5,weg,weh,List.length_range]at this;omega
 |x::l,[],_,_,h=>by
  have:=congrArg List.length h;have h0:(zl1 ([]:List Int)).length=0:=rfl;rw[zh5,weg,weh,List.length_range]at this;omega
 |x::l,y::m,hl,hm,h=>by
  rw[zh5,zh5]at h;obtain⟨h1,h2⟩:=List.append_inj h (by simp);have hx:=hl x (by simp);have hy:=hm y (by simp);have g:∀i,i<8->UInt8.ofNat (b8 x i).toNat=UInt8.ofNat (b8 y i).toNat:=λi hi=>by
   have:=congrArg (λl=>l[i]?) h1;simpa [wd9,hi]using this
  have ex:=je4 ⟨x.toNat,by omega⟩;have ey:=je4 ⟨y.toNat,by omega⟩;dsimp only at ex ey;rw[show((x.toNat:Nat):Int)=x by omega]at ex;rw[show((y.toNat:Nat):Int)=y by omega]at ey;rw[g 6 (by omega),g 7 (by omega)]at ex;have e:x=y:=by omega
  rw[e,z1i (λz hz=>hl z (by simp[hz])) (λz hz=>hm z (by simp[hz])) h2]
theorem zlk{α β:Type}{eqb:α->α->Bool}{k k':α}{v:β}(he:∀x,eqb k' x=true->eqb k x=true->False):∀{m:List (α×β×Unit)},eqb k' k=false->zr eqb (Zi eqb m k v) k'=zr eqb m k'
 |[],h=>by
  unfold Zi zr;rw[h];rfl
 |e::r,h=>by
  unfold Zi;cases hc:eqb k e.1
  ·show zr eqb (e::Zi eqb r k v) k'=zr eqb (e::r) k';unfold zr;cases eqb k' e.1
   ·exact zlk he h
   ·rfl
  ·unfold zr;cases hk:eqb k' e.1
   ·dsimp only;rw[h]
   ·exact absurd hc (by intro h2;exact he _ hk h2)
theorem z3w{x y:List Int}:∀{l:List (List Int)}{i:Nat},zag (l++[x]) y i=if zag l y i<0 then(if x=y then((i+l.length:Nat):Int)else -1)else zag l y i
 |[],i=>by
  show(if x=y then(i:Int)else zag [] y (i+1))=if(-1:Int)<0 then(if x=y then((i+0:Nat):Int)else -1)else -1
  rw[if_pos (show(-1:Int)<0 by decide)];rfl
 |z::l,i=>by
  show(if z=y then(i:Int)else zag (l++[x]) y (i+1))=if(if z=y then(i:Int)else zag l y (i+1))<0 then(if x=y then((i+(l.length+1):Nat):Int)else -1)else(if z=y then(i:Int)else zag l y (i+1))
  by_cases h:z=y
  ·simp only[if_pos h];rw[if_neg (by omega)]
  ·simp only[if_neg h];rw[z3w (l:=l) (i:=i+1),show i+1+l.length=i+(l.length+1) by omega]
structure WhOk(N:Nat)(wh:Wh)(all:List (List Int)):Prop where
 g:∀x,RN N x->x≠[]->zr zj1 wh (zl1 x)=if zag all x 0<0 then none else some (zag all x 0)
theorem WhOk.nil(N:Nat):WhOk N [] [[]]:=⟨λx _ hx=>by
 have:zag [[]] x 0=-1:=by
  show(if([]:List Int)=x then((0:Nat):Int)else -1)=-1;rw[if_neg λh=>hx h.symm]
 rw[this,if_pos (by decide)];rfl⟩
theorem WhOk.add{N:Nat}{wh:Wh}{all:List (List Int)}(h:WhOk N wh all)(hN:N<=1000){x:List Int}(hx:RN N x)(hne:x≠[])(hf:zag all x 0<0):WhOk N (Zi zj1 wh (zl1 x) (all.length:Int)) (all++[x]):=⟨λy hy hyn=>by
 have hr:∀k:List UInt8,zj1 k k=true:=λk=>by simp[zj1]
 rw[z3w];by_cases e:x=y
 ·subst e;rw[if_pos hf,if_pos rfl,zik (hr _),if_neg (by omega),we3]
 ·have hk:zl1 y≠zl1 x:=λh2=>e (z1i (λz hz=>by have:=hx.b z hz;omega) (λz hz=>by have:=hy.b z hz;omega) h2.symm);have hkf:zj1 (zl1 y) (zl1 x)=false:=by simpa [zj1]using hk
  rw[zlk (λz h1 h2=>hk (by simp[zj1]at h1 h2;rw[h1,h2])) hkf,h.g y hy hyn];by_cases c:zag all y 0<0
  ·rw[if_pos c,if_pos c,if_neg e,if_pos (by decide)]
  ·rw[if_neg c,if_neg c,if_neg c]⟩
def DBX(n:je)(Z a:Arr 256 Int)(M q w c:Nat)(next:List (List Int))(label:List Int)(row0:List Int)(all0:List (List Int))(x:List Int)(s:DBS):Prop:=
 ∃(row:List Int)(all:List (List Int))(wh:Wh),s=((M:Int),(q:Int),(w:Int),(c:Int),n,Z,0,a,(w:Int),row,[],[],next,label,all,wh)/\row.length=w/\row.take (c+1)=row0.take c++[(Jg all0 x).1]/\all=(Jg all0 x).2/\WhOk n.1.length wh all
theorem jb0{ι:Type}{D:Fi ι}{φ:ι->Nat}{β:Type}{Q:β->Prop}(hφ:Big D φ){n:je}{Z a:Arr 256 Int}{M q w c:Nat}{next:List (List Int)}{label:List Int}(hM:M<=200)(hc:c<w)(hN:n.1.length<=1000){row:List Int}{all:List (List Int)}{wh:Wh}(hr:row.length=w)(h1:all.length<=M)(hwh:WhOk n.1.length wh all)(h2:q<all.length)(h3:∀x∈all,RN n.1.length x)
  {nx:ι->DBS->Option β}{x17:List Int}(hnx:Nx D Q (DBX n Z a M q w c next label row all x17) nx) (hx:RN n.1.length x17) :
  Tt D (λi=>ifB (decide ((x17.length:Int)=0)) (ja (vk row.length (c:Int)) λx18=>ja (zas row x18 (-1)) λx19=>nx i ((M:Int),(q:Int),(w:Int),(c:Int),n,Z,0,a,(w:Int),x19,[],[],next,label,all,wh)) (ja (za1 (φ i) x17) λx20=>ja (some (zr zj1 wh x20)) λx21=>J (λ(x22:Int×(List ((List UInt8)×Int×Unit))×(List (List Int)))=>ja (vk row.length (c:Int)) λx24=>ja (zas row x24 x22.1) λx25=>nx i ((M:Int),(q:Int),(w:Int),(c:Int),n,Z,0,a,(w:Int),x25,[],[],next,label,x22.2.2,x22.2.1)) λx23=>ifB (!x21.isSome) (ja (some (all.length:Int)) λx26=>ja (some (Zi zj1 wh x20 x26)) λx27=>ja (apO 24 all [x17]) λx28=>x23 (x26,x27,x28)) (x23 (gD 0 x21,wh,all)))) Q:=by
 have hxl:=hx.len;have hp:=zha all x17;have htk:∀v:Int,(row.set c v).take (c+1)=row.take c++[v]:=λv=>by
  have hcl:c<(row.set c v).length:=by simp;omega
  rw[web hcl,List.take_set_of_le (wed c)];simp
 refine wab (λc0=>wac _ (zh (by omega)) (wac _ (zit _ (by omega)) (hnx _ ⟨_,_,_,rfl,by simp[hr],?_,?_,hwh⟩))) λc0=>?_
 ·have c0:=wdz c0;have e:x17=[]:=List.length_eq_zero_iff.1 (by omega);rw[htk];unfold Jg;rw[if_pos e]
 ·have c0:=wdz c0;have e:x17=[]:=List.length_eq_zero_iff.1 (by omega);unfold Jg;rw[if_pos e]
 have c0:=wd0 c0;have hne:x17≠[]:=λh=>c0 (by rw[h];rfl);refine Tt.bind (Tt.call (Key_ex _ (by omega)) hφ) λkey hkey=>wad ?_;subst hkey;have hg:=hwh.g x17 hx hne;refine Tt.J (λs=>∃(wh:Wh),s=((Jg all x17).1,wh,(Jg all x17).2)/\WhOk n.1.length wh (Jg all x17).2) (λny hny=>?_) λs⟨wh,hs,hw⟩=>?_
 ·rw[hg];unfold Jg at hny;rw[if_neg hne]at hny;by_cases hf:zag all x17 0<0
  ·rw[if_pos hf]at hny⊢;exact wan rfl (wad (wad (wac _ (Js (by simp;omega) (by omega)) (hny _ ⟨_,rfl,hwh.add hN hx hne hf⟩))))
  ·rw[if_neg hf]at hny⊢;exact waf rfl (hny _ ⟨_,rfl,hwh⟩)
 ·subst hs;exact wac _ (zh (by omega)) (wac _ (zit _ (by omega)) (hnx _ ⟨_,_,_,rfl,by simp[hr],htk _,rfl,hw⟩))
theorem z9x(n:je){N:Nat}(hN:N<=1000)(hz:zgt N 60000 n)(hs:∀s∈n.1,zbm s)(hR:zzt n)(z:Int)(hz1:1<=z)(hzz:z<=200):Tn (λnn=>Zb nn n z) (λr=>∃a:Arr 256 Int,ClsAt (Ve n.1) a 256/\r=zi4 a ((qf (Ve n.1) 256).length:Int) (zb0 n a (qf (Ve n.1) 256).length z 202 0 [[]] [] [])):=by
 have z1:=hz.s;unfold Zb;refine Tt.bind (Tt.call (zh7 n hN hz) waa) λr hr=>?_;have hr:=hr.2 hR;subst hr;refine waf rfl ?_;refine Tt.J (λs=>s=(z,false,n,⟨List.replicate 256 0,wd2⟩,0,[],[])) (λnx hnx=>?_) λs hs2=>?_
 ·refine wad (waf (wem (by omega)) (hnx _ ?_));rw[wem (by omega)]
 subst hs2;dsimp only;refine waf rfl ?_;obtain⟨M,rfl⟩:∃M:Nat,z=(M:Int):=⟨z.toNat,by omega⟩
 refine Tt.bind (Tt.call (kOf_ex n.1 (by omega) hs) waa) λqq⟨hw,hc⟩=>?_;obtain⟨a,w',u⟩:=qq;dsimp only at hw hc;obtain⟨w,hW⟩:∃w,(qf (Ve n.1) 256).length=w:=⟨_,rfl⟩
 have hw2:w<=256:=by rw[<- hW];exact Z5 _ _
 have hcn:ClsN a w:=hW▸zqu (zc5 n.1) hc;rw[hW]at hw⊢;subst hw;obtain⟨R,hRR⟩:∃R,zb0 n a w (M:Int) 202 0 [[]] [] []=R:=⟨_,rfl⟩
 refine Tt.mono (Q:=λr=>r=zi4 a (w:Int) R) ?_ λr hr=>⟨a,hc,by rw[hRR];exact hr⟩
 have hout:zi4 a (w:Int) (some none)=((⟨List.replicate 256 0,wd2⟩,0,[],[],()),0,16,()):=rfl;generalize (⟨List.replicate 256 0,wd2⟩:Arr 256 Int)=Z at hout⊢;refine Tt.loop (λm s=>∃(q:Nat)(next:List (List Int))(label:List Int)(fd:List (List Int))(wh:Wh),m=202-q/\s=((M:Int),(q:Int),n,Z,0,a,(w:Int),[],[],next,label,fd,wh)/\q<=fd.length/\fd.length<=M/\next.length=q/\label.length=q/\(∀x∈fd,RN n.1.length x)/\WhOk n.1.length wh fd/\R=zb0 n a w (M:Int) (202-q) q fd next label) 202 waa ⟨0,_,_,_,_,rfl,rfl,by omega,by simp;omega,rfl,rfl,λx hx=>by rw[wd5.1 hx];exact RN.nil _,WhOk.nil _,hRR.symm⟩ λm s⟨q,next,label,fd,wh,hm,hs2,hi,hl,i3,i4,hf,hwh,hB⟩ nx hnx=>?_;subst hs2;dsimp only;have hBs:zb0 n a w (M:Int) (202-q) q fd next label=if q<fd.length then(match zi2 (spN n a fd q) (M:Int) (List.range w) fd []with
   |none=>some none
   |some (fd',row)=>zb0 n a w (M:Int) (202-(q+1)) (q+1) fd' (next++[row]) (label++[zi9 n (fd.getD q [])]))else some (some (fd,next,label)):=by
  rw[show 202-q=(202-(q+1))+1 by omega];rfl
 refine wab (λc=>?_) (λc=>Tt.pure ?_)
 rotate_left
 ·have c:=wd0 c;rw[hB,hBs,if_neg (by omega)];rfl
 have c:=wdz c;have hif:q<fd.length:=by omega
 rw[if_pos hif]at hBs;refine wac _ (mkN (n:=w) (by omega) (by omega)) ?_;simp only[wd2];refine Tt.loop (λm s=>∃(c:Nat)(row:List Int)(all:List (List Int))(wh:Wh),m=w-c/\c<=w/\s=((M:Int),(q:Int),(w:Int),(c:Int),n,Z,0,a,(w:Int),row,[],[],next,label,all,wh)/\row.length=w/\all.length<=M/\q<all.length/\(∀x∈all,RN n.1.length x)/\WhOk n.1.length wh all/\all.getD q []=fd.getD q []/\zi2 (spN n a fd q) (M:Int) (List.range w) fd []=zi2 (spN n a fd q) (M:Int) ((List.range w).drop c) all (row.take c)) w waa.fst ⟨0,_,_,_,by omega,by omega,rfl,by simp,hl,hif,hf,hwh,rfl,rfl⟩ λm s⟨c,row,all,wh,hm,hc2,hs2,j1,j2,j3,j4,j5,j6,j7⟩ ny hny=>?_;subst hs2;dsimp only;refine wab (λc1=>?_) (λc1=>?_)
 ·have c1:=wdz c1;have hkW:c<w:=by omega
  have hdr:(List.range w).drop c=c::(List.range w).drop (c+1):=by
   rw[wet (by simpa using hkW)];simp
  have hstep:zi2 (spN n a fd q) (M:Int) ((List.range w).drop c) all (row.take c)=if(M:Int)<((Jg all (spN n a fd q c)).2.length:Int)then none else zi2 (spN n a fd q) (M:Int) ((List.range w).drop (c+1)) (Jg all (spN n a fd q c)).2 (row.take c++[(Jg all (spN n a fd q c)).1]):=by
   rw[hdr];rfl
  have hgi:all.getD q []=all[q]:=by simp[List.getD,j3]
  have hql:=(j4 _ (wec j3)).len;refine Tt.bind (Tt.call (z7l a hcn c hkW) waa.fst.fst) λbs hbs=>wac _ hbs ?_;refine Tt.J (DBX n Z a M q w c next label row all (spN n a fd q c)) (λnz hnz=>?_) λs⟨row2,zvo,wh2,hs2,k1,k2,k3,k4⟩=>?_
  ·refine wab (λc2=>?_) (λc2=>?_)
   ·have c2:=wdz c2;have hq0:q=0:=by omega
    have hsp:spN n a fd q c=zak n (zfd a c):=by unfold spN zc8;rw[if_pos hq0]
    refine Tt.J (DBX n Z a M q w c next label row all (spN n a fd q c)) (λnu hnu=>?_) λs⟨row2,zvo,wh2,hs2,k1,k2,k3,k4⟩=>?_
    ·refine Tt.bind (Tt.call (jdd n hN hz (zfd a c) (zqy a c)) waa.fst.fst) λr hr=>?_;subst hr;rw[hsp]at hnu;exact jb0 waa.fst.fst (by omega) hkW (by omega) j1 j2 j5 j3 j4 hnu (zw5 _ _)
    ·subst hs2;exact hnz _ ⟨_,_,_,rfl,k1,k2,k3,k4⟩
   ·have c2:=wd0 c2;have hsp:spN n a fd q c=ze0 n all[q] (zfd a c):=by unfold spN zc8;rw[if_neg (by omega),<- j6,hgi]
    refine Tt.J (DBX n Z a M q w c next label row all (spN n a fd q c)) (λnu hnu=>?_) λs⟨row2,zvo,wh2,hs2,k1,k2,k3,k4⟩=>?_
    ·refine wac _ (zh j3) (wac _ (atN j3) ?_);refine Tt.bind (Tt.call (jh4 n hN hz all[q] (by omega) (zfd a c) (zqy a c)) waa.fst.fst) λr hr=>?_;subst hr;rw[hsp]at hnu;exact jb0 waa.fst.fst (by omega) hkW (by omega) j1 j2 j5 j3 j4 hnu (z0q _ _ _)
    ·subst hs2;exact hnz _ ⟨_,_,_,rfl,k1,k2,k3,k4⟩
  ·subst hs2;dsimp only;have hxr:RN n.1.length (spN n a fd q c):=jc1 n a fd q c;generalize spN n a fd q c=x17 at hxr k2 k3 hstep;have hp:=zha all x17;obtain⟨tl,htl⟩:=z1t all x17;subst k3;refine wab (λc2=>Tt.pure ?_) λc2=>wad ?_
   ·rw[hB,hBs,j7,hstep,if_pos (wdz c2)];exact hout.symm
   have c2:=wd0 c2;rw[if_neg c2,<- k2]at hstep;rw[wI (by omega) (by omega)];refine hny (w-(c+1)) _ (by omega) ⟨c+1,_,_,_,rfl,by omega,rfl,k1,by omega,by omega,λx hx=>?_,k4,?_,j7.trans hstep⟩
   ·rcases z2g hx with h|h
    ·exact j4 x h
    ·rw[h];exact hxr
   ·rw[<- j6,htl];simp only[wev];rw[wd8 j3]
 ·have c1:=wd0 c1;have hcw:c=w:=by omega
  have hdn:(List.range w).drop c=[]:=wgr (by simp;omega);have htw:row.take c=row:=wfv (by omega);rw[hdn,htw]at j7;have j7:zi2 (spN n a fd q) (M:Int) (List.range w) fd []=some (all,row):=j7;rw[j7]at hBs;dsimp only at hBs;have hgi:all.getD q []=all[q]:=by simp[List.getD,j3]
  have hql:=(j4 _ (wec j3)).len;refine wac _ (Js (by simp;omega) (by omega)) (wac _ (zh j3) (wac _ (atN j3) ?_));refine Tt.bind (Tt.call (jaq n hN hz all[q] (by omega)) waa.fst.fst) λt ht=>?_;subst ht;refine wac _ (Js (by simp;omega) (by omega)) (wad ?_);rw[wI (by omega) (by omega)];exact(hnx (202-(q+1)) _ (by omega) ⟨q+1,next++[row],label++[zi9 n all[q]],all,wh,rfl,rfl,by omega,j2,by simp[i3],by simp[i4],j4,j5,by rw[hB,hBs,<- j6,hgi]⟩).fst
theorem ClsAt.one{E:Nat->Nat->Bool}{a b:Arr 256 Int}(ha:ClsAt E a 256)(hb:ClsAt E b 256):a=b:=
 congrArg (·.1) (Of_one (n:=0) (x:=(a,0,())) (y:=(b,0,())) ⟨rfl,ha⟩ ⟨rfl,hb⟩)
theorem z4l{n:je}{a:Arr 256 Int}{W:Nat}{z z':Int}{r:List (List Int)×List (List Int)×List Int}(h:1<=z)(h':1<=z')(e:zb0 n a W z 202 0 [[]] [] []=some (some r)):zb0 n a W z' 202 0 [[]] [] []=if(r.1.length:Int)<=z' then some (some r)else some none:=
 zt6 (by simpa using h) (by simpa using h') e
end Go.Proofs.YtdllbdlnmjngcaaGreat.T
namespace Go.Proofs.YtdllbdlnmjngcaaGreat
set_option maxRecDepth 100000
set_option maxHeartbeats 8000000
set_option linter.unusedVariables false
set_option linter.unusedSimpArgs false
inductive E where
 |set (s0 s1 s2 s3:Int)
 |empty
 |cat (a b:E)
 |alt (a b:E)
 |star (a:E)
 |plus (a:E)
 |opt (a:E)
def J5(k:Int):Rx:=⟨k,0,0,0,0⟩
def post:E->List Rx
 |.set s0 s1 s2 s3=>[⟨1,s0,s1,s2,s3⟩]
 |.empty=>[J5 2]
 |.cat a b=>post a++(post b++[J5 3])
 |.alt a b=>post a++(post b++[J5 4])
 |.star a=>post a++[J5 5]
 |.plus a=>post a++[J5 6]
 |.opt a=>post a++[J5 7]
theorem ze4(e:E):0<(post e).length:=by cases e<;>simp[post]<;>omega
def z8z(st:List E):List Rx:=(st.reverse).flatMap post
theorem z8(e:E)(st:List E):z8z (e::st)=z8z st++post e:=by simp[z8z]
theorem jfx(x:Rx)(h:x.bare=true):x=J5 x.kind:=by
 obtain⟨k,a,b,c,d⟩:=x;simp[Rx.bare,jct]at h;simp[J5,h]
theorem jec(l:List Rx):∀(st:List E),za0 l st.length=0->∃e,z8z st++l=post e:=by
 induction l with
 |nil=>
  intro st h;rw[za0]at h;split at h
  ·rename_i h1
   match st,h1 with
   |[e],_=>exact⟨e,by simp[z8z]⟩
   |[],h1=>simp at h1
   |_::_::_,h1=>simp at h1;omega
  ·omega
 |cons x r ih=>
  intro st h;rw[za0]at h;split at h
  ·omega
  ·rename_i h1;split at h
   ·omega
   ·rename_i h2;have hk:x.kind=1\/x.kind=2\/x.kind=3\/x.kind=4\/x.kind=5\/x.kind=6\/x.kind=7:=by
     have:¬ofK x.kind<0:=λh=>h1 (Or.inl h);unfold ofK at this;split at this
     ·omega
     ·split at this
      ·omega
      ·split at this<;>omega
    have hb:x.kind≠1->x=J5 x.kind:=λhne=>jfx x (by
     cases hbb:x.bare
     ·exact absurd (Or.inr ⟨hne,hbb⟩) h1
     ·rfl)
    rcases hk with hk|hk|hk|hk|hk|hk|hk
    ·have hx:x=⟨1,x.s0,x.s1,x.s2,x.s3⟩:=by rw[<- hk]
     have ho:ofK x.kind=0:=by rw[hk];rfl
     obtain⟨e,he⟩:=ih (.set x.s0 x.s1 x.s2 x.s3::st) (by rw[ho]at h;simpa using h);exact⟨e,by rw[<- he,z8,hx];simp[post]⟩
    ·have hx:=hb (by omega);rw[hk]at hx;have ho:ofK x.kind=0:=by rw[hk];rfl
     obtain⟨e,he⟩:=ih (.empty::st) (by rw[ho]at h;simpa using h);exact⟨e,by rw[<- he,z8,hx];simp[post]⟩
    ·have hx:=hb (by omega);rw[hk]at hx;have ho:ofK x.kind=2:=by rw[hk];rfl
     rw[ho]at h h2
     match st,h,h2 with
     |b::a::st,h,_=>
      obtain⟨e,he⟩:=ih (.cat a b::st) (by rw[<- h];congr 1;simp;omega);exact⟨e,by rw[<- he,z8,z8,z8,hx];simp[post]⟩
     |[],_,h2=>simp at h2
     |[_],_,h2=>simp at h2
    ·have hx:=hb (by omega);rw[hk]at hx;have ho:ofK x.kind=2:=by rw[hk];rfl
     rw[ho]at h h2
     match st,h,h2 with
     |b::a::st,h,_=>
      obtain⟨e,he⟩:=ih (.alt a b::st) (by rw[<- h];congr 1;simp;omega);exact⟨e,by rw[<- he,z8,z8,z8,hx];simp[post]⟩
     |[],_,h2=>simp at h2
     |[_],_,h2=>simp at h2
    ·have hx:=hb (by omega);rw[hk]at hx;have ho:ofK x.kind=1:=by rw[hk];rfl
     rw[ho]at h h2
     match st,h,h2 with
     |a::st,h,_=>
      obtain⟨e,he⟩:=ih (.star a::st) (by rw[<- h];congr 1;simp);exact⟨e,by rw[<- he,z8,z8,hx];simp[post]⟩
     |[],_,h2=>simp at h2
    ·have hx:=hb (by omega);rw[hk]at hx;have ho:ofK x.kind=1:=by rw[hk];rfl
     rw[ho]at h h2
     match st,h,h2 with
     |a::st,h,_=>
      obtain⟨e,he⟩:=ih (.plus a::st) (by rw[<- h];congr 1;simp);exact⟨e,by rw[<- he,z8,z8,hx];simp[post]⟩
     |[],_,h2=>simp at h2
    ·have hx:=hb (by omega);rw[hk]at hx;have ho:ofK x.kind=1:=by rw[hk];rfl
     rw[ho]at h h2
     match st,h,h2 with
     |a::st,h,_=>
      obtain⟨e,he⟩:=ih (.opt a::st) (by rw[<- h];congr 1;simp);exact⟨e,by rw[<- he,z8,z8,hx];simp[post]⟩
     |[],_,h2=>simp at h2
theorem jft(l:List Rx)(h:z5l l=0):l.length<=512/\∃e,l=post e:=by
 unfold z5l at h;split at h
 ·omega
 ·obtain⟨e,he⟩:=jec l [] h;exact⟨by omega,e,by simpa [z8z]using he⟩
def jn:E->Nat
 |.set ..=>1|.empty=>0|.cat a b=>jn a+jn b|.alt a b=>jn a+jn b|.star a=>jn a|.plus a=>jn a|.opt a=>jn a
def zw:E->Bool
 |.set ..=>false|.empty=>true|.cat a b=>zw a && zw b|.alt a b=>zw a ||zw b|.star _=>true|.plus a=>zw a|.opt _=>true
def qb:E->Int->List Int
 |.set ..,n=>[n]|.empty,_=>[]
 |.cat a b,n=>qb a n++(if zw a then qb b (n+jn a)else [])
 |.alt a b,n=>qb a n++qb b (n+jn a)
 |.star a,n=>qb a n|.plus a,n=>qb a n|.opt a,n=>qb a n
def qx:E->Int->List Int
 |.set ..,n=>[n]|.empty,_=>[]
 |.cat a b,n=>(if zw b then qx a n else [])++qx b (n+jn a)
 |.alt a b,n=>qx a n++qx b (n+jn a)
 |.star a,n=>qx a n|.plus a,n=>qx a n|.opt a,n=>qx a n
def Yp:E->Int->Int->Int->Prop
 |.set ..,_,_,_=>False|.empty,_,_,_=>False
 |.cat a b,n,i,j=>Yp a n i j\/Yp b (n+jn a) i j\/(i∈qx a n/\j∈qb b (n+jn a))
 |.alt a b,n,i,j=>Yp a n i j\/Yp b (n+jn a) i j
 |.star a,n,i,j=>Yp a n i j\/(i∈qx a n/\j∈qb a n)
 |.plus a,n,i,j=>Yp a n i j\/(i∈qx a n/\j∈qb a n)
 |.opt a,n,i,j=>Yp a n i j
def zht:E->List Rx
 |.set a b c d=>[⟨1,a,b,c,d⟩]|.empty=>[]|.cat a b=>zht a++zht b|.alt a b=>zht a++zht b|.star a=>zht a|.plus a=>zht a|.opt a=>zht a
theorem zwo(e:E):(zht e).length=jn e:=by
 induction e<;>simp_all [zht,jn]
theorem zl5(e:E):(post e).filter (λx=>x.kind == 1)=zht e:=by
 induction e<;>simp_all [zht,post,J5]
def zgn(l:List Int):Prop:=l.Pairwise (· < ·)
theorem zad{a b:List Int}{m:Int}(ha:zgn a)(hb:zgn b)(h1:∀x∈a,x<m)(h2:∀x∈b,m<=x):zgn (a++b):=by
 unfold zgn;rw[wgz];exact⟨ha,hb,λx hx y hy=>by have:=h1 x hx;have:=h2 y hy;omega⟩
theorem Qi(e:E):∀n:Int,zgn (qb e n)/\∀x∈qb e n,n<=x/\x<n+jn e:=by
 induction e with
 |set=>intro n;exact⟨by simp[qb,zgn],by simp[qb,jn];omega⟩
 |empty=>intro n;exact⟨by simp[qb,zgn],by simp[qb]⟩
 |cat a b iha ihb=>
  intro n;obtain⟨h1,h2⟩:=iha n;obtain⟨h3,h4⟩:=ihb (n+jn a);refine⟨?_,?_⟩
  ·simp only[qb];split
   ·exact zad h1 h3 (λx hx=>(h2 x hx).2) (λx hx=>(h4 x hx).1)
   ·simpa using h1
  ·intro x hx;simp only[qb,wd7]at hx;simp only[jn];rcases hx with hx|hx
   ·have:=h2 x hx;omega
   ·split at hx
    ·have:=h4 x hx;omega
    ·cases hx
 |alt a b iha ihb=>
  intro n;obtain⟨h1,h2⟩:=iha n;obtain⟨h3,h4⟩:=ihb (n+jn a);refine⟨zad h1 h3 (λx hx=>(h2 x hx).2) (λx hx=>(h4 x hx).1),?_⟩;intro x hx;simp only[qb,wd7]at hx;simp only[jn];rcases hx with hx|hx
  ·have:=h2 x hx;omega
  ·have:=h4 x hx;omega
 |star a ih=>exact ih
 |plus a ih=>exact ih
 |opt a ih=>exact ih
theorem Zl(e:E):∀n:Int,zgn (qx e n)/\∀x∈qx e n,n<=x/\x<n+jn e:=by
 induction e with
 |set=>intro n;exact⟨by simp[qx,zgn],by simp[qx,jn];omega⟩
 |empty=>intro n;exact⟨by simp[qx,zgn],by simp[qx]⟩
 |cat a b iha ihb=>
  intro n;obtain⟨h1,h2⟩:=iha n;obtain⟨h3,h4⟩:=ihb (n+jn a);refine⟨?_,?_⟩
  ·simp only[qx];split
   ·exact zad h1 h3 (λx hx=>(h2 x hx).2) (λx hx=>(h4 x hx).1)
   ·simpa using h3
  ·intro x hx;simp only[qx,wd7]at hx;simp only[jn];rcases hx with hx|hx
   ·split at hx
    ·have:=h2 x hx;omega
    ·cases hx
   ·have:=h4 x hx;omega
 |alt a b iha ihb=>
  intro n;obtain⟨h1,h2⟩:=iha n;obtain⟨h3,h4⟩:=ihb (n+jn a);refine⟨zad h1 h3 (λx hx=>(h2 x hx).2) (λx hx=>(h4 x hx).1),?_⟩;intro x hx;simp only[qx,wd7]at hx;simp only[jn];rcases hx with hx|hx
  ·have:=h2 x hx;omega
  ·have:=h4 x hx;omega
 |star a ih=>exact ih
 |plus a ih=>exact ih
 |opt a ih=>exact ih
theorem z4v(e:E):∀n i j:Int,Yp e n i j->(n<=i/\i<n+jn e)/\n<=j/\j<n+jn e:=by
 induction e with
 |set=>intro n i j h;exact h.elim
 |empty=>intro n i j h;exact h.elim
 |cat a b iha ihb=>
  intro n i j h;simp only[jn];rcases h with h|h|⟨h,h'⟩
  ·have:=iha n i j h;omega
  ·have:=ihb _ i j h;omega
  ·have:=(Zl a n).2 i h;have:=(Qi b _).2 j h';omega
 |alt a b iha ihb=>
  intro n i j h;simp only[jn];rcases h with h|h
  ·have:=iha n i j h;omega
  ·have:=ihb _ i j h;omega
 |star a ih=>
  intro n i j h;simp only[jn];rcases h with h|⟨h,h'⟩
  ·have:=ih n i j h;omega
  ·have:=(Zl a n).2 i h;have:=(Qi a n).2 j h';omega
 |plus a ih=>
  intro n i j h;simp only[jn];rcases h with h|⟨h,h'⟩
  ·have:=ih n i j h;omega
  ·have:=(Zl a n).2 i h;have:=(Qi a n).2 j h';omega
 |opt a ih=>exact ih
def AtT(l:List Rx)(s:Nat)(e:E)(t:Nat):Prop:=∃pre suf,l=pre++post e++suf/\s=pre.length/\t=s+(post e).length
def yo:E->Int|.set ..=>1|.empty=>2|.cat ..=>3|.alt ..=>4|.star _=>5|.plus _=>6|.opt _=>7
theorem wcg(e:E):AtT (post e) 0 e (post e).length:=⟨[],[],by simp,rfl,by simp⟩
theorem AtT.bound{l:List Rx}{s t:Nat}{e:E}(h:AtT l s e t):s<t/\t<=l.length:=by
 obtain⟨pre,suf,rfl,rfl,rfl⟩:=h;have:=ze4 e;simp;omega
theorem jaj(e:E):(post e).getLast?=some (match e with|.set a b c d=>⟨1,a,b,c,d⟩|e=>J5 (yo e)):=by
 cases e<;>simp[post,yo]
theorem AtT.kind{l:List Rx}{s t:Nat}{e:E}(h:AtT l s e t)(j:Nat)(hj:j<l.length)(hjt:j+1=t):l[j].kind=yo e:=by
 obtain⟨pre,suf,rfl,rfl,rfl⟩:=h;have hp:=ze4 e;have hl:=jaj e;rw[List.getLast?_eq_getElem?]at hl;have e1:(pre++post e++suf)[j]?=(post e)[(post e).length-1]?:=by
  rw[wey,wea (by omega),wd8 (by omega)];congr 1;omega
 rw[hl,wdy hj,we0]at e1;rw[e1];cases e<;>rfl
theorem AtT.cat{l:List Rx}{s t:Nat}{a b:E}(h:AtT l s (.cat a b) t):∃m,AtT l s a m/\AtT l m b (t-1)/\s<m/\m<t-1:=by
 obtain⟨pre,suf,rfl,rfl,rfl⟩:=h;have:=ze4 a;have:=ze4 b;refine⟨pre.length+(post a).length,⟨pre,post b++[J5 3]++suf,by simp[post],rfl,rfl⟩,⟨pre++post a,[J5 3]++suf,by simp[post],by simp,by simp[post];omega⟩,by omega,by simp[post];omega⟩
theorem AtT.alt{l:List Rx}{s t:Nat}{a b:E}(h:AtT l s (.alt a b) t):∃m,AtT l s a m/\AtT l m b (t-1)/\s<m/\m<t-1:=by
 obtain⟨pre,suf,rfl,rfl,rfl⟩:=h;have:=ze4 a;have:=ze4 b;refine⟨pre.length+(post a).length,⟨pre,post b++[J5 4]++suf,by simp[post],rfl,rfl⟩,⟨pre++post a,[J5 4]++suf,by simp[post],by simp,by simp[post];omega⟩,by omega,by simp[post];omega⟩
theorem AtT.star{l:List Rx}{s t:Nat}{a:E}(h:AtT l s (.star a) t):AtT l s a (t-1):=by
 obtain⟨pre,suf,rfl,rfl,rfl⟩:=h;exact⟨pre,[J5 5]++suf,by simp[post],rfl,by simp[post]⟩
theorem AtT.plus{l:List Rx}{s t:Nat}{a:E}(h:AtT l s (.plus a) t):AtT l s a (t-1):=by
 obtain⟨pre,suf,rfl,rfl,rfl⟩:=h;exact⟨pre,[J5 6]++suf,by simp[post],rfl,by simp[post]⟩
theorem AtT.opt{l:List Rx}{s t:Nat}{a:E}(h:AtT l s (.opt a) t):AtT l s a (t-1):=by
 obtain⟨pre,suf,rfl,rfl,rfl⟩:=h;exact⟨pre,[J5 7]++suf,by simp[post],rfl,by simp[post]⟩
def numL(l:List Rx)(i:Nat):Nat:=((l.take i).filter λx=>x.kind == 1).length
theorem jad(l:List Rx)(k:Nat)(h:k<l.length):numL l (k+1)=numL l k+if l[k].kind=1 then 1 else 0:=by
 unfold numL;rw[web h,wgt,weg];congr 1;by_cases hk:l[k].kind=1<;>simp[hk]
theorem z6f(l:List Rx)(k:Nat):numL l k<=k:=by
 unfold numL;exact wfc (wf0 _ _) (by rw[wff];omega)
theorem AtT.num{l:List Rx}{s t:Nat}{e:E}(h:AtT l s e t):numL l t=numL l s+jn e:=by
 obtain⟨pre,suf,rfl,rfl,rfl⟩:=h;unfold numL;rw[<- zwo,<- zl5,wey,List.take_left,<- wey,wg1 (by simp),wgt,weg]
def V8:E->Int->List (E×Int)
 |.set a b c d,n=>[(.set a b c d,n)]
 |.empty,n=>[(.empty,n)]
 |.cat a b,n=>V8 a n++(V8 b (n+jn a)++[(.cat a b,n)])
 |.alt a b,n=>V8 a n++(V8 b (n+jn a)++[(.alt a b,n)])
 |.star a,n=>V8 a n++[(.star a,n)]
 |.plus a,n=>V8 a n++[(.plus a,n)]
 |.opt a,n=>V8 a n++[(.opt a,n)]
theorem ym(e:E):∀n,(V8 e n).length=(post e).length:=by
 induction e<;>intro n<;>simp_all [V8,post]
def Yc:E->Int->Int->Int->Bool
 |.cat x y,n,i,j=>decide (i∈qx x n) && decide (j∈qb y (n+jn x))
 |.star x,n,i,j=>decide (i∈qx x n) && decide (j∈qb x n)
 |.plus x,n,i,j=>decide (i∈qx x n) && decide (j∈qb x n)
 |_,_,_,_=>false
def zdt(e:E)(n i j:Int):Bool:=(V8 e n).any λx=>Yc x.1 x.2 i j
theorem z96(a b:E)(n i j:Int):Yc (.cat a b) n i j=true↔(i∈qx a n/\j∈qb b (n+jn a)):=by simp[Yc]
theorem z6a(a:E)(n i j:Int):Yc (.star a) n i j=true↔(i∈qx a n/\j∈qb a n):=by simp[Yc]
theorem z59(a:E)(n i j:Int):Yc (.plus a) n i j=true↔(i∈qx a n/\j∈qb a n):=by simp[Yc]
theorem zhi{α:Type}(l:List α)(x:α)(p:α->Bool):(l++[x]).any p=true↔l.any p=true\/p x=true:=by simp
theorem z6u{α:Type}(l m:List α)(p:α->Bool):(l++m).any p=true↔l.any p=true\/m.any p=true:=by simp
theorem z1f(e:E):∀n i j,zdt e n i j=true↔Yp e n i j:=by
 induction e with
 |set=>intro n i j;simp[zdt,V8,Yc,Yp]
 |empty=>intro n i j;simp[zdt,V8,Yc,Yp]
 |cat a b iha ihb=>
  intro n i j;unfold zdt V8 Yp;rw[z6u,zhi,z96];exact or_congr (iha n i j) (or_congr (ihb _ i j) Iff.rfl)
 |alt a b iha ihb=>
  intro n i j;unfold zdt V8 Yp;rw[z6u,zhi];refine or_congr (iha n i j) ?_;rw[show Yc (E.alt a b) n i j=false from rfl,we6,or_false];exact ihb _ i j
 |star a iha=>
  intro n i j;unfold zdt V8 Yp;rw[zhi,z6a];exact or_congr (iha n i j) Iff.rfl
 |plus a iha=>
  intro n i j;unfold zdt V8 Yp;rw[zhi,z59];exact or_congr (iha n i j) Iff.rfl
 |opt a iha=>
  intro n i j;unfold zdt V8 Yp;rw[zhi,show Yc (E.opt a) n i j=false from rfl,we6,or_false];exact iha n i j
theorem jg8(l:List Rx)(e:E):∀(s t:Nat),AtT l s e t->∀(k:Nat)(x:E×Int),(V8 e (numL l s))[k]?=some x->∃s',AtT l s' x.1 (s+k+1)/\(numL l s':Int)=x.2:=by
 induction e with
 |set a b c d=>
  intro s t h k x hx;have h':=h;obtain⟨pre,suf,_,rfl,rfl⟩:=h'
  match k,hx with
  |0,hx=>simp[V8]at hx;subst hx;exact⟨_,by simpa [post]using h,rfl⟩
  |k+1,hx=>simp[V8]at hx
 |empty=>
  intro s t h k x hx;have h':=h;obtain⟨pre,suf,_,rfl,rfl⟩:=h'
  match k,hx with
  |0,hx=>simp[V8]at hx;subst hx;exact⟨_,by simpa [post]using h,rfl⟩
  |k+1,hx=>simp[V8]at hx
 |cat a b iha ihb=>
  intro s t h k x hx;obtain⟨m,ha,hb,hsm,hmt⟩:=h.cat;have hn:=ha.num;have la:(post a).length=m-s:=by obtain⟨_,_,_,rfl,rfl⟩:=ha;omega
  have lb:(post b).length=t-1-m:=by obtain⟨_,_,_,h1,h2⟩:=hb;omega
  simp only[V8]at hx;by_cases h1:k<(post a).length
  ·rw[wd8 (by rw[ym];exact h1)]at hx;exact iha s m ha k x hx
  ·rw[wea (by rw[ym];omega),ym]at hx;by_cases h2:k-(post a).length<(post b).length
   ·rw[wd8 (by rw[ym];exact h2)]at hx;obtain⟨s',h3,h4⟩:=ihb m (t-1) hb _ x (by rw[hn];simpa using hx);exact⟨s',by rw[show s+k+1=m+(k-(post a).length)+1 from by omega];exact h3,h4⟩
   ·rw[wea (by rw[ym];omega),ym]at hx
    match hk:k-(post a).length-(post b).length,hx with
    |0,hx=>simp at hx;subst hx;exact⟨s,by rw[show s+k+1=t from by omega];exact h,rfl⟩
    |q+1,hx=>simp at hx
 |alt a b iha ihb=>
  intro s t h k x hx;obtain⟨m,ha,hb,hsm,hmt⟩:=h.alt;have hn:=ha.num;have la:(post a).length=m-s:=by obtain⟨_,_,_,rfl,rfl⟩:=ha;omega
  have lb:(post b).length=t-1-m:=by obtain⟨_,_,_,h1,h2⟩:=hb;omega
  simp only[V8]at hx;by_cases h1:k<(post a).length
  ·rw[wd8 (by rw[ym];exact h1)]at hx;exact iha s m ha k x hx
  ·rw[wea (by rw[ym];omega),ym]at hx;by_cases h2:k-(post a).length<(post b).length
   ·rw[wd8 (by rw[ym];exact h2)]at hx;obtain⟨s',h3,h4⟩:=ihb m (t-1) hb _ x (by rw[hn];simpa using hx);exact⟨s',by rw[show s+k+1=m+(k-(post a).length)+1 from by omega];exact h3,h4⟩
   ·rw[wea (by rw[ym];omega),ym]at hx
    match hk:k-(post a).length-(post b).length,hx with
    |0,hx=>simp at hx;subst hx;exact⟨s,by rw[show s+k+1=t from by omega];exact h,rfl⟩
    |q+1,hx=>simp at hx
 |star a iha=>
  intro s t h k x hx;have ha:=h.star;have hb:=h.bound;have la:(post a).length=t-1-s:=by obtain⟨_,_,_,h1,h2⟩:=ha;omega
  simp only[V8]at hx;by_cases h1:k<(post a).length
  ·rw[wd8 (by rw[ym];exact h1)]at hx;exact iha s (t-1) ha k x hx
  ·rw[wea (by rw[ym];omega),ym]at hx
   match hk:k-(post a).length,hx with
   |0,hx=>simp at hx;subst hx;exact⟨s,by rw[show s+k+1=t from by omega];exact h,rfl⟩
   |q+1,hx=>simp at hx
 |plus a iha=>
  intro s t h k x hx;have ha:=h.plus;have hb:=h.bound;have la:(post a).length=t-1-s:=by obtain⟨_,_,_,h1,h2⟩:=ha;omega
  simp only[V8]at hx;by_cases h1:k<(post a).length
  ·rw[wd8 (by rw[ym];exact h1)]at hx;exact iha s (t-1) ha k x hx
  ·rw[wea (by rw[ym];omega),ym]at hx
   match hk:k-(post a).length,hx with
   |0,hx=>simp at hx;subst hx;exact⟨s,by rw[show s+k+1=t from by omega];exact h,rfl⟩
   |q+1,hx=>simp at hx
 |opt a iha=>
  intro s t h k x hx;have ha:=h.opt;have hb:=h.bound;have la:(post a).length=t-1-s:=by obtain⟨_,_,_,h1,h2⟩:=ha;omega
  simp only[V8]at hx;by_cases h1:k<(post a).length
  ·rw[wd8 (by rw[ym];exact h1)]at hx;exact iha s (t-1) ha k x hx
  ·rw[wea (by rw[ym];omega),ym]at hx
   match hk:k-(post a).length,hx with
   |0,hx=>simp at hx;subst hx;exact⟨s,by rw[show s+k+1=t from by omega];exact h,rfl⟩
   |q+1,hx=>simp at hx
end Go.Proofs.YtdllbdlnmjngcaaGreat
namespace Go.Proofs.YtdllbdlnmjngcaaGreat.T
set_option maxRecDepth 100000
set_option maxHeartbeats 8000000
set_option linter.unusedVariables false
set_option linter.unusedSimpArgs false
open Go Go.RowKit L
def qy(x:jc):Rx:=⟨x.1,x.2.1.l.getD 0 0,x.2.1.l.getD 1 0,x.2.1.l.getD 2 0,x.2.1.l.getD 3 0⟩
theorem jhu{c:Int}{n:Nat}(h:arK c=some n):ofK c=n:=by
 unfold arK at h;unfold ofK;by_cases h1:c=3\/c=4
 ·rw[if_pos h1]at h;cases h;rw[if_neg (by omega),if_pos h1];rfl
 rw[if_neg h1]at h;by_cases h2:c=5\/c=6\/c=7
 ·rw[if_pos h2]at h;cases h;rw[if_neg (by omega),if_neg h1,if_pos h2];rfl
 rw[if_neg h2]at h;by_cases h3:c=1\/c=2
 ·rw[if_pos h3]at h;cases h;rw[if_pos h3];rfl
 ·rw[if_neg h3]at h;cases h
theorem z7k{x:jc}(h:¬(x.1≠1/\x.2.1.l≠List.replicate 4 0))(h1:x.1≠1):qy x=J5 x.1:=by
 have:x.2.1.l=List.replicate 4 0:=Classical.byContradiction λc=>h ⟨h1,c⟩;unfold qy J5;rw[this];rfl
theorem z2z:∀(l:List jc)(d:Nat),Za l d=0->za0 (l.map qy) (d:Int)=0
 |[],d,h=>by
  unfold Za at h;by_cases e:d=1
  ·subst e;rfl
  ·rw[if_neg e]at h;cases h
 |x::l,d,h=>by
  unfold Za at h;cases har:arK x.1 with
  |none=>rw[har]at h;cases h
  |some n=>
   rw[har]at h;dsimp only at h;split at h
   ·cases h
   ·split at h
    ·cases h
    ·rename_i h1 h2;have ho:=jhu har;have ih:=z2z l _ h;rw[wel,za0];have ek:(qy x).kind=x.1:=rfl;rw[ek,ho,if_neg,if_neg (by omega)]
     ·rw[<- ih];congr 1;omega
     ·rintro(h3|⟨h3,h4⟩)
      ·omega
      ·rw[z7k h1 h3]at h4;simp[J5,Rx.bare,jct]at h4
theorem jhc{l:List jc}(h:Yg l=0):l.length<=512/\∃e,l.map qy=post e:=by
 have hl:=Z6 h;refine⟨hl.2,?_⟩;unfold Yg at h;rw[if_neg (by have:=hl.2;omega)]at h;exact(jft _ (by unfold z5l;rw[if_neg (by have:=hl.2;simp;omega)];exact z2z l 0 h)).2
def yw(l:List jc):List (Arr 4 Int):=(l.filter λx=>decide (x.1=1)).map λx=>x.2.1
theorem zsu(l:List jc)(x:jc):yw (l++[x])=yw l++if x.1=1 then [x.2.1]else []:=by
 unfold yw;by_cases h:x.1=1<;>simp[h]
theorem z07(l:List jc):((l.map qy).filter λx=>x.kind == 1).length=(yw l).length:=by
 unfold yw;rw[List.filter_map,weh,weh];congr 1
theorem z9u{l:List jc}{e:E}(h:l.map qy=post e):(yw l).length=jn e:=by
 rw[<- z07,h,zl5,zwo]
def z3n(st:List E)(x:Rx):List E:=
 if x.kind=1 then .set x.s0 x.s1 x.s2 x.s3::st else if x.kind=2 then .empty::st else match st with
 |[]=>[]
 |b::r=>if x.kind=5 then .star b::r else if x.kind=6 then .plus b::r else if x.kind=7 then .opt b::r else match r with
  |[]=>[]
  |a::r=>if x.kind=3 then .cat a b::r else .alt a b::r
theorem zwh(e:E):∀st,(post e).foldl z3n st=e::st:=by
 induction e with
 |set=>intro st;simp[post,z3n]
 |empty=>intro st;simp[post,z3n,J5]
 |cat a b iha ihb=>intro st;simp[post,wg7,iha,ihb,z3n,J5]
 |alt a b iha ihb=>intro st;simp[post,wg7,iha,ihb,z3n,J5]
 |star a ih=>intro st;simp[post,wg7,ih,z3n,J5]
 |plus a ih=>intro st;simp[post,wg7,ih,z3n,J5]
 |opt a ih=>intro st;simp[post,wg7,ih,z3n,J5]
theorem ja4{a b:E}(h:post a=post b):a=b:=by
 have h1:=zwh a [];rw[h,zwh b []]at h1;exact(List.cons.inj h1).1.symm
open Classical in
noncomputable def qn(l:List jc):E:=if h:∃e,l.map qy=post e then h.choose else .empty
theorem z1h{l:List jc}{e:E}(h:l.map qy=post e):qn l=e:=by
 have h1:∃e,l.map qy=post e:=⟨e,h⟩
 unfold qn;rw[dif_pos h1];exact ja4 (h1.choose_spec.symm.trans h)
theorem zt7{l:List jc}(h:Yg l=0):l.map qy=post (qn l):=by
 obtain⟨e,he⟩:=(jhc h).2;rw[z1h he];exact he
def qm:List E->Nat
 |[]=>0
 |e::r=>jn e+qm r
theorem yh:∀(a b:List E),qm (a++b)=qm a+qm b
 |[],b=>by simp[qm]
 |e::a,b=>by simp[qm,yh a b];omega
def zi(e:E)(n:Int):qu:=((qb e n,qx e n,zw e,()),(jn e:Int),())
def zz:List E->Int->List qu
 |[],_=>[]
 |e::r,n=>zi e n::zz r (n+jn e)
theorem Y4:∀(a b:List E)(n:Int),zz (a++b) n=zz a n++zz b (n+qm a)
 |[],b,n=>by simp[zz,qm]
 |e::a,b,n=>by
  simp only[wgk,zz,Y4 a b,qm,wgq];rw[show n+(jn e:Int)+qm a=n+(jn e+qm a) by omega]
theorem zat:∀(a:List E)(n:Int),(zz a n).length=a.length
 |[],n=>rfl
 |e::a,n=>by simp[zz,zat a]
def zk2:List E->Int->Int->Int->Prop
 |[],_,_,_=>False
 |e::r,n,i,j=>Yp e n i j\/zk2 r (n+jn e) i j
theorem zbv:∀(a b:List E)(n i j:Int),zk2 (a++b) n i j↔zk2 a n i j\/zk2 b (n+qm a) i j
 |[],b,n,i,j=>by simp[zk2,qm]
 |e::a,b,n,i,j=>by
  simp only[wgk,zk2,zbv a b,qm,wgq];rw[show n+(jn e:Int)+qm a=n+(jn e+qm a) by omega,or_assoc]
theorem zbs(e:E)(n i j:Int):zk2 [e] n i j↔Yp e n i j:=by simp[zk2]
theorem zyp:∀(a:List E)(n i j:Int),zk2 a n i j->(n<=i/\i<n+qm a)/\n<=j/\j<n+qm a
 |[],n,i,j,h=>h.elim
 |e::a,n,i,j,h=>by
  simp only[qm];rcases h with h|h
  ·have:=z4v e n i j h;omega
  ·have:=zyp a _ i j h;omega
def FolOk(fol:List (List Int))(P:Int->Int->Prop):Prop:=∀(i:Nat)(l:List Int),fol[i]?=some l->jx l/\∀j,j∈l↔P i j
theorem FolOk.iff{fol:List (List Int)}{P Q:Int->Int->Prop}(h:FolOk fol P)(hq:∀i j,P i j↔Q i j):FolOk fol Q:=λi l hl=>⟨(h i l hl).1,λj=>((h i l hl).2 j).trans (hq i j)⟩
def zg6(a:List E):List Rx:=a.flatMap post
theorem zxt(a b:List E):zg6 (a++b)=zg6 a++zg6 b:=by simp[zg6]
theorem zmy(a:E):zg6 [a]=post a:=by simp[zg6]
theorem zbu(e:E)(n m:Nat)(h:n+jn e<=m):RN m (qb e n):=⟨(Qi e n).1,λx hx=>by have:=(Qi e n).2 x hx;omega⟩
theorem zfx(e:E)(n m:Nat)(h:n+jn e<=m):RN m (qx e n):=⟨(Zl e n).1,λx hx=>by have:=(Zl e n).2 x hx;omega⟩
theorem jet{u a b:List Int}{m:Int}(hu:jx u)(hm:∀x,x∈u↔x∈a\/x∈b)(ha:zgn a)(hb:zgn b)(h1:∀x∈a,x<m)(h2:∀x∈b,m<=x):u=a++b:=
 ztk hu (zad ha hb h1 h2) λx=>by rw[hm,wd7]
theorem zwn{u:List Int}{a b:E}{n:Int}(hu:jx u)(hm:∀x,x∈u↔x∈qb a n\/x∈qb b (n+jn a)):u=qb a n++qb b (n+jn a):=
 jet (m:=n+jn a) hu hm (Qi a n).1 (Qi b _).1 (λx hx=>((Qi a n).2 x hx).2) λx hx=>((Qi b _).2 x hx).1
theorem z2u{u:List Int}{a b:E}{n:Int}(hu:jx u)(hm:∀x,x∈u↔x∈qx a n\/x∈qx b (n+jn a)):u=qx a n++qx b (n+jn a):=
 jet (m:=n+jn a) hu hm (Zl a n).1 (Zl b _).1 (λx hx=>((Zl a n).2 x hx).2) λx hx=>((Zl b _).2 x hx).1
def zuh(e:E)(i:Int):List Int:=((List.range (jn e)).map λ(b:Nat)=>(b:Int)).filter λb=>zdt e 0 i b
theorem zw0(e:E)(i:Int):jx (zuh e i):=by
 unfold zuh;refine List.Pairwise.sublist List.filter_sublist ?_;rw[List.pairwise_map];exact List.pairwise_lt_range.imp λh=>by omega
theorem z0r(e:E)(i j:Int):j∈zuh e i↔Yp e 0 i j:=by
 simp only[zuh,wgh,wee,wfl];constructor
 ·rintro⟨_,h⟩;exact(z1f e _ _ _).1 h
 ·intro h;have:=(z4v e _ _ _ h).2;exact⟨⟨j.toNat,by omega,by omega⟩,(z1f e _ _ _).2 h⟩
theorem jgw{e:E}{i:Int}{l:List Int}(hr:jx l)(h:∀j,j∈l↔Yp e 0 i j):l=zuh e i:=ztk hr (zw0 e i) λj=>by rw[h,z0r]
theorem zz1(e:E)(i:Int):RN (jn e) (zuh e i):=⟨zw0 e i,λx hx=>by have:=(z4v e _ _ _ ((z0r e i x).1 hx)).2;omega⟩
theorem zuq{n:Nat}{a b:List Int}(hn:n<=1000)(ha:RN n a)(hb:RN n b):Tn (λnn=>yy nn a b) (λr=>RN n r/\∀x,x∈r↔x∈a\/x∈b):=by
 have h1:=ha.len;have h2:=hb.len;unfold yy;refine wac _ (sm7 (by omega)) (wac _ (Js (by omega) (by omega)) ?_);have hl:(Z2 (a++b)).length=(a++b).length:=zkr _;simp only[weg]at hl;refine wac _ (sm7 (by simp;omega)) (wac _ (sm7 (by omega)) (Tt.pure ?_));obtain⟨r1,r2⟩:=zjc (Z2 (a++b)) (zlm _);have hm:∀x,x∈Qu (Z2 (a++b))↔x∈a\/x∈b:=λx=>by rw[r2,zwu,wd7]
 refine⟨⟨r1,λx hx=>?_⟩,hm⟩;rcases(hm x).1 hx with h|h
 ·exact ha.b x h
 ·exact hb.b x h
theorem zx0{ι:Type}{D:Fi ι}{φ:ι->Nat}(hφ:Big D φ){n:Nat}(hn:n<=512){β:Type}{Q:β->Prop}{fs ls:List Int}(hf:RN n fs)(hl:RN n ls)(c3:Bool)(c4:Int)(sets:List (Arr 4 Int))(c5 c6:List Int){fol:List (List Int)}(h1:fol.length=n){P:Int->Int->Prop}(h2:FolOk fol P)(hP:∀i j,P i j->0<=j/\j<n)
  {K:ι->(List Int)×(List Int)×Int×Int×Bool×Int×(List (Arr 4 Int))×(List (List Int))×(List Int)×(List Int)->Option β}
  (hK:∀fol':List (List Int),fol'.length=n->FolOk fol' (λi j=>P i j\/i∈ls/\j∈fs)->Tt D (λi=>K i (fs,ls,(ls.length:Int),(ls.length:Int),c3,c4,sets,fol',c5,c6)) Q) :
  Tt D (λi=>jl (λ(x18:(List Int)×(List Int)×Int×Int×Bool×Int×(List (Arr 4 Int))×(List (List Int))×(List Int)×(List Int))x19=>ifB (decide (x18.2.2.2.1<x18.2.2.1)) (ja (atL x18.2.1 x18.2.2.2.1) λx20=>ja (vk x18.2.2.2.2.2.2.2.1.length x20) λx21=>ja (atL x18.2.2.2.2.2.2.2.1 x21) λx22=>ja (yy (φ i) x22 x18.1) λx23=>ja (vk x18.2.2.2.2.2.2.2.1.length x20) λx24=>ja (zas x18.2.2.2.2.2.2.2.1 x24 x23) λx25=>ja (some (T.w64 (x18.2.2.2.1+1))) λx26=>x19 (x18.1,x18.2.1,x18.2.2.1,x26,x18.2.2.2.2.1,x18.2.2.2.2.2.1,x18.2.2.2.2.2.2.1,x25,x18.2.2.2.2.2.2.2.2.1,x18.2.2.2.2.2.2.2.2.2)) (K i x18)) (φ i) (fs,ls,(ls.length:Int),0,c3,c4,sets,fol,c5,c6)) Q:=by
 have hll:=hl.len;refine Tt.loop (λm s=>∃(k:Nat)(fol':List (List Int)),k<=ls.length/\m=ls.length-k/\s=(fs,ls,(ls.length:Int),(k:Int),c3,c4,sets,fol',c5,c6)/\fol'.length=n/\FolOk fol' (λi j=>P i j\/i∈ls.take k/\j∈fs)) ls.length hφ ⟨0,fol,by omega,by omega,rfl,h1,h2.iff λi j=>by simp⟩ λm s⟨k,fol',hk,hm,hs,h3,h4⟩ nx hnx=>?_;subst hs;dsimp only;refine wab (λc=>?_) (λc=>?_)
 ·have c:=wdz c;have hlt:k<ls.length:=by omega
  have hb:=hl.b _ (wec hlt);obtain⟨z,hz⟩:∃z:Nat,ls[k]=(z:Int):=⟨(ls[k]).toNat,by omega⟩
  have hz':z<fol'.length:=by omega
  refine wac _ (atN hlt) ?_;have htk:ls.take (k+1)=ls.take k++[(z:Int)]:=by rw[web hlt,hz]
  rw[hz];refine wac _ (zh hz') (wac _ (atN hz') ?_);obtain⟨q1,q2⟩:=h4 z _ (wdy hz');have hrn:RN n fol'[z]:=⟨q1,λx hx=>by
   rcases(q2 x).1 hx with h|h
   ·exact hP _ _ h
   ·exact hf.b _ h.2⟩
  refine Tt.bind (Tt.call (zuq (by omega) hrn hf) hφ.fst) λu⟨hu,hum⟩=>?_;refine wac _ (zh hz') (wac _ (zit u hz') (wad ?_));rw[wI (by omega) (by omega)];refine hnx (ls.length-(k+1)) _ (by omega) ⟨k+1,fol'.set z u,by omega,rfl,by simp,by simp[h3],λi l hil=>?_⟩;rw[htk];by_cases e:z=i
  ·subst e;rw[List.getElem?_set_self hz']at hil;cases hil;refine⟨hu.r,λj=>?_⟩;rw[hum,q2];simp only[wd7,wd5,or_true,true_and];constructor
   ·rintro((h|h)|h)
    ·exact .inl h
    ·exact .inr h.2
    ·exact .inr h
   ·rintro(h|h)
    ·exact .inl (.inl h)
    ·exact .inr h
  ·rw[wgy e]at hil;obtain⟨q3,q4⟩:=h4 i l hil;refine⟨q3,λj=>?_⟩;rw[q4];simp only[wd7,wd5];constructor
   ·rintro(h|h)
    ·exact .inl h
    ·exact .inr ⟨.inl h.1,h.2⟩
   ·rintro(h|⟨h|h,h'⟩)
    ·exact .inl h
    ·exact .inr ⟨h,h'⟩
    ·exact absurd h (by omega)
 ·have c:=wd0 c;have hke:k=ls.length:=by omega
  subst hke;rw[wen]at h4;exact(hK fol' h3 h4).fst
structure jao(l:List jc)(k:Nat)(es:List E)(sets:List (Arr 4 Int))(fol:List (List Int)):Prop where
 fl:zg6 es=(l.take k).map qy
 se:sets=yw (l.take k)
 ls:sets.length=qm es
 lf:fol.length=qm es
 fo:FolOk fol (zk2 es 0)
 ch:Za (l.drop k) es.length=0
 nk:qm es<=k
structure OvX(l:List jc)(k:Nat)(s:OvS)(b:Bool)(z:Int)(es:List E)(e:E)(sets:List (Arr 4 Int))(fol:List (List Int))(f1 l1:List Int):Prop where
 h1:s=(l,(l.length:Int),(k:Int),b,z,zi e (qm es),sets,fol,f1,l1,zz es 0)
 h2:jao l (k+1) (es++[e]) sets fol
theorem jgk(l:List jc)(hc:Yg l=0):Tn (λnn=>Qj nn l) (λr=>∃e fol,l.map qy=post e/\r=some (yw l,fol,zi e 0,())/\fol.length=jn e/\FolOk fol (Yp e 0)):=by
 have hW:=(Z6 hc).2;unfold Qj;refine Tt.bind (Tt.call (jee l (by omega)) waa) λe he=>?_;rw[hc]at he;subst he;refine waf rfl ?_;have h0:Za l 0=0:=by unfold Yg at hc;rwa [if_neg (by omega)]at hc
 refine Tt.loop (λm s=>∃(k:Nat)(es:List E)(b:Bool)(z:Int)(sets:List (Arr 4 Int))(fol:List (List Int))(f1 l1:List Int),k<=l.length/\m=l.length-k/\s=(l,(l.length:Int),(k:Int),b,z,sets,fol,f1,l1,zz es 0)/\jao l k es sets fol/\es.length<=k) l.length waa ⟨0,[],_,_,_,_,_,_,by omega,by omega,rfl,⟨rfl,rfl,rfl,rfl,λi l h=>by simp at h,h0,by simp[qm]⟩,by simp⟩ λm s⟨k,es,b,z,sets,fol,f1,l1,hk,hm,hs,hr,hel⟩ nx hnx=>?_;subst hs;dsimp only;have hpl:=zat es 0;refine wab (λc=>?_) (λc=>?_)
 ·have c:=wdz c;have hlt:k<l.length:=by omega
  have hch:=hr.ch;have hnk:=hr.nk;have hls:=hr.ls;have hlf:=hr.lf;rw[wet hlt]at hch;have htk:(l.take (k+1)).map qy=zg6 es++[qy l[k]]:=by rw[web hlt,we8,hr.fl];rfl
  have hsk:yw (l.take (k+1))=sets++if(l[k]).1=1 then [(l[k]).2.1]else []:=by rw[web hlt,zsu,hr.se]
  refine wac _ (atN hlt) ?_;generalize l[k]=x at hch htk hsk⊢;unfold Za at hch;cases har:arK x.1 with
  |none=>rw[har]at hch;cases hch
  |some a=>
  rw[har]at hch;dsimp only at hch;split at hch
  ·cases hch
  rename_i hbare;split at hch
  ·cases hch
  rename_i had;refine Tt.J (λs=>∃b z es' e sets fol f1 l1,OvX l k s b z es' e sets fol f1 l1/\es'.length<=k) (λny hny=>?_) (λs⟨b,z,es',e,sets,fol,f1,l1,h,hel'⟩=>?_)
  rotate_left
  ·obtain⟨he,h1⟩:=h;subst he;dsimp only;have hpl':=zat es' 0;refine wac _ (Js (by simp;omega) (by omega)) (wad ?_);rw[wI (by omega) (by omega)];refine hnx (l.length-(k+1)) _ (by omega) ⟨k+1,es'++[e],b,z,sets,fol,f1,l1,by omega,rfl,?_,h1,by simp;omega⟩;rw[Y4];simp[zz]
  ·have hin:∀{s:OvS}{b z es' e sets fol f1 l1},OvX l k s b z es' e sets fol f1 l1->es'.length<=k->Tt _ (λi=>ny i s) _:=λh h'=>hny _ ⟨_,_,_,_,_,_,_,_,h,h'⟩;refine wab (λc=>?_) (λc1=>?_)
   ·have c:=wdz c;have ea:a=0:=by rw[c]at har;cases har;rfl
    subst ea;rw[if_pos c]at hsk;refine wad (wac _ (Js (by simp;omega) (by omega)) (wac _ (Js (by simp;omega) (by omega)) ?_));refine hin (b:=b) (z:=z) (sets:=sets++[x.2.1]) (fol:=fol++[[]]) (f1:=f1) (l1:=l1) (es':=es) (e :=.set (x.2.1.l.getD 0 0) (x.2.1.l.getD 1 0) (x.2.1.l.getD 2 0) (x.2.1.l.getD 3 0)) ⟨by rw[hls];simp[zi,qb,qx,zw,jn],⟨?_,hsk.symm,?_,?_,?_,?_,?_⟩⟩ hel
    ·rw[htk,zxt,zmy];simp[post,qy,c]
    ·rw[weg,hls,yh];rfl
    ·rw[weg,hlf,yh];rfl
    ·intro i l hi;by_cases hif:i<fol.length
     ·rw[wd8 hif]at hi;obtain⟨q1,q2⟩:=hr.fo i l hi;exact⟨q1,λj=>by rw[q2,zbv,zbs];simp[Yp]⟩
     ·rw[wea (by omega)]at hi;obtain⟨hz,rfl⟩:i-fol.length=0/\[]=l:=by
       cases hq:i-fol.length with
       |zero=>rw[hq]at hi;simp at hi;exact⟨rfl,hi.symm⟩
       |succ q=>rw[hq]at hi;simp at hi
      refine⟨List.Pairwise.nil,λj=>?_⟩;rw[zbv,zbs];simp only[List.not_mem_nil,Yp,or_false,false_iff];intro h;have:=zyp _ _ _ _ h;omega
    ·rw[weg,weq];exact hch
    ·rw[yh];simp[qm,jn];omega
   have c1:=wd0 c1;rw[if_neg c1,weo]at hsk;have hbx:=z7k hbare c1;rw[hbx]at htk;refine wab (λc=>?_) (λc2=>?_)
   ·have c:=wdz c;have ea:a=0:=by rw[c]at har;cases har;rfl
    subst ea;refine hin (b:=b) (z:=z) (sets:=sets) (fol:=fol) (f1:=f1) (l1:=l1) (es':=es) (e :=.empty) ⟨by simp[zi,qb,qx,zw,jn],⟨?_,hsk.symm,?_,?_,?_,?_,?_⟩⟩ hel
    ·rw[htk,zxt,zmy,c];rfl
    ·rw[hls,yh];rfl
    ·rw[hlf,yh];rfl
    ·exact hr.fo.iff λi j=>by rw[zbv,zbs];simp[Yp]
    ·rw[weg,weq];exact hch
    ·rw[yh];simp[qm,jn];omega
   have c2:=wd0 c2;have hfin:∀i j,zk2 es 0 i j->0<=j/\j<(qm es:Int):=λi j h=>by have:=zyp _ _ _ _ h;omega
   refine wab (λc=>?_) (λc3=>?_)
   ·have ck:=wdz c;have ea:a=2:=by rw[ck]at har;cases har;rfl
    subst ea;obtain⟨e1,eb,rfl⟩:=zsf (l:=es) (by omega);rw[weg,weq]at had hel hch;obtain⟨e2,ea,rfl⟩:=zsf (l:=e1) (by omega);rw[weg,weq]at had hel hch;have hns:qm (e2++[ea]++[eb])=qm e2+jn ea+jn eb:=by simp[yh,qm];omega
    have hpp:zz (e2++[ea]++[eb]) 0=zz e2 0++[zi ea (qm e2)]++[zi eb ((qm e2:Nat)+(jn ea:Nat):Int)]:=by
     rw[Y4,Y4,yh];simp[zz,qm]
    have hpl2:=zat e2 0;rw[hns]at hls hlf hnk hfin;rw[hpp];refine wac _ (jbp (by simp;omega)) (wac _ jcw (wac _ (jb6 (by simp;omega)) ?_));refine wac _ (jbp (by omega)) (wac _ jcw (wac _ (jb6 (by omega)) ?_));have hA1:RN (qm e2+jn ea+jn eb) (qb ea (qm e2)):=zbu _ _ _ (by omega);have hA2:RN (qm e2+jn ea+jn eb) (qx ea (qm e2)):=zfx _ _ _ (by omega);have hB1:RN (qm e2+jn ea+jn eb) (qb eb ((qm e2:Nat)+(jn ea:Nat):Int)):=by have:=zbu eb (qm e2+jn ea) (qm e2+jn ea+jn eb) (by omega);simpa using this
    have hB2:RN (qm e2+jn ea+jn eb) (qx eb ((qm e2:Nat)+(jn ea:Nat):Int)):=by have:=zfx eb (qm e2+jn ea) (qm e2+jn ea+jn eb) (by omega);simpa using this
    refine zx0 waa.fst (n:=qm e2+jn ea+jn eb) (by omega) hB1 hA2 _ _ _ _ _ hlf hr.fo (λi j h=>by have:=hfin i j h;omega) λfol' e1 e2'=>?_;have hFo:FolOk fol' (zk2 (e2++[.cat ea eb]) 0):=e2'.iff λi j=>by
     simp only[zbv,zbs,yh,qm,Yp,wfs,wgq,Int.zero_add];constructor
     ·rintro(((h|h)|h)|h)
      ·exact .inl h
      ·exact .inr (.inl h)
      ·exact .inr (.inr (.inl h))
      ·exact .inr (.inr (.inr h))
     ·rintro(h|h|h|h)
      ·exact .inl (.inl (.inl h))
      ·exact .inl (.inl (.inr h))
      ·exact .inl (.inr h)
      ·exact .inr h
    have hR:jao l (k+1) (e2++[.cat ea eb]) sets fol':=⟨by rw[htk,ck];simp[zg6,post],hsk.symm,by rw[hls,yh];simp[qm,jn];omega,by rw[e1,yh];simp[qm,jn];omega,hFo,by rw[weg,weq];rw[show e2.length+1+1-2+1=e2.length+1 by omega]at hch;exact hch,by rw[yh];simp[qm,jn];omega⟩
    have ew:T.w64 ((jn ea:Int)+(jn eb:Int))=(jn ea:Int)+(jn eb:Int):=wI (by omega) (by omega);have key:Tt _ (λi=>ny i (l,(l.length:Int),(k:Int),b,z,zi (.cat ea eb) (qm e2),sets,fol',f1,l1,zz e2 0)) _:=hin ⟨rfl,hR⟩ (by omega);refine Tt.J (λs=>s=(b,z,sets,fol',f1,l1,zi ea (qm e2),zi eb ((qm e2:Nat)+(jn ea:Nat):Int),false,0,((qb ea (qm e2),qx eb ((qm e2:Nat)+(jn ea:Nat):Int),zw ea && zw eb,()),((jn ea:Int)+(jn eb:Int)),()),[],[])) (λnz hnz=>?_) (λs hs=>?_)
    ·dsimp only[zi];rw[ew];refine wab (λhfa=>hnz _ ?_) λhfa=>hnz _ ?_
     ·simp only[zi,hfa,wg3]
     ·simp only[zi,hfa,Bool.false_and]
    ·subst hs;refine Tt.J (λs=>s=(b,z,sets,fol',f1,l1,zi ea (qm e2),zi eb ((qm e2:Nat)+(jn ea:Nat):Int),false,0,((qb (.cat ea eb) (qm e2),qx eb ((qm e2:Nat)+(jn ea:Nat):Int),zw ea && zw eb,()),((jn ea:Int)+(jn eb:Int)),()),[],[])) (λnz hnz=>?_) (λs hs=>?_)
     ·dsimp only[zi];refine wab (λhfa=>?_) λhfa=>hnz _ ?_
      ·refine Tt.bind (Tt.call (zuq (by omega) hA1 hB1) waa.fst) λu⟨hu,hum⟩=>hnz _ ?_;rw[zwn hu.r hum];simp only[qb,hfa,if_true,zi]
      ·simp only[qb,hfa,zi];simp
     ·subst hs;refine Tt.J (λs=>s=(b,z,sets,fol',f1,l1,false,0,zi (.cat ea eb) (qm e2),[],[])) (λnz hnz=>?_) (λs hs=>?_)
      ·dsimp only[zi];refine wab (λhfb=>?_) λhfb=>hnz _ ?_
       ·refine Tt.bind (Tt.call (zuq (by omega) hA2 hB2) waa.fst) λu⟨hu,hum⟩=>hnz _ ?_;rw[z2u hu.r hum];simp only[qx,hfb,if_true,zi,zw,jn,wgq]
       ·simp only[qx,hfb,zi,zw,jn,wgq];simp
      ·subst hs;exact key
   have c3:=wd0 c3;refine wab (λc=>?_) (λc4=>?_)
   ·have ck:=wdz c;have ea:a=2:=by rw[ck]at har;cases har;rfl
    subst ea;obtain⟨e1,eb,rfl⟩:=zsf (l:=es) (by omega);rw[weg,weq]at had hel hch;obtain⟨e2,ea,rfl⟩:=zsf (l:=e1) (by omega);rw[weg,weq]at had hel hch;have hns:qm (e2++[ea]++[eb])=qm e2+jn ea+jn eb:=by simp[yh,qm];omega
    have hpp:zz (e2++[ea]++[eb]) 0=zz e2 0++[zi ea (qm e2)]++[zi eb ((qm e2:Nat)+(jn ea:Nat):Int)]:=by
     rw[Y4,Y4,yh];simp[zz,qm]
    have hpl2:=zat e2 0;rw[hns]at hls hlf hnk hfin;rw[hpp];refine wac _ (jbp (by simp;omega)) (wac _ jcw (wac _ (jb6 (by simp;omega)) ?_));refine wac _ (jbp (by omega)) (wac _ jcw (wac _ (jb6 (by omega)) ?_));have hA1:RN (qm e2+jn ea+jn eb) (qb ea (qm e2)):=zbu _ _ _ (by omega);have hA2:RN (qm e2+jn ea+jn eb) (qx ea (qm e2)):=zfx _ _ _ (by omega);have hB1:RN (qm e2+jn ea+jn eb) (qb eb ((qm e2:Nat)+(jn ea:Nat):Int)):=by have:=zbu eb (qm e2+jn ea) (qm e2+jn ea+jn eb) (by omega);simpa using this
    have hB2:RN (qm e2+jn ea+jn eb) (qx eb ((qm e2:Nat)+(jn ea:Nat):Int)):=by have:=zfx eb (qm e2+jn ea) (qm e2+jn ea+jn eb) (by omega);simpa using this
    have hFo:FolOk fol (zk2 (e2++[.alt ea eb]) 0):=hr.fo.iff λi j=>by
     simp only[zbv,zbs,yh,qm,Yp,wfs,wgq,Int.zero_add];rw[or_assoc]
    have hR:jao l (k+1) (e2++[.alt ea eb]) sets fol:=⟨by rw[htk,ck];simp[zg6,post],hsk.symm,by rw[hls,yh];simp[qm,jn];omega,by rw[hlf,yh];simp[qm,jn];omega,hFo,by rw[weg,weq];rw[show e2.length+1+1-2+1=e2.length+1 by omega]at hch;exact hch,by rw[yh];simp[qm,jn];omega⟩
    have ew:T.w64 ((jn ea:Int)+(jn eb:Int))=(jn ea:Int)+(jn eb:Int):=wI (by omega) (by omega);refine Tt.J (λs=>s=(l,(l.length:Int),(k:Int),b,z,zi (.alt ea eb) (qm e2),sets,fol,f1,l1,zz e2 0)) (λnz hnz=>?_) (λs hs=>?_)
    ·dsimp only[zi];refine Tt.bind (Tt.call (zuq (by omega) hA1 hB1) waa.fst) λu⟨hu,hum⟩=>?_;refine Tt.bind (Tt.call (zuq (by omega) hA2 hB2) waa.fst) λv⟨hv,hvm⟩=>?_;rw[ew,zwn hu.r hum,z2u hv.r hvm];refine wab (λhfa=>hnz _ ?_) λhfa=>hnz _ ?_
     ·simp only[zi,qb,qx,zw,jn,hfa,wgq,Bool.true_or]
     ·simp only[zi,qb,qx,zw,jn,hfa,wgq,Bool.false_or]
    ·subst hs;dsimp only;exact hin ⟨rfl,hR⟩ (by omega)
   have c4:=wd0 c4;have ea:a=1/\(x.1=5\/x.1=6\/x.1=7):=by
    rw[arK,if_neg (by omega)]at har;split at har
    ·cases har;exact⟨rfl,by assumption⟩
    ·rw[if_neg (by omega)]at har;cases har
   obtain⟨rfl,hx567⟩:=ea;obtain⟨e2,ea,rfl⟩:=zsf (l:=es) (by omega);rw[weg,weq]at had hel hch;have hns:qm (e2++[ea])=qm e2+jn ea:=by simp[yh,qm]
   have hpp:zz (e2++[ea]) 0=zz e2 0++[zi ea (qm e2)]:=by
    rw[Y4];simp[zz,qm]
   have hpl2:=zat e2 0;rw[hns]at hls hlf hnk hfin;rw[hpp];have hA1:RN (qm e2+jn ea) (qb ea (qm e2)):=zbu _ _ _ (by omega);have hA2:RN (qm e2+jn ea) (qx ea (qm e2)):=zfx _ _ _ (by omega);refine wac _ (jbp (by omega)) (wac _ jcw (wac _ (jb6 (by omega)) ?_));obtain⟨ex,hex,hexn,hexf,hexl,hexp⟩:∃ex,post ex=post ea++[J5 x.1]/\jn ex=jn ea/\(∀n,qb ex n=qb ea n)/\(∀n,qx ex n=qx ea n)/\(zw ex=(zw ea ||decide (x.1≠6)))/\∀n i j,Yp ex n i j↔Yp ea n i j\/(x.1≠7/\i∈qx ea n/\j∈qb ea n):=by
    rcases hx567 with h|h|h
    ·exact⟨.star ea,by rw[h];rfl,rfl,λ_=>rfl,λ_=>rfl,by simp[zw,h],λn i j=>by simp[Yp,h]⟩
    ·exact⟨.plus ea,by rw[h];rfl,rfl,λ_=>rfl,λ_=>rfl,by simp[zw,h],λn i j=>by simp[Yp,h]⟩
    ·exact⟨.opt ea,by rw[h];rfl,rfl,λ_=>rfl,λ_=>rfl,by simp[zw,h],λn i j=>by simp[Yp,h]⟩
   obtain⟨hexr,hexo⟩:=hexp;refine Tt.J (λs=>∃fol',s=(l,(l.length:Int),(k:Int),b,z,x,zi ea (qm e2),sets,fol',f1,l1,zz e2 0)/\fol'.length=qm e2+jn ea/\FolOk fol' (zk2 (e2++[ex]) 0)) (λnz hnz=>?_) (λs⟨fol',hs,hl',hF'⟩=>?_)
   ·refine wab (λc7=>?_) λc7=>hnz _ ⟨_,rfl,hlf,hr.fo.iff λi j=>?_⟩
    ·have c7:=wdz c7;refine zx0 waa.fst (n:=qm e2+jn ea) (by omega) hA1 hA2 _ _ _ _ _ hlf hr.fo (λi j h=>by have:=hfin i j h;omega) λfol' e1 e2'=>hnz _ ⟨_,rfl,e1,e2'.iff λi j=>?_⟩;simp only[zbv,zbs,Int.zero_add,hexo];rw[or_assoc];simp[c7]
    ·have c7:=wd0 c7;have c7:x.1=7:=wf2.1 c7;simp only[zbv,zbs,Int.zero_add,hexo];simp[c7]
   ·subst hs;have hR:jao l (k+1) (e2++[ex]) sets fol':=⟨by rw[htk];simp[zg6,hex],hsk.symm,by rw[hls,yh];simp[qm,hexn],by rw[hl',yh];simp[qm,hexn],hF',by rw[weg,weq];rw[show e2.length+1-1+1=e2.length+1 by omega]at hch;exact hch,by rw[yh];simp[qm,hexn];omega⟩
    refine Tt.J (λs=>s=(l,(l.length:Int),(k:Int),b,z,zi ex (qm e2),sets,fol',f1,l1,zz e2 0)) (λnz hnz=>?_) (λs hs=>?_)
    ·dsimp only[zi];refine wab (λhfa=>hnz _ ?_) λhfa=>hnz _ ?_
     ·simp only[zi,hexf,hexl,hexn,hexr,hfa,Bool.true_or]
     ·simp only[zi,hexf,hexl,hexn,hexr,hfa,Bool.false_or]
    ·subst hs;dsimp only;exact hin ⟨rfl,hR⟩ (by omega)
 ·have c:=wd0 c;have hke:k=l.length:=by omega
  subst hke;have hch:=hr.ch;rw[wfg]at hch;unfold Za at hch;have h1:es.length=1:=by
   by_cases h:es.length=1
   ·exact h
   ·rw[if_neg h]at hch;cases hch
  match es,h1 with
  |[e],_=>
   have hfl:=hr.fl;rw[wen,zmy]at hfl;have hse:=hr.se;rw[wen]at hse;have hlf:=hr.lf;refine wac _ (zh (k:=0) (by simp[zz])) (wac _ (atN (k:=0) (by simp[zz])) (Tt.pure ⟨e,fol,hfl.symm,by rw[hse];rfl,by rw[hlf];simp[qm],hr.fo.iff λi j=>zbs e 0 i j⟩))
theorem V3{l:List jc}{e:E}{s t:Nat}(h:AtT (l.map qy) s e t):∃j,∃hj:j<l.length,j+1=t/\(l[j]).1=yo e:=by
 have hb:=h.bound;rw[weh]at hb;refine⟨t-1,by omega,by omega,?_⟩;have:=h.kind (t-1) (by rw[weh];omega) (by omega);rw[List.getElem_map]at this;exact this
theorem jdl{ι:Type}{D:Fi ι}{φ:ι->Nat}(hφ:Big D φ){rec:ι->(List jc)×Int->Option Int}{l:List jc}(hl:l.length<=1000){j:Nat}(hj:j<l.length){n:Nat}(hk:arK (l[j]).1=some n)(P:Nat->Nat)(h0:P 0=j)(hP:∀k,P k<=l.length)(hr:∀k,k<n->Tt D (λi=>rec i (l,(P k:Int)-1)) (λr=>r=(P (k+1):Int))):Tt D (λi=>Yw (φ i) (rec i) l (j:Int)) (λr=>r=(P n:Int)):=by
 have hn2:=z4s hk;unfold Yw;refine Tt.J (λs=>s=(l,(j:Int),false)) (λnx hnx=>?_) λs hs=>?_
 ·refine wad (waf (wem (by omega)) (hnx _ ?_));rw[wem (by omega)]
 ·subst hs;dsimp only;refine waf rfl (wac _ (atN hj) (Tt.bind (Tt.call (jci _) hφ) λr hr=>?_));rw[hk]at hr;dsimp only at hr;subst hr;refine Tt.loop (λm s=>∃k:Nat,k<=n/\m=n-k/\s=(l,(n:Int),(P k:Int),(k:Int))) n hφ ⟨0,by omega,by omega,by rw[h0];rfl⟩ λm s⟨k,hkn,hm,hs⟩ nx hnx=>?_;subst hs;dsimp only;refine wab (λc=>?_) λc=>?_
  ·have c:=wdz c;have hp:=hP k;rw[wI (by omega) (by omega)];refine Tt.bind (hr k (by omega)).fst λr hr=>?_;subst hr;refine waf (wem (by omega)) (wad ?_);rw[wI (by omega) (by omega)];exact hnx (n-(k+1)) _ (by omega) ⟨k+1,by omega,rfl,rfl⟩
  ·have c:=wd0 c;have:k=n:=by omega
   subst this;exact waf (wem (by omega)) (Tt.pure rfl)
theorem z8f(n m:Nat)(l:List jc)(z:Int):qp n (m+1) (l,z)=Yw n (qp n m) l z:=rfl
theorem z86(l:List jc)(hl:l.length<=1000)(e:E):∀s t:Nat,AtT (l.map qy) s e t->Tt wao (λi=>qp i.1 i.2 (l,(t:Int)-1)) (λr=>r=(s:Int)):=by
 have go:∀{e:E}{s t n:Nat}(h:AtT (l.map qy) s e t)(hn:arK (yo e)=some n)(P:Nat->Nat),P 0+1=t->P n=s->(∀k,P k<=l.length)->(∀k,k<n->Tt wao (λi=>qp i.1 i.2 (l,(P k:Int)-1)) (λr=>r=(P (k+1):Int)))->Tt wao (λi=>qp i.1 i.2 (l,(t:Int)-1)) (λr=>r=(s:Int)):=λ{e s t n}h hn P h0 h1 h2 h3=>by
  obtain⟨j,hj,hjt,hk⟩:=V3 h;obtain rfl:j=P 0:=by omega
  have hb:=jdl wbe (rec:=λi=>qp i.1 i.2) hl hj (by rw[hk];exact hn) P rfl h2 h3;rw[h1]at hb;have e1:(t:Int)-1=(P 0:Int):=by omega
  rw[e1];exact zr5 hb λn m=>z8f n m l _
 have h1:∀{a e:E}{s t:Nat},AtT (l.map qy) s e t->arK (yo e)=some 1->AtT (l.map qy) s a (t-1)->(∀s t:Nat,AtT (l.map qy) s a t->Tt wao (λi=>qp i.1 i.2 (l,(t:Int)-1)) (λr=>r=(s:Int)))->Tt wao (λi=>qp i.1 i.2 (l,(t:Int)-1)) (λr=>r=(s:Int)):=λ{a e s t}h hn ha ih=>by
  have hb:=h.bound;have hb2:=ha.bound;rw[weh]at hb hb2;refine go h hn (λk=>if k=0 then t-1 else s) (by simp;omega) (by simp) (λk=>by(try dsimp only);split<;>omega) λk hk=>?_;obtain rfl:k=0:=by omega
  exact ih s (t-1) ha
 have h2:∀{a b e:E}{s t:Nat},AtT (l.map qy) s e t->arK (yo e)=some 2->(∃m,AtT (l.map qy) s a m/\AtT (l.map qy) m b (t-1)/\s<m/\m<t-1)->(∀s t:Nat,AtT (l.map qy) s a t->Tt wao (λi=>qp i.1 i.2 (l,(t:Int)-1)) (λr=>r=(s:Int)))->(∀s t:Nat,AtT (l.map qy) s b t->Tt wao (λi=>qp i.1 i.2 (l,(t:Int)-1)) (λr=>r=(s:Int)))->Tt wao (λi=>qp i.1 i.2 (l,(t:Int)-1)) (λr=>r=(s:Int)):=λ{a b e s t}h hn⟨m,ha,hb,hsm,hmt⟩ iha ihb=>by
  have hbb:=h.bound;rw[weh]at hbb;refine go h hn (λk=>if k=0 then t-1 else if k=1 then m else s) (by simp;omega) (by simp) (λk=>by(try dsimp only);split;omega;split<;>omega) λk hk=>?_;have:k=0\/k=1:=by omega
  rcases this with rfl|rfl
  ·exact ihb m (t-1) hb
  ·exact iha s m ha
 have h0:∀{e:E}{s t:Nat},AtT (l.map qy) s e t->arK (yo e)=some 0->(post e).length=1->Tt wao (λi=>qp i.1 i.2 (l,(t:Int)-1)) (λr=>r=(s:Int)):=λ{e s t}h hn h1=>by
  have hb:=h.bound;rw[weh]at hb;have:t=s+1:=by obtain⟨_,_,_,_,h3⟩:=h;omega
  exact go h hn (λk=>s) this.symm rfl (λk=>by(try dsimp only);omega) λk hk=>by omega
 induction e with
 |set=>exact λs t h=>h0 h rfl rfl
 |empty=>exact λs t h=>h0 h rfl rfl
 |cat a b iha ihb=>exact λs t h=>h2 h rfl h.cat iha ihb
 |alt a b iha ihb=>exact λs t h=>h2 h rfl h.alt iha ihb
 |star a ih=>exact λs t h=>h1 h rfl h.star ih
 |plus a ih=>exact λs t h=>h1 h rfl h.plus ih
 |opt a ih=>exact λs t h=>h1 h rfl h.opt ih
theorem zd6(l:List jc)(hl:l.length<=1000){e:E}{s t:Nat}(h:AtT (l.map qy) s e t):Tn (λnn=>Q8 nn l ((t:Int)-1)) (λr=>r=(s:Int)):=zr6 (z86 l hl e s t h)
theorem z8s(l:List jc)(hl:l.length<=1000)(j:Nat)(hj:j<=l.length):Tn (λnn=>Zx nn l (j:Int)) (λr=>r=(Go.Proofs.YtdllbdlnmjngcaaGreat.numL (l.map qy) j:Int)):=by
 unfold Zx;refine Tt.loop (λm s=>∃k:Nat,k<=j/\m=j-k/\s=(l,(j:Int),(Go.Proofs.YtdllbdlnmjngcaaGreat.numL (l.map qy) k:Int),(k:Int))) j waa ⟨0,by omega,by omega,by simp[Go.Proofs.YtdllbdlnmjngcaaGreat.numL]⟩ λm s⟨k,hk,hm,hs⟩ nx hnx=>?_;subst hs;dsimp only;refine wab (λc=>?_) λc=>Tt.pure ?_
 ·have c:=wdz c;have hlt:k<l.length:=by omega
  have hs:=jad (l.map qy) k (by rw[weh];exact hlt);rw[List.getElem_map,show(qy l[k]).kind=(l[k]).1 from rfl]at hs;have hle:=z6f (l.map qy) k;refine Tt.J (λs=>s=(l,(j:Int),(Go.Proofs.YtdllbdlnmjngcaaGreat.numL (l.map qy) (k+1):Int),(k:Int))) (λny hny=>?_) λs hs=>?_
  ·refine wac _ (atN hlt) (wab (λc1=>wad (hny _ ?_)) λc1=>hny _ ?_)
   ·rw[hs,if_pos (wdz c1),wI (by omega) (by omega)];rfl
   ·rw[hs,if_neg (wd0 c1)];rfl
  ·subst hs;dsimp only;refine wad ?_;rw[wI (by omega) (by omega)];exact hnx (j-(k+1)) _ (by omega) ⟨k+1,by omega,rfl,rfl⟩
 ·have c:=wd0 c;have:k=j:=by omega
  rw[this]
theorem z58(n m:Nat)(l:List jc)(z:Int):zk n (m+1) (l,z)=y0 n (zk n m) l z:=rfl
theorem jb9(l:List jc)(hl:l.length<=1000)(e:E):∀s t:Nat,AtT (l.map qy) s e t->Tt wao (λi=>zk i.1 i.2 (l,(t:Int)-1)) (λr=>r=zw e):=by
 have go:∀{e:E}{s t:Nat}(h:AtT (l.map qy) s e t),Tt wao (λi=>y0 i.1 (zk i.1 i.2) l ((t:Int)-1)) (λr=>r=zw e)->Tt wao (λi=>zk i.1 i.2 (l,(t:Int)-1)) (λr=>r=zw e):=λh hb=>zr5 hb λn m=>z58 n m l _;have J1:∀{k:Int}{z:Int}{β:Type}{Q:β->Prop}{nx:Nat×Nat->(List jc)×Int×Int×Bool->Option β},(Tt wao (λi=>nx i (l,z,k,decide (k=2\/k=5\/k=7))) Q)->Tt wao (λi=>ja (some (decide (k=2))) λx11=>ifB x11 (nx i (l,z,k,true)) (ifB (decide (k=5)) (nx i (l,z,k,true)) (nx i (l,z,k,decide (k=7))))) Q:=λ{k z β Q nx}h=>by
  refine wad (wab (λc=>?_) λc=>wab (λc2=>?_) λc2=>?_)
  ·rw[wes (.inl (wdz c))]at h;exact h
  ·rw[wes (.inr (.inl (wdz c2)))]at h;exact h
  ·have c:=wd0 c;have c2:=wd0 c2;have:decide (k=7)=decide (k=2\/k=5\/k=7):=by simp[c,c2]
   rw[this];exact h
 induction e with
 |set=>
  intro s t h;refine go h ?_;obtain⟨j,hj,hjt,hk⟩:=V3 h;unfold y0;rw[show(t:Int)-1=(j:Int) by omega];refine wac _ (atN hj) ?_;rw[hk];exact wan rfl (Tt.pure rfl)
 |empty=>
  intro s t h;refine go h ?_;obtain⟨j,hj,hjt,hk⟩:=V3 h;unfold y0;rw[show(t:Int)-1=(j:Int) by omega];refine wac _ (atN hj) ?_;rw[hk];refine waf rfl (Tt.J (λs=>s.2.2.2=true) (λnx hnx=>J1 (hnx _ rfl)) λs hs=>wan hs (Tt.pure rfl))
 |star a ih=>
  intro s t h;refine go h ?_;obtain⟨j,hj,hjt,hk⟩:=V3 h;unfold y0;rw[show(t:Int)-1=(j:Int) by omega];refine wac _ (atN hj) ?_;rw[hk];refine waf rfl (Tt.J (λs=>s.2.2.2=true) (λnx hnx=>J1 (hnx _ rfl)) λs hs=>wan hs (Tt.pure rfl))
 |opt a ih=>
  intro s t h;refine go h ?_;obtain⟨j,hj,hjt,hk⟩:=V3 h;unfold y0;rw[show(t:Int)-1=(j:Int) by omega];refine wac _ (atN hj) ?_;rw[hk];refine waf rfl (Tt.J (λs=>s.2.2.2=true) (λnx hnx=>J1 (hnx _ rfl)) λs hs=>wan hs (Tt.pure rfl))
 |plus a ih=>
  intro s t h;refine go h ?_;obtain⟨j,hj,hjt,hk⟩:=V3 h;have ha:=h.plus;have hb:=ha.bound;rw[weh]at hb;have hq:=ih s (t-1) ha;unfold y0;rw[show(t:Int)-1=(j:Int) by omega];refine wac _ (atN hj) ?_;rw[hk];refine waf rfl (Tt.J (λs=>s=(l,(j:Int),6,false)) (λnx hnx=>J1 (hnx _ rfl)) λs hs=>?_);subst hs;dsimp only;rw[show T.w64 ((j:Int)-1)=((t-1:Nat):Int)-1 by rw[wI (by omega) (by omega)];omega];exact waf rfl (Tt.bind hq λr hr=>wan rfl (Tt.pure hr))
 |cat a b iha ihb=>
  intro s t h;refine go h ?_;obtain⟨j,hj,hjt,hk⟩:=V3 h;obtain⟨m,ha,hb,hsm,hmt⟩:=h.cat;have hbb:=hb.bound;have haa:=ha.bound;rw[weh]at hbb haa;have hqa:=iha s m ha;have hqb:=ihb m (t-1) hb;unfold y0;rw[show(t:Int)-1=(j:Int) by omega];refine wac _ (atN hj) ?_;rw[hk];refine waf rfl (Tt.J (λs=>s=(l,(j:Int),3,false)) (λnx hnx=>J1 (hnx _ rfl)) λs hs=>?_);subst hs;dsimp only;rw[show T.w64 ((j:Int)-1)=((t-1:Nat):Int)-1 by rw[wI (by omega) (by omega)];omega];refine waf rfl (Tt.bind hqb λfb hfb=>waf rfl (Tt.bind (Tt.call (zd6 l hl hb) wbe) λr hr=>?_));subst hr;rw[wI (by omega) (by omega)];refine Tt.bind hqa λfa hfa=>wan rfl (Tt.J (λs=>s=(fa && fb)) (λnx hnx=>wab (λc=>hnx _ (by rw[c];rfl)) λc=>hnx _ (by rw[c];rfl)) λs hs=>Tt.pure ?_);rw[hs,hfa,hfb];rfl
 |alt a b iha ihb=>
  intro s t h;refine go h ?_;obtain⟨j,hj,hjt,hk⟩:=V3 h;obtain⟨m,ha,hb,hsm,hmt⟩:=h.alt;have hbb:=hb.bound;have haa:=ha.bound;rw[weh]at hbb haa;have hqa:=iha s m ha;have hqb:=ihb m (t-1) hb;unfold y0;rw[show(t:Int)-1=(j:Int) by omega];refine wac _ (atN hj) ?_;rw[hk];refine waf rfl (Tt.J (λs=>s=(l,(j:Int),4,false)) (λnx hnx=>J1 (hnx _ rfl)) λs hs=>?_);subst hs;dsimp only;rw[show T.w64 ((j:Int)-1)=((t-1:Nat):Int)-1 by rw[wI (by omega) (by omega)];omega];refine waf rfl (Tt.bind hqb λfb hfb=>waf rfl (Tt.bind (Tt.call (zd6 l hl hb) wbe) λr hr=>?_));subst hr;rw[wI (by omega) (by omega)];refine Tt.bind hqa λfa hfa=>waf rfl (Tt.J (λs=>s=(fa ||fb)) (λnx hnx=>wab (λc=>hnx _ (by rw[c];rfl)) λc=>hnx _ (by rw[c];rfl)) λs hs=>Tt.pure ?_);rw[hs,hfa,hfb];rfl
theorem zs1(l:List jc)(hl:l.length<=1000){e:E}{s t:Nat}(h:AtT (l.map qy) s e t):Tn (λnn=>zfu nn l ((t:Int)-1)) (λr=>r=zw e):=zr6 (jb9 l hl e s t h)
def Yf(e:E)(n:Int)(last:Bool):List Int:=match last with
 |true=>qx e n
 |false=>qb e n
theorem z0v{l:List Int}{n m:Nat}(h:jx l)(hb:∀x∈l,(n:Int)<=x/\x<n+m)(hm:n+m<=1000):l.length<=1000:=(RN.len (n:=1000) ⟨h,λx hx=>by have:=hb x hx;omega⟩)
theorem zir(e:E)(n:Nat)(last:Bool)(h:n+jn e<=1000):(Yf e n last).length<=1000:=by
 cases last
 ·exact z0v (Qi e n).1 (Qi e n).2 h
 ·exact z0v (Zl e n).1 (Zl e n).2 h
theorem z5p(n m:Nat)(l:List jc)(z:Int)(b:Bool):vq n (m+1) (l,z,b)=Ju n (vq n m) l z b:=rfl
theorem znh{l:List jc}{e:E}{s t:Nat}(h:AtT (l.map qy) s e t):Go.Proofs.YtdllbdlnmjngcaaGreat.numL (l.map qy) s+jn e<=l.length:=by
 have h1:=h.num;have h2:=z6f (l.map qy) t;have h3:=h.bound;rw[weh]at h3;omega
theorem jdf(l:List jc)(hl:l.length<=1000)(last:Bool)(e:E):∀s t:Nat,AtT (l.map qy) s e t->Tt wao (λi=>vq i.1 i.2 (l,(t:Int)-1,last)) (λr=>r=Yf e (Go.Proofs.YtdllbdlnmjngcaaGreat.numL (l.map qy) s) last):=by
 have go:∀{e:E}{s t:Nat}(h:AtT (l.map qy) s e t),Tt wao (λi=>Ju i.1 (vq i.1 i.2) l ((t:Int)-1) last) (λr=>r=Yf e (Go.Proofs.YtdllbdlnmjngcaaGreat.numL (l.map qy) s) last)->Tt wao (λi=>vq i.1 i.2 (l,(t:Int)-1,last)) (λr=>r=Yf e (Go.Proofs.YtdllbdlnmjngcaaGreat.numL (l.map qy) s) last):=λh hb=>zr5 hb λn m=>z5p n m l _ _;have h1:∀{a e:E}{s t:Nat},AtT (l.map qy) s e t->yo e=5\/yo e=6\/yo e=7->AtT (l.map qy) s a (t-1)->Yf e (Go.Proofs.YtdllbdlnmjngcaaGreat.numL (l.map qy) s) last=Yf a (Go.Proofs.YtdllbdlnmjngcaaGreat.numL (l.map qy) s) last->(∀s t:Nat,AtT (l.map qy) s a t->Tt wao (λi=>vq i.1 i.2 (l,(t:Int)-1,last)) (λr=>r=Yf a (Go.Proofs.YtdllbdlnmjngcaaGreat.numL (l.map qy) s) last))->Tt wao (λi=>vq i.1 i.2 (l,(t:Int)-1,last)) (λr=>r=Yf e (Go.Proofs.YtdllbdlnmjngcaaGreat.numL (l.map qy) s) last):=λ{a e s t}h hk3 ha he ih=>by
  refine go h ?_;obtain⟨j,hj,hjt,hk⟩:=V3 h;have hb:=ha.bound;rw[weh]at hb;have hq:=ih s (t-1) ha;unfold Ju;rw[show(t:Int)-1=(j:Int) by omega];refine wac _ (atN hj) ?_;rw[hk];refine waf (wem (by omega)) (waf (wem (by omega)) ?_);rw[show T.w64 ((j:Int)-1)=((t-1:Nat):Int)-1 by rw[wI (by omega) (by omega)];omega];refine Tt.bind hq λr hr=>Tt.J (λs=>s.2.2.2.2.1=true/\s.2.2.2.2.2=r) (λnx hnx=>wad (wan (wes (by omega)) (hnx _ ⟨wes (by omega),rfl⟩))) λs hs=>wan hs.1 (Tt.pure ?_);rw[hs.2,hr,he]
 have h2:∀{a b e:E}{s t:Nat}(c:Bool),AtT (l.map qy) s e t->yo e=(match c with|true=>3|false=>4)->(∃m,AtT (l.map qy) s a m/\AtT (l.map qy) m b (t-1)/\s<m/\m<t-1)->(∀n,Yf e n last=(match last with|true=>(if c && !zw b then []else Yf a n last)++Yf b (n+jn a) last|false=>Yf a n last++(if c && !zw a then []else Yf b (n+jn a) last)))->(∀s t:Nat,AtT (l.map qy) s a t->Tt wao (λi=>vq i.1 i.2 (l,(t:Int)-1,last)) (λr=>r=Yf a (Go.Proofs.YtdllbdlnmjngcaaGreat.numL (l.map qy) s) last))->(∀s t:Nat,AtT (l.map qy) s b t->Tt wao (λi=>vq i.1 i.2 (l,(t:Int)-1,last)) (λr=>r=Yf b (Go.Proofs.YtdllbdlnmjngcaaGreat.numL (l.map qy) s) last))->Tt wao (λi=>vq i.1 i.2 (l,(t:Int)-1,last)) (λr=>r=Yf e (Go.Proofs.YtdllbdlnmjngcaaGreat.numL (l.map qy) s) last):=λ{a b e s t}c h hkc⟨m,ha,hb,hsm,hmt⟩ he iha ihb=>by
  refine go h ?_;obtain⟨j,hj,hjt,hk⟩:=V3 h;have hbb:=hb.bound;have haa:=ha.bound;rw[weh]at hbb haa;have hqa:=iha s m ha;have hqb:=ihb m (t-1) hb;have hnum:=ha.num;have hna:=znh ha;have hnb:=znh hb;rw[hnum]at hqb hnb;have hla:=zir a (Go.Proofs.YtdllbdlnmjngcaaGreat.numL (l.map qy) s) last (by omega);have hlb:=zir b (Go.Proofs.YtdllbdlnmjngcaaGreat.numL (l.map qy) s+jn a) last (by omega);have he:=he (Go.Proofs.YtdllbdlnmjngcaaGreat.numL (l.map qy) s);rw[wgq]at hqb hlb;generalize Yf a (Go.Proofs.YtdllbdlnmjngcaaGreat.numL (l.map qy) s) last=A at he hqa hla;generalize Yf b ((Go.Proofs.YtdllbdlnmjngcaaGreat.numL (l.map qy) s:Int)+jn a) last=B at he hqb hlb;generalize Yf e (Go.Proofs.YtdllbdlnmjngcaaGreat.numL (l.map qy) s) last=R at he⊢;unfold Ju;rw[show(t:Int)-1=(j:Int) by omega];refine wac _ (atN hj) ?_;rw[hk];have hk34:yo e=3\/yo e=4:=by rw[hkc];cases c<;>simp
  have hk3:decide (yo e=3)=c:=by rw[hkc];cases c<;>rfl
  generalize yo e=K at hk34 hk3;refine waf (wem (by omega)) (waf (wem (by omega)) ?_);have ew:T.w64 ((j:Int)-1)=((t-1:Nat):Int)-1:=by rw[wI (by omega) (by omega)];omega
  rw[ew];refine Tt.bind hqb λr hr=>?_;subst hr;refine Tt.J (λs=>s=(l,(j:Int),last,K,false,r)) (λnx hnx=>wad (wab (λh=>hnx _ ?_) λh=>hnx _ rfl)) λs hs=>?_
  ·have h:=wdz h;rw[wem (by omega)]
  subst hs;dsimp only;rw[ew];refine waf rfl (Tt.bind (Tt.call (zd6 l hl hb) wbe) λq hq=>wad ?_);subst hq;rw[wI (by omega) (by omega)];refine Tt.bind hqa λra hra=>?_;subst hra;refine Tt.J (λs=>∃z,s=(l,last,K,(m:Int)-1,z,r,ra)/\z=(c && last && !zw b)) (λnx hnx=>wad ?_) λs⟨z,hs,hz⟩=>?_
  ·rw[hk3];refine wab (λh=>wab (λh2=>?_) λh2=>hnx _ ⟨_,rfl,by rw[h2];simp⟩) λh=>hnx _ ⟨_,rfl,by rw[h];rfl⟩;exact Tt.bind (Tt.call (zs1 l hl hb) wbe) λq hq=>hnx _ ⟨_,rfl,by rw[h,h2,hq];rfl⟩
  ·subst hs;dsimp only;refine wab (λh=>Tt.pure ?_) λh=>?_
   ·rw[h]at hz;rw[he];cases last
    ·simp at hz
    ·cases c<;>cases hb:zw b<;>simp[hb]at hz⊢
   ·refine Tt.J (λs=>∃y,s=(y,r,ra)/\y=(c && !last && !zw a)) (λny hny=>wad ?_) λs⟨y,hs,hy⟩=>?_
    ·rw[hk3];refine wab (λh=>wab (λh2=>?_) λh2=>hny _ ⟨_,rfl,by rw[h];cases last<;>simp_all⟩) λh=>hny _ ⟨_,rfl,by rw[h];rfl⟩;exact Tt.bind (Tt.call (zs1 l hl ha) wbe) λq hq=>hny _ ⟨_,rfl,by rw[h,hq];cases last<;>simp_all⟩
    ·subst hs;dsimp only;refine wab (λh2=>Tt.pure ?_) λh2=>wac _ (Js (by omega) (by omega)) (Tt.pure ?_)
     ·rw[h2]at hy;rw[he];cases last
      ·cases c<;>cases hb:zw a<;>simp[hb]at hy⊢
      ·cases c<;>simp at hy
     ·rw[h]at hz;rw[h2]at hy;rw[he];cases last
      ·cases c<;>cases hb:zw a<;>simp[hb]at hy⊢
      ·cases c<;>cases hb:zw b<;>simp[hb]at hz⊢
 induction e with
 |set=>
  intro s t h;refine go h ?_;obtain⟨j,hj,hjt,hk⟩:=V3 h;have hjs:j=s:=by obtain⟨_,_,_,_,h3⟩:=h;simp[post]at h3;omega
  unfold Ju;rw[show(t:Int)-1=(j:Int) by omega];refine wac _ (atN hj) ?_;rw[hk];refine wan rfl (Tt.bind (Tt.call (z8s l hl j (by omega)) wbe) λr hr=>Tt.pure ?_);subst hr;rw[hjs];cases last<;>rfl
 |empty=>
  intro s t h;refine go h ?_;obtain⟨j,hj,hjt,hk⟩:=V3 h;unfold Ju;rw[show(t:Int)-1=(j:Int) by omega];refine wac _ (atN hj) ?_;rw[hk];refine waf rfl (wan rfl (Tt.pure ?_));cases last<;>rfl
 |cat a b iha ihb=>exact λs t h=>h2 true h rfl h.cat (λn=>by cases last<;>simp[Yf,qb,qx]<;>split<;>simp_all) iha ihb
 |alt a b iha ihb=>exact λs t h=>h2 false h rfl h.alt (λn=>by cases last<;>simp[Yf,qb,qx]) iha ihb
 |star a ih=>exact λs t h=>h1 h (.inl rfl) h.star (by cases last<;>rfl) ih
 |plus a ih=>exact λs t h=>h1 h (.inr (.inl rfl)) h.plus (by cases last<;>rfl) ih
 |opt a ih=>exact λs t h=>h1 h (.inr (.inr rfl)) h.opt (by cases last<;>rfl) ih
theorem zf4(l:List jc)(hl:l.length<=1000){e:E}{s t:Nat}(h:AtT (l.map qy) s e t)(last:Bool):Tn (λnn=>vu nn l ((t:Int)-1) last) (λr=>r=Yf e (Go.Proofs.YtdllbdlnmjngcaaGreat.numL (l.map qy) s) last):=zr6 (jdf l hl last e s t h)
theorem zow(l:List Int)(x:Int)(hl:l.length<=1000000):Tn (λnn=>v8 nn l x) (λr=>r=decide (x∈l)):=by
 unfold v8;refine Tt.loop (λm s=>∃k:Nat,k<=l.length/\m=l.length-k/\s=(l,x,(k:Int))/\(x∈l↔x∈l.drop k)) l.length waa ⟨0,by omega,by omega,rfl,by simp⟩ λm s⟨k,hk,hm,hs,he⟩ nx hnx=>?_;subst hs;dsimp only;refine wab (λc=>?_) λc=>Tt.pure ?_
 ·have c:=wdz c;have hlt:k<l.length:=by omega
  rw[wet hlt]at he;refine wac _ (atN hlt) (wab (λc1=>Tt.pure ?_) λc1=>wad ?_)
  ·exact(wes (he.2 (by rw[wdz c1];simp))).symm
  ·have c1:=wd0 c1;rw[wI (by omega) (by omega)];refine hnx (l.length-(k+1)) _ (by omega) ⟨k+1,by omega,rfl,rfl,?_⟩;rw[he,wek];exact⟨λh=>h.elim (λh=>absurd h.symm c1) id,.inr⟩
 ·have c:=wd0 c;have:k=l.length:=by omega
  rw[this,wfg]at he;exact(wem λh=>by simpa using he.1 h).symm
theorem jc5{α:Type}{l:List α}{p:α->Bool}{k:Nat}(hk:k<l.length):(l.take (k+1)).any p=((l.take k).any p ||p l[k]):=by
 rw[web hk,List.any_append];simp only[List.any_cons,List.any_nil,Bool.or_false]
theorem z5n(l:List jc)(hl:l.length<=1000){e:E}(he:l.map qy=post e)(a b:Int):Tn (λnn=>Y1 nn l a b) (λr=>r=zdt e 0 a b):=by
 have hsl:(V8 e 0).length=l.length:=by rw[ym,<- he,weh]
 have hw:AtT (l.map qy) 0 e l.length:=by
  have:=wcg e;rw[<- he,weh]at this;exact this
 have hn0:Go.Proofs.YtdllbdlnmjngcaaGreat.numL (l.map qy) 0=0:=by simp[Go.Proofs.YtdllbdlnmjngcaaGreat.numL]
 unfold Y1;refine Tt.loop (λm s=>∃k:Nat,k<=l.length/\m=l.length-k/\s=(l,a,b,(k:Int))/\(((V8 e 0).take k).any λx=>Yc x.1 x.2 a b)=false) l.length waa ⟨0,by omega,by omega,rfl,by simp⟩ λm s⟨k,hk,hm,hs,hf⟩ nx hnx=>?_;subst hs;dsimp only;refine wab (λc=>?_) λc=>Tt.pure ?_
 rotate_left
 ·have c:=wd0 c;have:k=l.length:=by omega
  rw[this,<- hsl,wen]at hf;exact hf.symm
 have c:=wdz c;have hlt:k<l.length:=by omega
 have hlt2:k<(V8 e 0).length:=by omega
 have hany:=jc5 (p:=λx:E×Int=>Yc x.1 x.2 a b) hlt2;rw[hf,Bool.false_or]at hany;have hyes:Yc ((V8 e 0)[k]).1 ((V8 e 0)[k]).2 a b=true->true=zdt e 0 a b:=λh=>by
  symm;unfold zdt;rw[wfz];exact⟨_,wec hlt2,h⟩
 obtain⟨x,hx⟩:∃x,(V8 e 0)[k]=x:=⟨_,rfl⟩
 obtain⟨s',hat,hns⟩:=jg8 (l.map qy) e 0 l.length hw k x (by rw[hn0,<- hx];exact wdy hlt2);rw[we3]at hat;rw[hx]at hany hyes;obtain⟨f,n⟩:=x;simp only at hat hns hany hyes;obtain⟨j,hj,hjt,hkd⟩:=V3 hat;obtain rfl:j=k:=by omega
 subst hns;have hno:Yc f (Go.Proofs.YtdllbdlnmjngcaaGreat.numL (l.map qy) s') a b=false->(((V8 e 0).take (j+1)).any λx=>Yc x.1 x.2 a b)=false:=λh=>by rw[hany];exact h
 refine Tt.J (λs=>s=(l,a,b,(j:Int))/\Yc f (Go.Proofs.YtdllbdlnmjngcaaGreat.numL (l.map qy) s') a b=false) (λny hny=>?_) λs⟨hs,hr⟩=>?_
 rotate_left
 ·subst hs;dsimp only;refine wad ?_;rw[wI (by omega) (by omega)];exact hnx (l.length-(j+1)) _ (by omega) ⟨j+1,by omega,rfl,rfl,hno hr⟩
 refine wac _ (atN hlt) ?_;rw[hkd];have two:∀{ι:Type}{D:Fi ι}{φ:ι->Nat},Big D φ->∀{p q:E}{s1 t1 s2 t2:Nat}{β:Type}{Q:β->Prop}{K:ι->Bool->Option β},AtT (l.map qy) s1 p t1->AtT (l.map qy) s2 q t2->∀{u v:Int},u=(t1:Int)-1->v=(t2:Int)-1->(Tt D (λi=>K i (decide (a∈qx p (Go.Proofs.YtdllbdlnmjngcaaGreat.numL (l.map qy) s1)) && decide (b∈qb q (Go.Proofs.YtdllbdlnmjngcaaGreat.numL (l.map qy) s2)))) Q)->Tt D (λi=>ja (vu (φ i) l u true) λx=>ja (v8 (φ i) x a) λy=>ifB y (ja (vu (φ i) l v false) λz=>ja (v8 (φ i) z b) λw=>K i w) (K i false)) Q:=λ{ι D φ}hφ{p q s1 t1 s2 t2 β Q K}hp hq{u v}hu hv hK=>by
  subst hu hv;have n1:=znh hp;have n2:=znh hq;have l1:=zir p (Go.Proofs.YtdllbdlnmjngcaaGreat.numL (l.map qy) s1) true (by omega);have l2:=zir q (Go.Proofs.YtdllbdlnmjngcaaGreat.numL (l.map qy) s2) false (by omega);refine Tt.bind (Tt.call (zf4 l hl hp true) hφ) λx hx=>?_;subst hx;refine Tt.bind (Tt.call (zow _ a (by omega)) hφ) λy hy=>?_;subst hy;refine wab (λc1=>?_) λc1=>?_
  ·refine Tt.bind (Tt.call (zf4 l hl hq false) hφ) λx hx=>?_;subst hx;refine Tt.bind (Tt.call (zow _ b (by omega)) hφ) λy hy=>?_;subst hy;have c1:decide (a∈qx p (Go.Proofs.YtdllbdlnmjngcaaGreat.numL (l.map qy) s1))=true:=c1;rw[c1,wg3]at hK;exact hK
  ·have c1:decide (a∈qx p (Go.Proofs.YtdllbdlnmjngcaaGreat.numL (l.map qy) s1))=false:=c1;rw[c1,Bool.false_and]at hK;exact hK
 have hbd:=hat.bound;rw[weh]at hbd;have ew:T.w64 ((j:Int)-1)=((j+1-1:Nat):Int)-1:=by rw[wI (by omega) (by omega)];omega
 have rep:∀{p:E},AtT (l.map qy) s' p (j+1-1)->(Yc f (Go.Proofs.YtdllbdlnmjngcaaGreat.numL (l.map qy) s') a b=(decide (a∈qx p (Go.Proofs.YtdllbdlnmjngcaaGreat.numL (l.map qy) s')) && decide (b∈qb p (Go.Proofs.YtdllbdlnmjngcaaGreat.numL (l.map qy) s'))))->yo f=5\/yo f=6->Tt wcf.mul (λi=>J (λ(x7:(List jc)×Int×Int×Int×Int)=>ifB (decide (x7.2.2.2.2=3)) (ja (Q8 i.1 x7.1 (w64 (x7.2.2.2.1-1))) λx9=>J (λ(x10:(List jc)×Int×Int×Int×Bool)=>ifB x10.2.2.2.2 (some true) (ny i (x10.1,x10.2.1,x10.2.2.1,x10.2.2.2.1))) λx11=>ja (vu i.1 x7.1 (w64 (x9-1)) true) λx12=>ja (v8 i.1 x12 x7.2.1) λx13=>ifB x13 (ja (vu i.1 x7.1 (w64 (x7.2.2.2.1-1)) false) λx14=>ja (v8 i.1 x14 x7.2.2.1) λx15=>x11 (x7.1,x7.2.1,x7.2.2.1,x7.2.2.2.1,x15)) (x11 (x7.1,x7.2.1,x7.2.2.1,x7.2.2.2.1,false))) (ny i (x7.1,x7.2.1,x7.2.2.1,x7.2.2.2.1))) λx8=>J (λ(x16:(List jc)×Int×Int×Int×Int×Bool)=>ifB x16.2.2.2.2.2 (J (λ(x18:(List jc)×Int×Int×Int×Int×Bool)=>ifB x18.2.2.2.2.2 (some true) (x8 (x18.1,x18.2.1,x18.2.2.1,x18.2.2.2.1,x18.2.2.2.2.1))) λx19=>ja (vu i.1 x16.1 (w64 (x16.2.2.2.1-1)) true) λx20=>ja (v8 i.1 x20 x16.2.1) λx21=>ifB x21 (ja (vu i.1 x16.1 (w64 (x16.2.2.2.1-1)) false) λx22=>ja (v8 i.1 x22 x16.2.2.1) λx23=>x19 (x16.1,x16.2.1,x16.2.2.1,x16.2.2.2.1,x16.2.2.2.2.1,x23)) (x19 (x16.1,x16.2.1,x16.2.2.1,x16.2.2.2.1,x16.2.2.2.2.1,false))) (x8 (x16.1,x16.2.1,x16.2.2.1,x16.2.2.2.1,x16.2.2.2.2.1))) λx17=>ja (some (decide (yo f=5))) λx24=>ifB x24 (x17 (l,a,b,(j:Int),yo f,true)) (x17 (l,a,b,(j:Int),yo f,decide (yo f=6)))) (λr=>r=zdt e 0 a b):=λ{p}hp hr hk56=>by
  generalize yo f=K at hk56;refine Tt.J (λs=>s=(l,a,b,(j:Int),K)/\Yc f (Go.Proofs.YtdllbdlnmjngcaaGreat.numL (l.map qy) s') a b=false) (λnz hnz=>?_) λs⟨hs,hr⟩=>?_
  ·refine Tt.J (λs=>s=(l,a,b,(j:Int),K,true)) (λnu hnu=>?_) λs hs=>?_
   ·refine wad (wab (λc=>hnu _ rfl) λc=>hnu _ ?_);have c:=wd0 c;rw[wes (by omega)]
   ·subst hs;dsimp only;refine wan rfl (Tt.J (λs=>s=(l,a,b,(j:Int),K,Yc f (Go.Proofs.YtdllbdlnmjngcaaGreat.numL (l.map qy) s') a b)) (λnu hnu=>?_) λs hs=>?_)
    ·refine two waa.fst (K:=λi w=>nu i (l,a,b,(j:Int),K,w)) hp hp ew ew (hnu _ ?_);rw[hr]
    ·subst hs;dsimp only;exact wab (λc=>Tt.pure (hyes c)) λc=>hnz _ ⟨rfl,c⟩
  ·subst hs;dsimp only;exact waf (wem (by omega)) (hny _ ⟨rfl,hr⟩)
 have oth:Yc f (Go.Proofs.YtdllbdlnmjngcaaGreat.numL (l.map qy) s') a b=false->yo f≠3->yo f≠5->yo f≠6->Tt wcf.mul (λi=>J (λ(x7:(List jc)×Int×Int×Int×Int)=>ifB (decide (x7.2.2.2.2=3)) (ja (Q8 i.1 x7.1 (w64 (x7.2.2.2.1-1))) λx9=>J (λ(x10:(List jc)×Int×Int×Int×Bool)=>ifB x10.2.2.2.2 (some true) (ny i (x10.1,x10.2.1,x10.2.2.1,x10.2.2.2.1))) λx11=>ja (vu i.1 x7.1 (w64 (x9-1)) true) λx12=>ja (v8 i.1 x12 x7.2.1) λx13=>ifB x13 (ja (vu i.1 x7.1 (w64 (x7.2.2.2.1-1)) false) λx14=>ja (v8 i.1 x14 x7.2.2.1) λx15=>x11 (x7.1,x7.2.1,x7.2.2.1,x7.2.2.2.1,x15)) (x11 (x7.1,x7.2.1,x7.2.2.1,x7.2.2.2.1,false))) (ny i (x7.1,x7.2.1,x7.2.2.1,x7.2.2.2.1))) λx8=>J (λ(x16:(List jc)×Int×Int×Int×Int×Bool)=>ifB x16.2.2.2.2.2 (J (λ(x18:(List jc)×Int×Int×Int×Int×Bool)=>ifB x18.2.2.2.2.2 (some true) (x8 (x18.1,x18.2.1,x18.2.2.1,x18.2.2.2.1,x18.2.2.2.2.1))) λx19=>ja (vu i.1 x16.1 (w64 (x16.2.2.2.1-1)) true) λx20=>ja (v8 i.1 x20 x16.2.1) λx21=>ifB x21 (ja (vu i.1 x16.1 (w64 (x16.2.2.2.1-1)) false) λx22=>ja (v8 i.1 x22 x16.2.2.1) λx23=>x19 (x16.1,x16.2.1,x16.2.2.1,x16.2.2.2.1,x16.2.2.2.2.1,x23)) (x19 (x16.1,x16.2.1,x16.2.2.1,x16.2.2.2.1,x16.2.2.2.2.1,false))) (x8 (x16.1,x16.2.1,x16.2.2.1,x16.2.2.2.1,x16.2.2.2.2.1))) λx17=>ja (some (decide (yo f=5))) λx24=>ifB x24 (x17 (l,a,b,(j:Int),yo f,true)) (x17 (l,a,b,(j:Int),yo f,decide (yo f=6)))) (λr=>r=zdt e 0 a b):=λhr h3 h5 h6=>by
  generalize yo f=K at h3 h5 h6;refine Tt.J (λs=>s=(l,a,b,(j:Int),K)) (λnz hnz=>?_) λs hs=>?_
  ·refine Tt.J (λs=>s=(l,a,b,(j:Int),K,false)) (λnu hnu=>wad (waf (wem h5) (hnu _ ?_))) λs hs=>?_
   ·rw[wem h6]
   ·subst hs;exact waf rfl (hnz _ rfl)
  ·subst hs;exact waf (wem h3) (hny _ ⟨rfl,hr⟩)
 cases f with
 |set=>exact oth rfl (by simp[yo]) (by simp[yo]) (by simp[yo])
 |empty=>exact oth rfl (by simp[yo]) (by simp[yo]) (by simp[yo])
 |alt p q=>exact oth rfl (by simp[yo]) (by simp[yo]) (by simp[yo])
 |opt p=>exact oth rfl (by simp[yo]) (by simp[yo]) (by simp[yo])
 |star p=>exact rep hat.star rfl (.inl rfl)
 |plus p=>exact rep hat.plus rfl (.inr rfl)
 |cat p q=>
  obtain⟨m',hp,hq,hm1,hm2⟩:=hat.cat;have hbp:=hp.bound;rw[weh]at hbp;refine Tt.J (λs=>s=(l,a,b,(j:Int),3)) (λnz hnz=>?_) λs hs=>?_
  ·refine Tt.J (λs=>s=(l,a,b,(j:Int),3,false)) (λnu hnu=>wad (waf rfl (hnu _ rfl))) λs hs=>?_;subst hs;exact waf rfl (hnz _ rfl)
  ·subst hs;dsimp only;rw[ew];refine wan rfl (Tt.bind (Tt.call (zd6 l hl hq) waa.fst) λr hr=>?_);subst hr;refine Tt.J (λs=>s=(l,a,b,(j:Int),Yc (.cat p q) (Go.Proofs.YtdllbdlnmjngcaaGreat.numL (l.map qy) s') a b)) (λnu hnu=>?_) λs hs=>?_
   ·refine two waa.fst (K:=λi w=>nu i (l,a,b,(j:Int),w)) hp hq (wI (by omega) (by omega)) rfl (hnu _ ?_);rw[hp.num];rfl
   ·subst hs;dsimp only;exact wab (λc=>Tt.pure (hyes c)) λc=>hny _ ⟨rfl,c⟩
theorem zq8{l:List jc}(hc:Yg l=0):AtT (l.map qy) 0 (qn l) l.length:=by
 have:=wcg (qn l);rw[<- zt7 hc,weh]at this;exact this
theorem jip(l:List Rx):Go.Proofs.YtdllbdlnmjngcaaGreat.numL l 0=0:=by simp[Go.Proofs.YtdllbdlnmjngcaaGreat.numL]
theorem ze2{l:List jc}(hc:Yg l=0):jn (qn l)=(yw l).length:=(z9u (zt7 hc)).symm
theorem zcr{l:List jc}(hc:Yg l=0):jn (qn l)<=512:=by
 have h1:=znh (zq8 hc);have:=(Z6 hc).2;omega
theorem zrl(l:List jc)(hc:Yg l=0):Tn (λnn=>V6 nn l) (λr=>r=yw l):=by
 have hW:=(Z6 hc).2;unfold V6;refine Tt.bind (Tt.call (zmx l (by omega)) waa) λe he=>?_;rw[hc]at he;subst he;refine waf rfl ?_;refine Tt.loop (λm s=>∃k:Nat,k<=l.length/\m=l.length-k/\s=(l,(k:Int),yw (l.take k))) l.length waa ⟨0,by omega,by omega,rfl⟩ λm s⟨k,hk,hm,hs⟩ nx hnx=>?_;subst hs;dsimp only;refine wab (λc=>?_) λc=>Tt.pure ?_
 ·have c:=wdz c;have hlt:k<l.length:=by omega
  have hsn:yw (l.take (k+1))=yw (l.take k)++if(l[k]).1=1 then [(l[k]).2.1]else []:=by rw[web hlt,zsu]
  have hsl:(yw (l.take k)).length<=512:=by
   unfold yw;rw[weh];have h1:=wf0 (λx:jc=>decide (x.1=1)) (l.take k);have h2:(l.take k).length<=l.length:=by rw[wff];omega
   omega
  refine Tt.J (λs=>s=(l,(k:Int),yw (l.take (k+1)))) (λny hny=>?_) λs hs=>?_
  ·refine wac _ (atN hlt) (wab (λc1=>?_) λc1=>hny _ ?_)
   ·refine wac _ (atN hlt) (wac _ (Js (by simp;omega) (by omega)) (hny _ ?_));rw[hsn,if_pos (wdz c1)]
   ·rw[hsn,if_neg (wd0 c1),weo]
  ·subst hs;dsimp only;refine wad ?_;rw[wI (by omega) (by omega)];exact hnx (l.length-(k+1)) _ (by omega) ⟨k+1,by omega,rfl,rfl⟩
 ·have c:=wd0 c;have:k=l.length:=by omega
  rw[this,wen]
theorem zyl(l:List jc)(hc:Yg l=0):Tn (λnn=>Zv nn l) (λr=>r=qx (qn l) 0):=by
 have hW:=(Z6 hc).2;unfold Zv;refine Tt.bind (Tt.call (zmx l (by omega)) waa) λe he=>?_;rw[hc]at he;subst he;refine waf rfl ?_;rw[wI (by omega) (by omega)];refine Tt.bind (Tt.call (zf4 l (by omega) (zq8 hc) true) waa) λr hr=>Tt.pure ?_;rw[hr,jip];rfl
theorem zvf(l:List jc)(hc:Yg l=0):Tn (λnn=>Yl nn l) (λr=>r=qb (qn l) 0):=by
 have hW:=(Z6 hc).2;unfold Yl;refine Tt.bind (Tt.call (zmx l (by omega)) waa) λe he=>?_;rw[hc]at he;subst he;refine waf rfl ?_;rw[wI (by omega) (by omega)];refine Tt.bind (Tt.call (zf4 l (by omega) (zq8 hc) false) waa) λr hr=>Tt.pure ?_;rw[hr,jip];rfl
theorem jfo(e:E)(i:Int)(k:Nat):((List.range (k+1)).map λ(b:Nat)=>(b:Int)).filter (λb=>zdt e 0 i b)=(((List.range k).map λ(b:Nat)=>(b:Int)).filter λb=>zdt e 0 i b)++if zdt e 0 i k=true then [(k:Int)]else []:=by
 rw[List.range_succ,we8,wgt];congr 1;by_cases h:zdt e 0 i k=true<;>simp[h]
theorem zsy(l:List jc)(hc:Yg l=0)(i:Nat)(hi:i<jn (qn l)):Tn (λnn=>Vq nn l (i:Int)) (λr=>r=zuh (qn l) i):=by
 have hW:=(Z6 hc).2;have hn:=ze2 hc;have hn2:=zcr hc;unfold Vq;refine Tt.bind (Tt.call (zrl l hc) waa) λr hr=>?_;subst hr;rw[<- hn];refine wad ?_;unfold zuh;refine Tt.loop (λm s=>∃(k:Nat)(o:List Int),k<=jn (qn l)/\m=jn (qn l)-k/\s=(l,(i:Int),(jn (qn l):Int),(k:Int),o)/\o=((List.range k).map λ(b:Nat)=>(b:Int)).filter λb=>zdt (qn l) 0 i b) (jn (qn l)) waa ⟨0,_,by omega,by omega,rfl,rfl⟩ λm s⟨k,o,hk,hm,hs,ho⟩ nx hnx=>?_;subst hs;dsimp only;refine wab (λc=>?_) λc=>Tt.pure ?_
 ·have c:=wdz c;have hol:o.length<=512:=by
   rw[ho];have h1:=wf0 (λb=>zdt (qn l) 0 i b) ((List.range k).map λ(b:Nat)=>(b:Int));rw[weh,List.length_range]at h1;omega
  have hsn:=jfo (qn l) i k;rw[<- ho]at hsn;refine Tt.J (λs=>s=(l,(i:Int),(jn (qn l):Int),(k:Int),((List.range (k+1)).map λ(b:Nat)=>(b:Int)).filter λb=>zdt (qn l) 0 i b)) (λny hny=>?_) λs hs=>?_
  ·refine Tt.J (λs=>s=(l,(i:Int),(jn (qn l):Int),(k:Int),zdt (qn l) 0 i k,o)) (λnz hnz=>?_) λs hs=>?_
   ·refine wad (wan (wes (by omega)) (wan (wes (by omega)) ?_));refine Tt.bind (Tt.call (z5n l (by omega) (zt7 hc) i k) waa.fst) λr hr=>hnz _ (by rw[hr])
   ·subst hs;dsimp only;refine wab (λc1=>wac _ (Js (by simp;omega) (by omega)) (hny _ ?_)) λc1=>hny _ ?_
    ·rw[hsn,if_pos c1]
    ·rw[hsn,if_neg (by simp[c1]),weo]
  ·subst hs;dsimp only;refine wad ?_;rw[wI (by omega) (by omega)];exact hnx (jn (qn l)-(k+1)) _ (by omega) ⟨k+1,_,by omega,rfl,rfl,rfl⟩
 ·have c:=wd0 c;have:k=jn (qn l):=by omega
  rw[ho,this]
theorem zq7(l:List jc)(hc:Yg l=0):Tn (λnn=>Qj nn l) (λr=>∃fol,r=some (yw l,fol,zi (qn l) 0,())/\fol.length=jn (qn l)/\FolOk fol (Yp (qn l) 0)):=
 Tt.mono (jgk l hc) λr⟨e,fol,h1,h2,h3,h4⟩=>by rw[z1h h1];exact⟨fol,h2,h3,h4⟩
theorem z8c(l:List jc)(hc:Yg l=0):Tn (λnn=>zd8 nn l) (λr=>r=yw l):=by
 unfold zd8;refine Tt.bind (Tt.call (zq7 l hc) waa) λr⟨fol,hr,h1,h2⟩=>?_;subst hr;exact wan rfl (wad (Tt.pure rfl))
theorem z8h(l:List jc)(hc:Yg l=0):Tn (λnn=>zd2 nn l) (λr=>r=qx (qn l) 0):=by
 unfold zd2;refine Tt.bind (Tt.call (zq7 l hc) waa) λr⟨fol,hr,h1,h2⟩=>?_;subst hr;exact wan rfl (wad (Tt.pure rfl))
theorem z6b(l:List jc)(hc:Yg l=0):Tn (λnn=>zco nn l) (λr=>r=qb (qn l) 0):=by
 unfold zco;refine Tt.bind (Tt.call (zq7 l hc) waa) λr⟨fol,hr,h1,h2⟩=>?_;subst hr;exact wan rfl (wad (Tt.pure rfl))
theorem z3k(l:List jc)(hc:Yg l=0)(i:Nat)(hi:i<jn (qn l)):Tn (λnn=>zbd nn l (i:Int)) (λr=>r=zuh (qn l) i):=by
 unfold zbd;refine Tt.bind (Tt.call (zq7 l hc) waa) λr⟨fol,hr,h1,h2⟩=>?_;subst hr;refine Tt.J (λs=>s=((i:Int),some (yw l,fol,zi (qn l) 0,()),true)) (λnx hnx=>wad (wan rfl (wan (wes (by omega)) (wad (hnx _ ?_))))) λs hs=>?_
 ·rw[wes];show(i:Int)<(jn (qn l):Int);omega
 ·subst hs;have hif:i<fol.length:=by omega
  refine wan rfl (wad (wac _ (atN hif) (Tt.pure ?_)));obtain⟨q1,q2⟩:=h2 i _ (wdy hif);exact jgw q1 q2
theorem jg3(a b:Int):Tn (λnn=>qg nn a b) (λr=>r=decide (a<b)):=by
 unfold qg;refine Tt.J (λs=>s=decide (a<b)) (λnx hnx=>?_) λs hs=>Tt.pure hs;refine Tt.bind (R:=λr=>r=false) (Tt.pure (by simp)) λr hr=>?_;subst hr;exact waf rfl (hnx _ rfl)
theorem zqz{l:List Int}(h:jx l){i j:Nat}(hi:i<j)(hj:j<l.length):l[i]'(by omega)<l[j]:=by
 have:=wgw.1 h i j (by omega) hj hi;exact this
theorem bs_ex(l:List Int)(x:Int)(hl:l.length<=1000000)(hr:jx l):Tn (λnn=>yf nn l x) (λr=>r.2.1=decide (x∈l)):=by
 unfold yf;refine wad ?_;refine Tt.loop (λm s=>∃(a b:Nat),a<=b/\b<=l.length/\m=b-a/\s=(l,x,(l.length:Int),(a:Int),(b:Int))/\∀(i:Nat)(hi:i<l.length),(i<a->l[i]<x)/\(b<=i->x<=l[i])) l.length waa ⟨0,l.length,by omega,by omega,by omega,rfl,λi hi=>⟨λh=>by omega,λh=>by omega⟩⟩ λm s⟨a,b,hab,hb,hm,hs,hI⟩ nx hnx=>?_;subst hs;dsimp only;refine wab (λc=>?_) (λc=>?_)
 ·have c:=wdz c;have hlt:(a+b) / 2<l.length:=by omega
  refine Tt.J (λs=>∃(a' b':Nat),a'<=b'/\b'<=l.length/\b'-a'<b-a/\s=(l,x,(l.length:Int),(a':Int),(b':Int))/\∀(i:Nat)(hi:i<l.length),(i<a'->l[i]<x)/\(b'<=i->x<=l[i])) (λny hny=>?_) λs⟨a',b',h1,h2,h3,hs,h4⟩=>?_
  ·refine wac _ (mid_eq a b (by omega)) (wad ?_);have ew:wr .i64 (((a+b) / 2:Nat):Int)=(((a+b) / 2:Nat):Int):=Zf (by omega) (by omega);rw[ew];refine wac _ (atN hlt) (Tt.bind (Tt.call (jg3 _ _) waa.fst) λr hr2=>?_);subst hr2;refine wab (λc1=>wad ?_) λc1=>hny _ ⟨a,(a+b) / 2,by omega,by omega,by omega,rfl,λi hi=>⟨(hI i hi).1,λh=>?_⟩⟩
   ·have c1:=wdz c1;rw[wI (by omega) (by omega)];refine hny _ ⟨(a+b) / 2+1,b,by omega,by omega,by omega,by simp,λi hi=>⟨λh=>?_,(hI i hi).2⟩⟩;by_cases e:i=(a+b) / 2
    ·subst e;exact c1
    ·have:=zqz hr (i:=i) (j:=(a+b) / 2) (by omega) hlt;omega
   ·have c1:=wd0 c1;by_cases e:i=(a+b) / 2
    ·subst e;omega
    ·have:=zqz hr (i:=(a+b) / 2) (j:=i) (by omega) hi;omega
  ·subst hs;exact hnx _ _ (by omega) ⟨a',b',h1,h2,rfl,rfl,h4⟩
 ·have c:=wd0 c;have hno:(∀(h:a<l.length),l[a]≠x)->x∉l:=λh hx=>by
   obtain⟨i,hi,rfl⟩:=wf5 hx;have h1:=hI i hi;by_cases h2:i<a
   ·have:=h1.1 h2;omega
   ·by_cases e:i=a
    ·subst e;exact h hi rfl
    ·have:=zqz hr (i:=a) (j:=i) (by omega) hi;have:=(hI a (by omega)).2 (by omega);omega
  refine Tt.J (λs=>s.2=decide (x∈l)) (λny hny=>wad (wab (λc=>?_) λc=>hny _ ?_)) λs hs=>Tt.pure hs
  ·have c:=wdz c;have hlt:a<l.length:=by omega
   refine wac _ (atN hlt) (wad (wab (λc1=>hny _ ?_) λc1=>?_))
   ·have c1:=wdz c1;rw[wes (by rw[<- c1];exact wec hlt)]
   ·have c1:=wd0 c1;have h2:decide (x∈l)=false:=wem (hno λ_=>c1);refine wac _ (atN hlt) (Tt.bind (R:=λr=>r=false) (Tt.pure (by simp)) λr hr3=>?_);subst hr3;exact waf rfl (hny _ h2.symm)
  ·have c:=wd0 c;exact(wem (hno λh=>by omega)).symm
theorem Has_ex(l:List Int)(x:Int)(hl:l.length<=1000000)(hr:jx l):Tn (λnn=>zfe nn l x) (λr=>r=decide (x∈l)):=by
 unfold zfe;exact Tt.bind (Tt.call (bs_ex l x hl hr) waa) λr h=>Tt.pure h
theorem zxn(l:List Int)(b:Nat)(hl:l.length<=1000000)(hb:b<=1000000)(hx:∀x∈l,0<=x/\x<=1000000):Tn (λnn=>Vd nn l (b:Int)) (λr=>r=l.map λx=>x+(b:Int)):=by
 unfold Vd;refine wad (wac _ (mkN hl (by omega)) ?_);refine Tt.loop (λm s=>∃(k:Nat)(out:List Int),k<=l.length/\m=l.length-k/\s=(l,(b:Int),(l.length:Int),(k:Int),out)/\out.length=l.length/\out.take k=(l.take k).map λx=>x+(b:Int)) l.length waa ⟨0,_,by omega,by omega,rfl,by simp,rfl⟩ λm s⟨k,out,hk,hm,hs,ho,ht⟩ nx hnx=>?_;subst hs;dsimp only;refine wab (λc=>?_) (λc=>Tt.pure ?_)
 ·have c:=wdz c;have hlt:k<l.length:=by omega
  have hxk:=hx _ (wec hlt);refine wac _ (atN hlt) (wac _ (zh (by omega)) (wac _ (zit _ (by omega)) (wad ?_)));rw[wI (z:=(k:Int)+1) (by omega) (by omega),wI (by omega) (by omega)];refine hnx (l.length-(k+1)) _ (by omega) ⟨k+1,out.set k (l[k]+b),by omega,rfl,rfl,by simp[ho],?_⟩;rw[web hlt,we8,<- ht,web (by simp;omega)];congr 1
  ·rw[List.take_set_of_le (by omega)]
  ·simp
 ·have c:=wd0 c;have:k=l.length:=by omega
  rw[this,wen,<- ho,wen]at ht;exact ht
theorem z2p(l:List Int)(b:Nat)(hl:l.length<=1000000)(hb:b<=1000000)(hx:∀x∈l,0<=x/\x<=1000000):Tn (λnn=>Q0 nn l (b:Int)) (λr=>r=l.map λx=>x+(b:Int)):=by
 unfold Q0;refine Tt.loop (λm s=>∃k:Nat,k<=l.length/\m=l.length-k/\s=(l,(b:Int),(k:Int),(l.take k).map λx=>x+(b:Int))) l.length waa ⟨0,by omega,by omega,rfl⟩ λm s⟨k,hk,hm,hs⟩ nx hnx=>?_;subst hs;dsimp only;refine wab (λc=>?_) (λc=>Tt.pure ?_)
 ·have c:=wdz c;have hlt:k<l.length:=by omega
  have hxk:=hx _ (wec hlt);refine wac _ (atN hlt) (wac _ (Js (by simp;omega) (by omega)) (wad ?_));rw[wI (z:=(k:Int)+1) (by omega) (by omega),wI (by omega) (by omega)];refine hnx (l.length-(k+1)) _ (by omega) ⟨k+1,by omega,rfl,?_⟩;rw[web hlt,we8];rfl
 ·have c:=wd0 c;have:k=l.length:=by omega
  rw[this,wen]
noncomputable def Qv(n:je)(t:Nat)(l:List jc)(j:Nat):je:=
 (n.1++(yw l).take j,n.2.1++List.replicate j (t:Int),n.2.2.1++(List.range j).map (λ(i:Nat)=>decide ((i:Int)∈qx (qn l) 0)),n.2.2.2.1++(List.range j).map (λ(i:Nat)=>(zuh (qn l) i).map λx=>x+(n.1.length:Int)),n.2.2.2.2.1,())
noncomputable def zn4(n:je)(t:Nat)(l:List jc):je:=
 let m:=Qv n t l (jn (qn l))
 (m.1,m.2.1,m.2.2.1,m.2.2.2.1,n.2.2.2.2.1++(qb (qn l) 0).map (λx=>x+(n.1.length:Int)),())
noncomputable def Jh(l:List jv):Nat->je
 |0=>([],[],[],[],[],())
 |k+1=>zn4 (Jh l k) k (l.getD k ([],[],0,())).2.1
theorem zie{l:List jv}{k:Nat}(hk:k<l.length):Jh l (k+1)=zn4 (Jh l k) k (l[k]).2.1:=by
 show zn4 (Jh l k) k (l.getD k ([],[],0,())).2.1=_;rw[wev,wdy hk];rfl
structure NetI(k:Nat)(n:je):Prop where
 o:n.2.1.length=n.1.length
 l:n.2.2.1.length=n.1.length
 f:n.2.2.2.1.length=n.1.length
 ob:∀x∈n.2.1,0<=x/\x<(k:Int)
 fr:∀x∈n.2.2.2.1,RN n.1.length x/\x.length<=512
 fi:RN n.1.length n.2.2.2.2.1
theorem z6i{l:List Int}(b:Int)(h:jx l):jx (l.map λx=>x+b):=by
 unfold jx at h⊢;rw[List.pairwise_map];exact h.imp λh=>by omega
theorem jdq{l:List Int}{n b m:Nat}(h:RN n l)(hm:b+n<=m):RN m (l.map λx=>x+(b:Int)):=⟨z6i _ h.r,λx hx=>by
 obtain⟨y,hy,rfl⟩:=wee.1 hx;have:=h.b y hy;omega⟩
theorem zst{n:je}{t:Nat}{l:List jc}{j:Nat}(hj:j<=(yw l).length):(Qv n t l j).1.length=n.1.length+j:=by
 unfold Qv;simp[hj]
theorem NetI.next{k:Nat}{n:je}(h:NetI k n){l:List jc}(hc:Yg l=0):NetI (k+1) (zn4 n k l)/\(zn4 n k l).1.length=n.1.length+(yw l).length:=by
 have hn:=ze2 hc;have hn5:=zcr hc;have hlen:(zn4 n k l).1.length=n.1.length+(yw l).length:=by
  show(Qv n k l (jn (qn l))).1.length=_;rw[zst (by omega),hn]
 refine⟨⟨?_,?_,?_,λx hx=>?_,λx hx=>?_,?_⟩,hlen⟩
 ·rw[hlen];simp[zn4,Qv,h.o,hn]
 ·rw[hlen];simp[zn4,Qv,h.l,hn]
 ·rw[hlen];simp[zn4,Qv,h.f,hn]
 ·simp only[zn4,Qv,wd7,List.mem_replicate]at hx;rcases hx with hx|⟨_,rfl⟩
  ·have:=h.ob x hx;omega
  ·omega
 ·simp only[zn4,Qv,wd7,wee,wfl]at hx;rcases hx with hx|⟨i,hi,rfl⟩
  ·obtain⟨h1,h2⟩:=h.fr x hx;exact⟨h1.up (by omega),h2⟩
  ·have hr:=zz1 (qn l) i;refine⟨jdq hr (by omega),?_⟩;rw[weh];have:=hr.len;omega
 ·have h1:=h.fi;have hr:=jdq (b:=n.1.length) (m:=(zn4 n k l).1.length) (zbu (qn l) 0 (jn (qn l)) (by omega)) (by omega);show RN _ (n.2.2.2.2.1++(qb (qn l) 0).map (λx=>x+(n.1.length:Int)));refine⟨?_,λx hx=>?_⟩
  ·unfold jx;rw[wgz];refine⟨h1.r,z6i _ (Qi (qn l) 0).1,λx hx y hy=>?_⟩;obtain⟨z,hz,rfl⟩:=wee.1 hy;have:=h1.b x hx;have:=(Qi (qn l) 0).2 z hz;omega
  ·rcases wd7.1 hx with hx|hx
   ·exact(h1.up (by omega)).b x hx
   ·exact hr.b x hx
theorem zid{l:List jv}(hc:∀t∈l,Yg t.2.1=0):∀k,k<=l.length->NetI k (Jh l k)/\(Jh l k).1.length<=Zj (l.take k)
 |0,_=>⟨⟨rfl,rfl,rfl,λx hx=>by simp[Jh]at hx,λx hx=>by simp[Jh]at hx,RN.nil _⟩,by simp[Jh]⟩
 |k+1,hk=>by
  obtain⟨h1,h2⟩:=zid hc k (by omega);rw[zie (by omega),zxa (by omega)];have hcl:=hc _ (wec (show k<l.length by omega));obtain⟨h3,h4⟩:=h1.next hcl
  refine⟨h3,?_⟩;have h5:=ze2 hcl;have h6:=znh (zq8 hcl);have:=(Z6 hcl).2;omega
theorem zh6{l:List jv}{P:Arr 4 Int->Prop}(hP:∀t∈l,∀x∈t.2.1,P x.2.1):∀k,k<=l.length->∀s∈(Jh l k).1,P s
 |0,_,s,hs=>by simp[Jh]at hs
 |k+1,hk,s,hs=>by
  rw[zie (by omega)]at hs;simp only[zn4,Qv,wd7]at hs;rcases hs with hs|hs
  ·exact zh6 hP k (by omega) s hs
  ·have hs:=wga hs;unfold yw at hs;obtain⟨x,hx,rfl⟩:=wee.1 hs;exact hP _ (wec (show k<l.length by omega)) x (wgh.1 hx).1
theorem zwf{n:je}{t:Nat}{l:List jc}{j:Nat}(hj:j<(yw l).length):Qv n t l (j+1)=((Qv n t l j).1++[(yw l)[j]],(Qv n t l j).2.1++[(t:Int)],(Qv n t l j).2.2.1++[decide ((j:Int)∈qx (qn l) 0)],(Qv n t l j).2.2.2.1++[(zuh (qn l) j).map λx=>x+(n.1.length:Int)],n.2.2.2.2.1,()):=by
 unfold Qv;simp only[List.range_succ,we8,wel,wfb,wey];rw[web hj,List.replicate_succ']
theorem je1{n:je}{t:Nat}{l:List jc}:Qv n t l 0=n:=by
 unfold Qv;simp
theorem jia(l:List jv)(hl:l.length<=50)(hc:∀t∈l,Yg t.2.1=0)(hN:Zj l<=1000):Tn (λnn=>Y9 nn l) (λr=>r=Jh l l.length):=by
 unfold Y9;refine Tt.loop (λm s=>∃(k:Nat)(c1:List (Arr 4 Int))(c2:List Int)(c3:List Bool)(c4:List (List Int))(c5:List Int),k<=l.length/\m=l.length-k/\s=(l,(l.length:Int),(k:Int),c1,c2,c3,c4,c5,(Jh l k).1,(Jh l k).2.1,(Jh l k).2.2.1,(Jh l k).2.2.2.1,(Jh l k).2.2.2.2.1)) l.length waa ⟨0,_,_,_,_,_,by omega,by omega,rfl⟩ λm s⟨k,c1,c2,c3,c4,c5,hk,hm,hs⟩ nx hnx=>?_;subst hs;dsimp only;refine wab (λc=>?_) (λc=>?_)
 ·have c:=wdz c;have hlt:k<l.length:=by omega
  have hcl:=hc _ (wec hlt);obtain⟨hI,hK⟩:=zid hc k hk;have hK2:=(zid hc (k+1) hlt).2;have hsuc:=zie hlt;have hrm:∀{j},j<=l.length->Zj (l.take j)<=1000:=λ{j}hj=>by
   refine wfc ?_ hN;have:Zj l=Zj (l.take j)+Zj (l.drop j):=by
    conv=>lhs;rw[<- wfo j l]
    unfold Zj;rw[we8,List.sum_append]
   omega
  have hKk:=hrm hk;have hKk2:=hrm (j:=k+1) hlt;have hnx1:=(hI.next hcl).2;rw[hsuc,hnx1]at hK2;refine wac _ (atN hlt) (wad ?_);generalize l[k]=t at hcl hsuc hnx1 hK2⊢;have hns:=ze2 hcl;have hn5:=zcr hcl;refine Tt.bind (Tt.call (z8h _ hcl) waa.fst) λla hla=>?_;subst hla;refine Tt.bind (Tt.call (z8c _ hcl) waa.fst) λse hse=>?_;subst hse;generalize hn:Jh l k=n at hI hK hnx1 hsuc hK2⊢;refine Tt.loop (λm s=>∃(j:Nat),j<=(yw t.2.1).length/\m=(yw t.2.1).length-j/\s=(l,(k:Int),t.2.1,(n.1.length:Int),qx (qn t.2.1) 0,(l.length:Int),(k:Int),yw t.2.1,((yw t.2.1).length:Int),(j:Int),c1,c2,c3,c4,c5,(Qv n k t.2.1 j).1,(Qv n k t.2.1 j).2.1,(Qv n k t.2.1 j).2.2.1,(Qv n k t.2.1 j).2.2.2.1,n.2.2.2.2.1)) (yw t.2.1).length waa.fst ⟨0,by omega,by omega,by rw[je1];rfl⟩ λm s⟨j,hj,hm,hs⟩ ny hny=>?_;subst hs;dsimp only;have a1:=zst (n:=n) (t:=k) hj;have a2:(Qv n k t.2.1 j).2.1.length=n.1.length+j:=by simp[Qv,hI.o]
  have a3:(Qv n k t.2.1 j).2.2.1.length=n.1.length+j:=by simp[Qv,hI.l]
  have a4:(Qv n k t.2.1 j).2.2.2.1.length=n.1.length+j:=by simp[Qv,hI.f]
  refine wab (λc=>?_) (λc=>?_)
  ·have c:=wdz c;have hlt:j<(yw t.2.1).length:=by omega
   have hli:=zfx (qn t.2.1) 0 (jn (qn t.2.1)) (by omega);have hll:=hli.len;have hfi:=zz1 (qn t.2.1) j;have hfl:=hfi.len;refine wac _ (atN hlt) (wac _ (Js (by simp;omega) (by omega)) (wac _ (Js (by simp;omega) (by omega)) ?_));refine Tt.bind (Tt.call (Has_ex _ _ (by simpa using(show(qx (qn t.2.1) (0:Nat)).length<=1000000 by omega)) hli.r) waa.fst.fst) λr hr=>?_;subst hr;refine wac _ (Js (by simp;omega) (by omega)) ?_;refine Tt.bind (Tt.call (z3k _ hcl j (by omega)) waa.fst.fst) λf hf=>?_;subst hf;refine Tt.bind (Tt.call (zxn _ n.1.length (by omega) (by omega) λx hx=>by have:=hfi.b x hx;omega) waa.fst.fst) λf' hf'=>?_;subst hf';refine wac _ (Js (by simp;omega) (by omega)) (wad ?_);rw[wI (by omega) (by omega)];exact hny ((yw t.2.1).length-(j+1)) _ (by omega) ⟨j+1,by omega,rfl,by rw[zwf hlt];rfl⟩
  ·have c:=wd0 c;have hje:j=jn (qn t.2.1):=by omega
   have hfi:=zbu (qn t.2.1) 0 (jn (qn t.2.1)) (by omega);have hfl:=hfi.len;have hnf:=hI.fi.len;refine Tt.bind (Tt.call (z6b _ hcl) waa.fst.fst) λf hf=>?_;subst hf;refine Tt.bind (Tt.call (zxn _ n.1.length (by simpa using(show(qb (qn t.2.1) (0:Nat)).length<=1000000 by omega)) (by omega) λx hx=>by have:=hfi.b x hx;omega) waa.fst.fst) λf' hf'=>?_;subst hf';have hfl':(qb (qn t.2.1) 0).length<=512:=by simpa using wfc hfl hn5
   refine wac _ (Js (by simp;omega) (by omega)) (wad ?_);rw[wI (by omega) (by omega)];exact(hnx (l.length-(k+1)) _ (by omega) ⟨k+1,_,_,_,_,_,by omega,rfl,by rw[hsuc,hje];rfl⟩).fst
 ·have hke:k=l.length:=by have c:=wd0 c;omega
  rw[hke];exact Tt.pure rfl
theorem z36(l:List jv)(hl:l.length<=50)(hc:∀t∈l,Yg t.2.1=0)(hN:Zj l<=1000):Tn (λnn=>zaa nn l) (λr=>r=Jh l l.length):=by
 unfold zaa;refine Tt.loop (λm s=>∃(k:Nat)(c1:List (Arr 4 Int))(c2:List Int)(c3:List Bool)(c4:List (List Int))(c5:List Int),k<=l.length/\m=l.length-k/\s=(l,(k:Int),c1,c2,c3,c4,c5,(Jh l k).1,(Jh l k).2.1,(Jh l k).2.2.1,(Jh l k).2.2.2.1,(Jh l k).2.2.2.2.1)) l.length waa ⟨0,_,_,_,_,_,by omega,by omega,rfl⟩ λm s⟨k,c1,c2,c3,c4,c5,hk,hm,hs⟩ nx hnx=>?_;subst hs;dsimp only;refine wab (λc=>?_) (λc=>?_)
 ·have c:=wdz c;have hlt:k<l.length:=by omega
  have hcl:=hc _ (wec hlt);obtain⟨hI,hK⟩:=zid hc k hk;have hK2:=(zid hc (k+1) hlt).2;have hsuc:=zie hlt;have hrm:∀{j},j<=l.length->Zj (l.take j)<=1000:=λ{j}hj=>by
   refine wfc ?_ hN;have:Zj l=Zj (l.take j)+Zj (l.drop j):=by
    conv=>lhs;rw[<- wfo j l]
    unfold Zj;rw[we8,List.sum_append]
   omega
  have hKk:=hrm hk;have hKk2:=hrm (j:=k+1) hlt;have hnx1:=(hI.next hcl).2;rw[hsuc,hnx1]at hK2;have hat:=atN hlt;refine wad (wac _ hat ?_);generalize l[k]=t at hcl hsuc hnx1 hK2 hat⊢;have hns:=ze2 hcl;have hn5:=zcr hcl;refine Tt.bind (Tt.call (zrl _ hcl) waa.fst) λse hse=>?_;subst hse;refine wac _ hat (Tt.bind (Tt.call (zyl _ hcl) waa.fst) λla hla=>?_);subst hla;generalize hn:Jh l k=n at hI hK hnx1 hsuc hK2⊢;refine Tt.loop (λm s=>∃(j:Nat),j<=(yw t.2.1).length/\m=(yw t.2.1).length-j/\s=(l,(k:Int),(n.1.length:Int),yw t.2.1,qx (qn t.2.1) 0,(j:Int),c1,c2,c3,c4,c5,(Qv n k t.2.1 j).1,(Qv n k t.2.1 j).2.1,(Qv n k t.2.1 j).2.2.1,(Qv n k t.2.1 j).2.2.2.1,n.2.2.2.2.1)) (yw t.2.1).length waa.fst ⟨0,by omega,by omega,by rw[je1];rfl⟩ λm s⟨j,hj,hm,hs⟩ ny hny=>?_;subst hs;dsimp only;have a1:=zst (n:=n) (t:=k) hj;have a2:(Qv n k t.2.1 j).2.1.length=n.1.length+j:=by simp[Qv,hI.o]
  have a3:(Qv n k t.2.1 j).2.2.1.length=n.1.length+j:=by simp[Qv,hI.l]
  have a4:(Qv n k t.2.1 j).2.2.2.1.length=n.1.length+j:=by simp[Qv,hI.f]
  refine wab (λc=>?_) (λc=>?_)
  ·have c:=wdz c;have hlt:j<(yw t.2.1).length:=by omega
   have hli:=zfx (qn t.2.1) 0 (jn (qn t.2.1)) (by omega);have hll:=hli.len;have hfi:=zz1 (qn t.2.1) j;have hfl:=hfi.len;refine wac _ (atN hlt) (wac _ (Js (by simp;omega) (by omega)) (wac _ (Js (by simp;omega) (by omega)) ?_));refine Tt.bind (Tt.call (zj6 _ _ (by simpa using(show(qx (qn t.2.1) (0:Nat)).length<=1000000 by omega))) waa.fst.fst) λr hr=>?_;subst hr;refine wac _ (Js (by simp;omega) (by omega)) (wac _ hat ?_);refine Tt.bind (Tt.call (zsy _ hcl j (by omega)) waa.fst.fst) λf hf=>?_;subst hf;refine Tt.bind (Tt.call (z2p _ n.1.length (by omega) (by omega) λx hx=>by have:=hfi.b x hx;omega) waa.fst.fst) λf' hf'=>?_;subst hf';refine wac _ (Js (by simp;omega) (by omega)) (wad ?_);rw[wI (by omega) (by omega)];exact hny ((yw t.2.1).length-(j+1)) _ (by omega) ⟨j+1,by omega,rfl,by rw[zwf hlt];rfl⟩
  ·have c:=wd0 c;have hje:j=jn (qn t.2.1):=by omega
   have hfi:=zbu (qn t.2.1) 0 (jn (qn t.2.1)) (by omega);have hfl:=hfi.len;have hnf:=hI.fi.len;refine wac _ hat (Tt.bind (Tt.call (zvf _ hcl) waa.fst.fst) λf hf=>?_);subst hf;refine Tt.bind (Tt.call (z2p _ n.1.length (by simpa using(show(qb (qn t.2.1) (0:Nat)).length<=1000000 by omega)) (by omega) λx hx=>by have:=hfi.b x hx;omega) waa.fst.fst) λf' hf'=>?_;subst hf';have hfl':(qb (qn t.2.1) 0).length<=512:=by simpa using wfc hfl hn5
   refine wac _ (Js (by simp;omega) (by omega)) (wad ?_);rw[wI (by omega) (by omega)];exact(hnx (l.length-(k+1)) _ (by omega) ⟨k+1,_,_,_,_,_,by omega,rfl,by rw[hsuc,hje];rfl⟩).fst
 ·have hke:k=l.length:=by have c:=wd0 c;omega
  rw[hke];exact Tt.pure rfl
theorem z4a{l:List jv}(hc:∀t∈l,Yg t.2.1=0)(hN:Zj l<=1000):zzt (Jh l l.length)/\zgt (Zj l) 60000 (Jh l l.length)/\∀x∈(Jh l l.length).2.1,0<=x/\x<(l.length:Int):=by
 obtain⟨h,h2⟩:=zid hc l.length (wed _);rw[wen]at h2;refine⟨?_,⟨h2,?_,?_,?_,λx hx=>(h.fr x hx).2,?_⟩,h.ob⟩
 ·exact⟨⟨h.o,h.l,h.f,h.fi,λx hx=>(h.fr x hx).1⟩,λx hx=>(h.ob x hx).1⟩
 ·rw[h.o];omega
 ·rw[h.l];omega
 ·rw[h.f];omega
 ·have:=h.fi.len;omega
end Go.Proofs.YtdllbdlnmjngcaaGreat.T
