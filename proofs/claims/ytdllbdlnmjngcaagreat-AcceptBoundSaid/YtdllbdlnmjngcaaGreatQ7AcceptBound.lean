/-
  Texts of this proof, put together: Zt, Zu, Zv, Va, Vb, Vc.
-/

import Derived.Test.YtdllbdlnmjngcaaGreatQ6AcceptBound

namespace Go.Proofs.YtdllbdlnmjngcaaGreat.T
set_option maxRecDepth 100000
set_option maxHeartbeats 8000000
set_option linter.unusedVariables false
set_option linter.unusedSimpArgs false
open Go Go.RowKit L
theorem jen{E:Nat->Nat->Bool}(h:Eqv E){k:Nat}(hk:k<256):(cls E k<(qf E k).length/\(qf E (k+1)).length=(qf E k).length)\/(cls E k=(qf E k).length/\(qf E (k+1)).length=(qf E k).length+1):=by
 obtain⟨s1,s2⟩:=ztq h hk;cases ha:(qf E k).any (E · k)with
 |true=>
  obtain⟨e1,e2⟩:=s1 ha;left;rw[e1,e2];obtain⟨x,h1,h2⟩:=wfz.1 ha;exact⟨wgb ⟨x,h1,h2⟩,rfl⟩
 |false=>
  obtain⟨e1,e2⟩:=s2 ha;right;rw[e1,e2];exact⟨rfl,by simp⟩
theorem jey{d:D_api_Dfa}{i:Nat}(hi:i<d.2.2.1.length){c:Nat}(hc:c<(d.2.2.1[i]).length):nxt (qz d) i (c:Int)=(d.2.2.1[i])[c]:=by
 show at' (at' d.2.2.1 (i:Int)) (c:Int)=_;rw[zdn hi,zdn hc]
theorem wrI{z:Int}(h1 : -9223372036854775808<=z)(h2:z<=9223372036854775807):wr .i64 z=z:=Zf h1 h2
theorem zvw{E:Nat->Nat->Bool}(h:Eqv E){a:Arr 256 Int}(hc:ClsAt E a 256):Tn (λnn=>zbc nn a) (λr=>r=true):=by
 unfold zbc;refine Tt.loop (λm s=>∃k:Nat,k<=256/\m=256-k/\s=(((qf E k).length:Int),(k:Int),a)) 256 waa ⟨0,by omega,by omega,rfl⟩ λm s⟨k,hk,hm,hs⟩ nx hnx=>?_;subst hs;dsimp only;refine wab (λc=>?_) λc=>Tt.pure rfl;have c:=wdz c;have hlt:k<256:=by omega
 have hat:atL a.l (k:Int)=some (cls E k:Int):=zdj (by omega) (by simpa using hc.c k hlt);have hle:=Z5 E k;have hcl:=jen h hlt;refine Tt.J (λs=>s=(((qf E (k+1)).length:Int),(k:Int),a)) (λny hny=>?_) λs hs=>?_
 ·refine wac _ (zh hlt) (wac _ hat ?_);rw[wrI (by omega) (by omega)];refine waf (wem (by omega)) (wac _ (zh hlt) (wac _ hat ?_));rw[wrI (by omega) (by omega)];refine wab (λc1=>wad (hny _ ?_)) λc1=>hny _ ?_
  ·have c1:=wdz c1;rw[wI (by omega) (by omega)];rw[show((qf E (k+1)).length:Int)=(qf E k).length+1 by omega]
  ·have c1:=wd0 c1;rw[show((qf E (k+1)).length:Int)=(qf E k).length by omega]
 ·subst hs;dsimp only;refine wad ?_;rw[wI (by omega) (by omega)];exact hnx (256-(k+1)) _ (by omega) ⟨k+1,by omega,rfl,rfl⟩
theorem zu5{E:Nat->Nat->Bool}(h:Eqv E){a:Arr 256 Int}(hc:ClsAt E a 256):Tn (λnn=>za9 nn a) (λr=>r=((qf E 256).length:Int)):=by
 unfold za9;refine Tt.loop (λm s=>∃k:Nat,k<=256/\m=256-k/\s=(((qf E k).length:Int),(k:Int),a)) 256 waa ⟨0,by omega,by omega,rfl⟩ λm s⟨k,hk,hm,hs⟩ nx hnx=>?_;subst hs;dsimp only;refine wab (λc=>?_) λc=>Tt.pure ?_
 ·have c:=wdz c;have hlt:k<256:=by omega
  have hat:atL a.l (k:Int)=some (cls E k:Int):=zdj (by omega) (by simpa using hc.c k hlt);have hle:=Z5 E k;have hcl:=jen h hlt;refine wac _ (zh hlt) (wac _ hat (wad (wad ?_)));rw[wrI (by omega) (by omega),wI (by omega) (by omega),wI (by omega) (by omega)];refine hnx (256-(k+1)) _ (by omega) ⟨k+1,by omega,rfl,?_⟩;rw[show max ((qf E k).length:Int) ((cls E k:Int)+1)=((qf E (k+1)).length:Int) by omega];rfl
 ·have c:=wd0 c;have:k=256:=by omega
  rw[this]
theorem zvu{d:D_api_Dfa}{E:Nat->Nat->Bool}(h:Eqv E)(hc:ClsAt E d.1 256)(hw:d.2.1=((qf E 256).length:Int))(hd:DSz d)(hm:MOk (qz d))(hl:∀x∈d.2.2.2.1, -1<=x):Tn (λnn=>Va nn d) (λr=>r=true):=by
 have hr:=Z5 E 256;have n0:0<d.2.2.1.length:=hm.n0;have hlab:d.2.2.2.1.length=d.2.2.1.length:=hm.lab;have hn:=hd.n;unfold Va;refine Tt.J (λs=>s=(false,d)) (λnx hnx=>?_) λs hs=>?_
 ·refine Tt.bind (Tt.call (zvw h hc) waa) λr hr2=>?_;subst hr2;refine wad (waf rfl (Tt.bind (Tt.call (zu5 h hc) waa) λr hr2=>?_));subst hr2;refine waf (wem (by omega)) (waf (wem (by omega)) (hnx _ ?_));rw[wem (by omega)]
 subst hs;refine waf rfl ?_;refine Tt.loop (λm s=>∃k:Nat,k<=d.2.2.1.length/\m=d.2.2.1.length-k/\s=((k:Int),d)) d.2.2.1.length waa ⟨0,by omega,by omega,rfl⟩ λm s⟨k,hk,hmm,hs⟩ nx hnx=>?_;subst hs;dsimp only;refine wab (λc=>?_) λc=>Tt.pure rfl;have c:=wdz c;have hlt:k<d.2.2.1.length:=by omega
 have hat:=atN hlt;have hrow:((d.2.2.1[k]).length:Int)=d.2.1:=by
  have:=hm.row k (by omega) (by show(k:Int)<d.2.2.1.length;omega);rw[zdn (l:=(qz d).jy) hlt]at this;exact this
 have hnxk:∀(c:Nat)(hc:c<(d.2.2.1[k]).length), -1<=(d.2.2.1[k])[c]/\(d.2.2.1[k])[c]<d.2.2.1.length:=λc hc=>by
  have : -1<=nxt (qz d) k (c:Int)/\nxt (qz d) k (c:Int)<d.2.2.1.length:=hm.nx k c (by omega) (by show(k:Int)<d.2.2.1.length;omega) (by omega) (by show(c:Int)<d.2.1;omega);rw[jey hlt hc]at this;exact this
 refine Tt.J (λs=>s=((k:Int),false,d)) (λny hny=>?_) λs hs=>?_
 ·refine wac _ hat (wad (waf (wem (by omega)) (wac _ (atN (show k<d.2.2.2.1.length by omega)) (hny _ ?_))));have:=hl _ (wec (show k<d.2.2.2.1.length by omega));rw[wem (by omega)]
 subst hs;refine waf rfl ?_;dsimp only;generalize d.2.2.1[k]=row at hat hrow hnxk;refine Tt.loop (λm s=>∃c:Nat,c<=row.length/\m=row.length-c/\s=((k:Int),(c:Int),d)) row.length waa.fst ⟨0,by omega,by omega,rfl⟩ λm s⟨c,hc2,hm2,hs⟩ ny hny=>?_;subst hs;dsimp only;refine wab (λc1=>?_) λc1=>?_
 ·have c1:=wdz c1;have hcl:c<row.length:=by omega
  have hq:=hnxk c hcl;refine Tt.J (λs=>s=((k:Int),(c:Int),false,d)) (λnz hnz=>?_) λs hs=>?_
  ·refine wac _ hat (wac _ (atN hcl) (wad (waf (wem (by omega)) (wac _ hat (wac _ (atN hcl) (hnz _ ?_))))));rw[wem (by omega)]
  ·subst hs;refine waf rfl (wad ?_);dsimp only;rw[wI (by omega) (by omega)];exact hny (row.length-(c+1)) _ (by omega) ⟨c+1,by omega,rfl,rfl⟩
 ·refine wad ?_;rw[wI (by omega) (by omega)];exact(hnx (d.2.2.1.length-(k+1)) _ (by omega) ⟨k+1,by omega,rfl,rfl⟩).fst
theorem zpk{d:D_api_Dfa}(hR:Tn (λnn=>Va nn d) (λr=>r=true))(hd:DSz d)(hm:MOk (qz d)):Tn (λnn=>Qt nn d) (λr=>r=zh4 d.2.2.1.length (dE (qz d)) (λi=>i=0)):=by
 have n0:0<d.2.2.1.length:=hm.n0;have hn:=hd.n;have hw:=hm.w;have hw1:0<=d.2.1:=hw.1;have hw2:d.2.1<=256:=hw.2;unfold Qt;refine Tt.bind (Tt.call hR waa) λr hr=>?_;subst hr;refine waf rfl (wad (wac _ (mkN (n:=d.2.2.1.length) (by omega) (by omega)) (wac _ (zh (k:=0) (by simpa using n0)) (wac _ (zit (k:=0) true (by simpa using n0)) ?_))));generalize hN:d.2.2.1.length=N at n0 hn⊢;have hb0:onB ((List.replicate N false).set 0 true) 0:=(zia (by simpa using n0)).2 (.inl rfl);have hoff:offs ((List.replicate N false).set 0 true)+1=offs (List.replicate N false):=zsz (by simp[n0]);have hof2:=z0n (List.replicate N false);rw[wd2]at hof2;have hs0:∀i,onB ((List.replicate N false).set 0 true) i->Rch (dE (qz d)) (λi=>i=0) i:=λi hi=>by
  rcases(zia (by simpa using n0)).1 hi with h|h
  ·exact .base h.symm
  ·exact absurd h z7b
 refine Tt.loop (λm s=>∃(k:Nat)(a:List Bool),k<=N/\m=N-k/\s=((k:Int),d,a)/\a.length=N/\onB a 0/\(∀i,onB a i->Rch (dE (qz d)) (λi=>i=0) i)/\(a=zh4 N (dE (qz d)) (λi=>i=0)\/offs a+k<=N-1)) N waa ⟨0,_,by omega,by omega,rfl,by simp,hb0,hs0,.inr (by omega)⟩ λm s⟨k,a,hk,hmk,hs,ha,ha0,has,hao⟩ nx hnx=>?_;subst hs;dsimp only;rw[ha];refine wab (λc=>?_) λc=>Tt.pure ?_
 rotate_left
 ·have c:=wd0 c;rcases hao with h|h
  ·exact h
  ·omega
 have c:=wdz c;refine Tt.loop (λm s=>∃(i:Nat)(b:List Bool),i<=N/\m=N-i/\s=((k:Int),(i:Int),d,b)/\b.length=N/\LeB a b/\(∀i,onB b i->Rch (dE (qz d)) (λi=>i=0) i)/\(a=b->∀i',i'<i->∀j,onB a i'->dE (qz d) i' j->onB a j)) N waa.fst ⟨0,a,by omega,by omega,rfl,ha,LeB.refl a,has,λ_ i' h=>by omega⟩ λm s⟨i,b,hi,hmi,hs,hb,hle,hbs,hcl⟩ ny hny=>?_;subst hs;dsimp only;rw[hb];refine wab (λc1=>?_) λc1=>?_
 ·have c1:=wdz c1;have hin:i<N:=by omega
  have hiN:i<d.2.2.1.length:=by omega
  have hat:=atN hiN;have hrow:((d.2.2.1[i]).length:Int)=d.2.1:=by
   have:=hm.row i (by omega) (by show(i:Int)<d.2.2.1.length;omega);rw[zdn (l:=(qz d).jy) hiN]at this;exact this
  have hnx2:∀(c:Nat)(hc:c<(d.2.2.1[i]).length),nxt (qz d) i c=(d.2.2.1[i])[c]:=λc hc=>jey hiN hc;have hnxk:∀(c:Nat)(hc:c<(d.2.2.1[i]).length), -1<=(d.2.2.1[i])[c]/\(d.2.2.1[i])[c]<d.2.2.1.length:=λc hc=>by
   have : -1<=nxt (qz d) i (c:Int)/\nxt (qz d) i (c:Int)<d.2.2.1.length:=hm.nx i c (by omega) (by show(i:Int)<d.2.2.1.length;omega) (by omega) (by show(c:Int)<d.2.1;omega);rw[hnx2 c hc]at this;exact this
  generalize d.2.2.1[i]=row at hat hrow hnxk hnx2;refine Tt.loop (λm s=>∃(c:Nat)(b:List Bool),c<=row.length/\m=row.length-c/\s=((k:Int),(i:Int),(c:Int),d,b)/\b.length=N/\LeB a b/\(∀i,onB b i->Rch (dE (qz d)) (λi=>i=0) i)/\(a=b->∀i',i'<i->∀j,onB a i'->dE (qz d) i' j->onB a j)/\(a=b->∀c':Nat,c'<c->∀j:Nat,nxt (qz d) i c'=j->onB a j)) row.length waa.fst.fst ⟨0,b,by omega,by omega,rfl,hb,hle,hbs,hcl,λ_ c' h=>by omega⟩ λm s⟨c,b,hc,hmc,hs,hb,hle,hbs,hcl,hcc⟩ nz hnz=>?_;subst hs;dsimp only;have hib:i<b.length:=by omega
  refine Tt.J (λs=>s=((k:Int),(i:Int),(c:Int),(b[i] && decide (c<row.length)),d,b)) (λnu hnu=>?_) λs hs=>?_
  ·rw[hb];refine wac _ (zh hin) (wac _ (atN hib) (wab (λc2=>hnu _ ?_) λc2=>hnu _ ?_))
   ·rw[c2,wg3];have:decide ((c:Int)<d.2.1)=decide (c<row.length):=by rw[decide_eq_decide];omega
    rw[this]
   ·rw[c2];rfl
  subst hs;dsimp only;refine wab (λc2=>?_) λc2=>wad ?_
  ·simp only[wd4,wej]at c2;obtain⟨hon,hcr⟩:=c2;have hq:=hnxk c hcr;have hn2:=hnx2 c hcr;have honb:onB b i:=by unfold onB;rw[wdy hib,hon]
   refine Tt.J (λs=>∃b',s=((k:Int),(i:Int),(c:Int),d,b')/\b'.length=N/\LeB b b'/\(∀i,onB b' i->Rch (dE (qz d)) (λi=>i=0) i)/\∀j:Nat,nxt (qz d) i c=j->onB b' j) (λnu hnu=>?_) λs⟨b',hs,hb',hle',hbs',hcc'⟩=>?_
   ·refine wac _ hat (wac _ (atN hcr) (wab (λc3=>?_) λc3=>hnu _ ⟨b,rfl,hb,LeB.refl b,hbs,λj hj=>?_⟩))
    ·have c3:=wdz c3;obtain⟨z,hz⟩:∃z:Nat,row[c]=(z:Int):=⟨(row[c]).toNat,by omega⟩
     have hzb:z<b.length:=by omega
     refine wac _ hat (wac _ (atN hcr) ?_);rw[hz];refine wac _ (zh hzb) (wac _ (zit true hzb) (hnu _ ⟨_,rfl,by simpa using hb,LeB.set hzb,λj hj=>?_,λj hj=>?_⟩))
     ·rcases(zia hzb).1 hj with h|h
      ·subst h;exact .step (hbs i honb) ⟨by show i<d.2.2.1.length;omega,c,by omega,by show(c:Int)<d.2.1;omega,by rw[hn2,hz]⟩
      ·exact hbs j h
     ·rw[hn2,hz]at hj;exact(zia hzb).2 (.inl (by omega))
    ·have c3:=wd0 c3;rw[hn2]at hj;omega
   ·subst hs;dsimp only;refine wad ?_;rw[wI (by omega) (by omega)];refine hnz (row.length-(c+1)) _ (by omega) ⟨c+1,b',by omega,rfl,rfl,hb',hle.trans hle',hbs',λe=>?_,λe c' hc' j hj=>?_⟩
    ·have:a=b:=hle.antisymm (e▸hle');exact hcl this
    ·have hab:a=b:=hle.antisymm (e▸hle');by_cases h:c'=c
     ·subst h;rw[e];exact hcc' j hj
     ·exact hcc hab c' (by omega) j hj
  ·rw[wI (by omega) (by omega)];refine(hny (N-(i+1)) _ (by omega) ⟨i+1,b,by omega,rfl,rfl,hb,hle,hbs,λe i' hi' j hj hE=>?_⟩).fst;by_cases h:i'=i
   ·subst h;obtain⟨h1,c',h0,h2,h3⟩:=hE;obtain⟨q,rfl⟩:=wfh h0;have h2:(q:Int)<d.2.1:=h2;have hbi:b[i']=true:=by
     rw[e]at hj;unfold onB at hj;rw[wdy hib]at hj;exact wfj hj
    rw[hbi,wg3]at c2;have c2:=wd0 c2;exact hcc e q (by omega) j h3
   ·exact hcl e i' (by omega) j hj hE
 ·have c1:=wd0 c1;refine wad ?_;rw[wI (by omega) (by omega)];have hRd:Round (dE (qz d)) (λi=>i=0) a b:=⟨hle,hbs,λe=>⟨λi hi=>by rw[hi];exact ha0,λi' j hj hE=>hcl e i' (by have:=zzd hj;omega) j hj hE⟩⟩
  exact(hnx (N-(k+1)) _ (by omega) ⟨k+1,b,by omega,rfl,rfl,hb,hle.2 0 ha0,hbs,hRd.next ha hao⟩).fst
def LbR(d:D_api_Dfa)(x:Int):Prop:=∃i:Nat,onB (zh4 d.2.2.1.length (dE (qz d)) (λi=>i=0)) i/\d.2.2.2.1[i]?=some x/\0<=x
theorem z4x(d:D_api_Dfa)(hd:DSz d):Tn (λnn=>zj nn d) (λr=>r.length<=300/\∀x∈r,MOk (qz d)/\LbR d x):=by
 have s1:=hd.n;obtain⟨b,hb,hq⟩:=(dRight_tot d hd).val;unfold zj;refine Tt.bind (Tt.call (zop d hd hb) waa) λr hr=>?_;have hr2:r.length<=d.2.2.1.length/\(0<r.length->d.2.2.2.1.length=d.2.2.1.length/\MOk (qz d)/\r=zh4 d.2.2.1.length (dE (qz d)) (λi=>i=0)):=by
  rcases hr with⟨_,rfl⟩|⟨h1,h2,h3⟩
  ·simp
  ·exact⟨by rw[h3,zhz];omega,λ_=>⟨(hq h1).lab,h2,h3⟩⟩
 refine Tt.loop (λm s=>∃(k:Nat)(l:List Int),k<=r.length/\m=r.length-k/\s=(r,(r.length:Int),(k:Int),d,l)/\l.length<=k/\∀x∈l,MOk (qz d)/\LbR d x) r.length waa ⟨0,_,by omega,by omega,rfl,by simp,by simp⟩ λm s⟨k,l,hk,hm,hs,hl,hx⟩ nx hnx=>?_;subst hs;dsimp only;refine wab (λc=>?_) (λc=>?_)
 ·have c:=wdz c;have hlt:k<r.length:=by omega
  obtain⟨hlab,hmo,hre⟩:=hr2.2 (by omega);have hll:k<d.2.2.2.1.length:=by omega
  refine Tt.J (λs=>∃l,s=(r,(r.length:Int),(k:Int),d,l)/\l.length<=k+1/\∀x∈l,MOk (qz d)/\LbR d x) (λny hny=>?_) λs⟨l,hs,hl,hx⟩=>?_
  ·refine wac _ (atN hlt) ?_;refine Tt.J (λs=>∃b,s=((k:Int),r,(r.length:Int),(k:Int),b,d,l)/\(b=true->r[k]=true/\0<=d.2.2.2.1[k])) (λnz hnz=>?_) λs⟨b,hs,hb2⟩=>?_
   ·exact wab (λc=>wac _ (atN hll) (hnz _ ⟨_,rfl,λh=>⟨c,wdz h⟩⟩)) λc=>hnz _ ⟨_,rfl,λh=>by cases h⟩
   ·subst hs;dsimp only;refine wab (λc=>wac _ (atN hll) (wac _ (Js (by simp;omega) (by omega)) (hny _ ⟨_,rfl,by simp;omega,λx h=>?_⟩))) λc=>hny _ ⟨_,rfl,by omega,hx⟩;obtain⟨b1,b2⟩:=hb2 c;rcases wd7.1 h with h|h
    ·exact hx x h
    ·rw[wd5.1 h];exact⟨hmo,k,by unfold onB;rw[<- hre,wdy hlt,b1],wdy hll,b2⟩
  ·subst hs;refine wad ?_;dsimp only;rw[wI (by omega) (by omega)];exact hnx (r.length-(k+1)) _ (by omega) ⟨k+1,_,by omega,rfl,rfl,hl,hx⟩
 ·have hsl:(Z2 l).length=l.length:=zkr _;refine wac _ (sm7 (by omega)) (wac _ (sm7 (by omega)) (Tt.pure ⟨?_,λx h=>?_⟩))
  ·have:=zpc (Z2 l);omega
  ·rw[(zjc _ (zlm _)).2,zwu]at h;exact hx x h
theorem n1{a b c:Nat}(h:a<b-c):c<b:=by omega
theorem n2{o k j:Nat}(h:o<=k)(hj:j<=o):j+1+(o-j)<=k+1:=by omega
theorem z4u(l:List Int)(hl:l.length<=1000):Tn (λnn=>zf2 nn l) (λr=>jx r/\∀x,x∈r↔x∈l):=by
 unfold zf2;refine Tt.loop (λm s=>∃(k:Nat)(o:List Int),k<=l.length/\m=l.length-k/\s=(l,(k:Int),o)/\o.length<=k/\jx o/\∀x,x∈o↔x∈l.take k) l.length waa ⟨0,_,by omega,by omega,rfl,by simp,List.Pairwise.nil,by simp⟩ λm s⟨k,o,hk,hm,hs,hol,hor,hom⟩ nx hnx=>?_;subst hs;dsimp only;refine wab (λc=>?_) λc=>?_
 rotate_left
 ·have c:=wd0 c;have:k=l.length:=by omega
  rw[this,wen]at hom;exact Tt.pure ⟨hor,hom⟩
 have c:=wdz c;have hlt:k<l.length:=by omega
 have htk:∀x,x∈l.take (k+1)↔x∈l.take k\/x=l[k]:=λx=>by rw[web hlt,wd7,wd5]
 refine Tt.J (λs=>∃o,s=(l,(k:Int),o)/\o.length<=k+1/\jx o/\∀x,x∈o↔x∈l.take (k+1)) (λny hny=>?_) λs⟨o,hs,h1,h2,h3⟩=>?_
 rotate_left
 ·subst hs;dsimp only;refine wad ?_;rw[wI (by omega) (by omega)];exact hnx (l.length-(k+1)) _ (by omega) ⟨k+1,o,by omega,rfl,rfl,h1,h2,h3⟩
 refine wac _ (atN hlt) ?_;generalize l[k]=v at htk;refine Tt.bind (Tt.call (zj6 o v (by omega)) waa.fst) λr hr=>?_;subst hr;refine wab (λc1=>hny _ ⟨o,rfl,by omega,hor,λx=>?_⟩) λc1=>?_
 ·have c1:=wdz c1;rw[hom,htk];exact⟨.inl,λh=>h.elim id λh=>h▸(hom v).1 c1⟩
 have c1:=wd0 c1;refine Tt.loop (λm s=>∃(j:Nat),j<=o.length/\m=o.length-j/\s=(v,(j:Int),o,o.take j)/\∀y∈o.take j,y<v) o.length waa.fst ⟨0,by omega,by omega,rfl,by simp⟩ λm s⟨j,hj,hmj,hs,hjv⟩ nz hnz=>?_;subst hs;dsimp only;refine Tt.J (λs=>∃b,s=(v,(j:Int),b,o,o.take j)/\(b=true↔∃h:j<o.length,o[j]<v)) (λnu hnu=>?_) λs⟨b,hs,hb⟩=>?_
 ·refine wad (wab (λc2=>?_) λc2=>hnu _ ⟨false,rfl,⟨λh=>(by cases h),λh=>?_⟩⟩)
  ·have c2:=wdz c2;have hjl:j<o.length:=by omega
   refine wac _ (zh hjl) (wac _ (atN hjl) (hnu _ ⟨_,rfl,?_⟩));rw[wej];exact⟨λh=>⟨hjl,h⟩,λ⟨_,h⟩=>h⟩
  ·have c2:=wd0 c2;obtain⟨h,_⟩:=h;omega
 subst hs;dsimp only;refine wab (λc2=>?_) λc2=>?_
 ·obtain⟨hjl,hjv2⟩:=hb.1 c2;refine wac _ (zh hjl) (wac _ (atN hjl) (wac _ (Js (by simp;omega) (by omega)) (wad ?_)));rw[wI (by omega) (by omega)];have htj:o.take (j+1)=o.take j++[o[j]]:=web hjl;refine hnz (o.length-(j+1)) _ (by omega) ⟨j+1,by omega,rfl,by rw[htj];rfl,λy hy=>?_⟩;rw[htj]at hy;rcases wd7.1 hy with h|h
  ·exact hjv y h
  ·rw[wd5.1 h];exact hjv2
 ·have hnb:∀y∈o.drop j,v<y:=λy hy=>by
   obtain⟨q,hq,rfl⟩:=wf5 hy;rw[List.getElem_drop];rw[wft]at hq;have hjl:j<o.length:=n1 hq;have h1:¬o[j]<v:=λh=>by rw[hb.2 ⟨hjl,h⟩]at c2;cases c2
   have h2:o[j]≠v:=λh=>c1 (h▸wec hjl);by_cases h:q=0
   ·subst h;simp only[wfs];omega
   ·have:=zqz hor (i:=j) (j:=j+q) (by omega) (by omega);omega
  refine wac _ (Js (by simp;omega) (by omega)) ?_;have hjl2:(o.take j).length=j:=by simp[hj]
  refine Tt.loop (λm s=>∃(q:Nat),j<=q/\q<=o.length/\m=o.length-q/\s=((q:Int),o,o.take j++[v]++(o.drop j).take (q-j))) (o.length-j) waa.fst.fst ⟨j,wed _,hj,rfl,by simp[hjl2]⟩ λm s⟨q,hjq,hq,hmq,hs⟩ nw hnw=>?_;subst hs;dsimp only;refine wab (λc3=>?_) λc3=>?_
  ·have c3:=wdz c3;have hql:q<o.length:=by omega
   have htq:(o.drop j).take (q+1-j)=(o.drop j).take (q-j)++[o[q]]:=by
    rw[show q+1-j=(q-j)+1 from Nat.succ_sub hjq,web (by rw[wft];exact Nat.sub_lt_sub_right hjq hql),List.getElem_drop];congr 3;exact Nat.add_sub_cancel' hjq
   refine wac _ (zh hql) (wac _ (atN hql) (wac _ (Js (by simp;omega) (by omega)) (wad ?_)));rw[wI (by omega) (by omega)];exact hnw (o.length-(q+1)) _ (by omega) ⟨q+1,by omega,by omega,rfl,by rw[htq];simp⟩
  ·have c3:=wd0 c3;have:q=o.length:=by omega
   have htq:(o.drop j).take (q-j)=o.drop j:=wfv (by rw[wft,this];exact wed _);rw[htq];refine(Tt.fst (hny _ ⟨_,rfl,by rw[weg,weg,wft,hjl2,weq];exact n2 hol hj,?_,λx=>?_⟩)).fst
   ·unfold jx;rw[wey,wgz];have hr1:(o.take j).Pairwise (· < ·):=List.Pairwise.sublist (List.take_sublist _ _) hor;have hr2:(o.drop j).Pairwise (· < ·):=List.Pairwise.sublist (List.drop_sublist _ _) hor;refine⟨hr1,wfu.2 ⟨hnb,hr2⟩,λx hx y hy=>?_⟩;rcases wek.1 hy with h|h
    ·rw[h];exact hjv x hx
    ·have:=hjv x hx;have:=hnb y h;omega
   ·rw[htk,<- hom]
    conv=>rhs;rw[<- wfo j o]
    simp only[wd7,wd5];constructor
    ·rintro((h|h)|h)
     ·exact .inl (.inl h)
     ·exact .inr h
     ·exact .inl (.inr h)
    ·rintro((h|h)|h)
     ·exact .inl (.inl h)
     ·exact .inr h
     ·exact .inl (.inr h)
theorem zrt{d:D_api_Dfa}(hR:Tn (λnn=>Va nn d) (λr=>r=true))(hd:DSz d)(hm:MOk (qz d)):Tn (λnn=>Qf nn d) (λr=>jx r/\∀x,x∈r↔LbR d x):=by
 have s1:=hd.n;have hlab:d.2.2.2.1.length=d.2.2.1.length:=hm.lab;unfold Qf;refine Tt.bind (Tt.call (zpk hR hd hm) waa) λr hr=>?_;have hrl:r.length=d.2.2.1.length:=by rw[hr,zhz]
 refine Tt.loop (λm s=>∃(k:Nat)(l:List Int),k<=r.length/\m=r.length-k/\s=(r,(k:Int),d,l)/\l.length<=k/\∀x,x∈l↔∃i:Nat,i<k/\onB r i/\d.2.2.2.1[i]?=some x/\0<=x) r.length waa ⟨0,_,by omega,by omega,rfl,by simp,λx=>⟨λh=>by simp at h,λ⟨i,h,_⟩=>by omega⟩⟩ λm s⟨k,l,hk,hmk,hs,hl,hx⟩ nx hnx=>?_;subst hs;dsimp only;refine wab (λc=>?_) λc=>?_
 ·have c:=wdz c;have hlt:k<r.length:=by omega
  have hll:k<d.2.2.2.1.length:=by omega
  refine Tt.J (λs=>∃l,s=(r,(k:Int),d,l)/\l.length<=k+1/\∀x,x∈l↔∃i:Nat,i<k+1/\onB r i/\d.2.2.2.1[i]?=some x/\0<=x) (λny hny=>?_) λs⟨l,hs,hl,hx⟩=>?_
  ·refine Tt.J (λs=>s=(r,(k:Int),(r[k] && decide (0<=d.2.2.2.1[k])),d,l)) (λnz hnz=>?_) λs hs=>?_
   ·refine wac _ (atN hlt) (wab (λc1=>wac _ (atN hll) (hnz _ ?_)) λc1=>hnz _ ?_)
    ·rw[c1,wg3]
    ·rw[c1];rfl
   ·subst hs;dsimp only;have key:∀{l':List Int},(∀x,x∈l'↔x∈l\/(onB r k/\d.2.2.2.1[k]?=some x/\0<=x))->∀x,x∈l'↔∃i:Nat,i<k+1/\onB r i/\d.2.2.2.1[i]?=some x/\0<=x:=λ{l'}h x=>by
     rw[h,hx];constructor
     ·rintro(⟨i,h1,h2⟩|h2)
      ·exact⟨i,by omega,h2⟩
      ·exact⟨k,by omega,h2⟩
     ·rintro⟨i,h1,h2⟩;by_cases e:i=k
      ·subst e;exact .inr h2
      ·exact .inl ⟨i,by omega,h2⟩
    refine wab (λc2=>?_) λc2=>hny _ ⟨l,rfl,by omega,key λx=>⟨.inl,λh=>h.elim id λ⟨h1,h2,h3⟩=>?_⟩⟩
    ·simp only[wd4,wej]at c2;refine wac _ (atN hll) (wac _ (Js (by simp;omega) (by omega)) (hny _ ⟨_,rfl,by simp;omega,key λx=>?_⟩));rw[wd7,wd5];refine or_congr Iff.rfl ⟨λh=>?_,λ⟨h1,h2,h3⟩=>?_⟩
     ·subst h;exact⟨by unfold onB;rw[wdy hlt,c2.1],wdy hll,c2.2⟩
     ·rw[wdy hll]at h2;exact(wfj h2).symm
    ·unfold onB at h1;rw[wdy hlt]at h1;rw[wdy hll]at h2;rw[wfj h1,wfj h2,wg3]at c2;exact absurd h3 (wd0 c2)
  ·subst hs;dsimp only;refine wad ?_;rw[wI (by omega) (by omega)];exact hnx (r.length-(k+1)) _ (by omega) ⟨k+1,_,by omega,rfl,rfl,hl,hx⟩
 ·have c:=wd0 c;have hke:k=r.length:=by omega
  refine Tt.bind (Tt.call (z4u l (by omega)) waa.fst) λq⟨q1,q2⟩=>Tt.pure ⟨q1,λx=>?_⟩;rw[q2,hx];unfold LbR;rw[<- hr];constructor
  ·rintro⟨i,h1,h2⟩;exact⟨i,h2⟩
  ·rintro⟨i,h2⟩;exact⟨i,by have:=zzd h2.1;omega,h2⟩
theorem jh8(fd:List (List Int))(x:List Int): -1<=(Jg fd x).1/\(Jg fd x).1<((Jg fd x).2.length:Int):=by
 unfold Jg;split
 ·exact⟨by simp,by simp only;omega⟩
 ·split
  ·exact⟨by simp only;omega,by simp only[weg,weq];omega⟩
  ·have:=z6z (x:=x) (l:=fd) (i:=0);exact⟨by simp only;omega,by simp only;omega⟩
theorem z7d(sp:Nat->List Int):∀(cs:List Nat)(fd:List (List Int))(row:List Int),(∀y∈row, -1<=y/\y<(fd.length:Int))->(zlc sp cs fd row).2.length=row.length+cs.length/\∀y∈(zlc sp cs fd row).2, -1<=y/\y<((zlc sp cs fd row).1.length:Int)
 |[],fd,row,h=>⟨rfl,h⟩
 |c::cs,fd,row,h=>by
  have h1:=zha fd (sp c);have h2:=jh8 fd (sp c);obtain⟨h3,h4⟩:=z7d sp cs (Jg fd (sp c)).2 (row++[(Jg fd (sp c)).1]) λy hy=>by
   rcases wd7.1 hy with hy|hy
   ·have:=h y hy;omega
   ·rw[wd5.1 hy];exact h2
  refine⟨?_,h4⟩;show(zlc sp cs (Jg fd (sp c)).2 (row++[(Jg fd (sp c)).1])).2.length=_;rw[h3];simp;omega
structure RwOk(W:Nat)(n:Nat)(rows:List (List Int)):Prop where
 w:∀x∈rows,x.length=W
 b:∀x∈rows,∀y∈x, -1<=y/\y<(n:Int)
theorem z0f{start:Nat->List Int}{step:List Int->Nat->List Int}{tok:List Int->Int}{W:Nat}{most:Int}{P:Int->Prop}(hP:∀l,P (tok l)):∀{f i:Nat}{fd rows:List (List Int)}{labs:List Int}{r:List (List Int)×List (List Int)×List Int},(fd.length:Int)<=most->rows.length=i->labs.length=i->i<=fd.length->RwOk W fd.length rows->(∀x∈labs,P x)->ztj start step tok W most f i fd rows labs=some (some r)->r.2.1.length=r.1.length/\r.2.2.length=r.1.length/\RwOk W r.1.length r.2.1/\∀x∈r.2.2,P x
 |0,_,_,_,_,_,_,_,_,_,_,_,h=>by cases h
 |f+1,i,fd,rows,labs,r,hm,h1,h2,h3,h4,h5,h=>by
  unfold ztj at h;by_cases hi:i<fd.length
  ·rw[if_pos hi,zlp _ _ _ _ _ hm]at h;have hl:=zh0 (zc8 start step fd i) (List.range W) fd [];obtain⟨q1,q2⟩:=z7d (zc8 start step fd i) (List.range W) fd [] (by simp);by_cases hc:((zlc (zc8 start step fd i) (List.range W) fd []).1.length:Int)<=most
   ·rw[if_pos hc]at h;refine z0f hP hc (by simp[h1]) (by simp[h2]) (by omega) ⟨λx hx=>?_,λx hx y hy=>?_⟩ (λx hx=>?_) h
    ·rcases wd7.1 hx with hx|hx
     ·exact h4.w x hx
     ·rw[wd5.1 hx,q1];simp
    ·rcases wd7.1 hx with hx|hx
     ·have:=h4.b x hx y hy;omega
     ·rw[wd5.1 hx]at hy;exact q2 y hy
    ·rcases wd7.1 hx with hx|hx
     ·exact h5 x hx
     ·rw[wd5.1 hx];exact hP _
   ·rw[if_neg hc]at h;cases h
  ·rw[if_neg hi]at h;cases h;have:i=fd.length:=by omega
   exact⟨by simp only;omega,by simp only;omega,h4,h5⟩
theorem tokF_b{n:je}{m t i:Int}(hm:0<=m)(ho:∀x∈n.2.1,0<=x/\x<m)(hl:n.2.1.length=n.1.length)(ht : -1<=t/\t<m): -1<=zds n t i/\zds n t i<m:=by
 unfold zds;split
 ·rename_i h;have hi:i.toNat<n.2.1.length:=by omega
  have hx:=ho _ (wec hi);have e:n.2.1.getD i.toNat 0=n.2.1[i.toNat]:=by simp[List.getD,hi]
  rw[e];split<;>omega
 ·exact ht
theorem tokS_b{n:je}{m:Int}(hm:0<=m)(ho:∀x∈n.2.1,0<=x/\x<m)(hl:n.2.1.length=n.1.length)(l:List Int): -1<=zi9 n l/\zi9 n l<m:=by
 unfold zi9;split
 ·have key:∀(l:List Int)(t:Int), -1<=t/\t<m -> -1<=l.foldl (zds n) t/\l.foldl (zds n) t<m:=by
   intro l;induction l with
   |nil=>intro t h;exact h
   |cons x l ih=>intro t h;exact ih _ (tokF_b hm ho hl h)
  exact key l (-1) ⟨by omega,by omega⟩
 ·exact⟨by omega,by omega⟩
theorem jcr{n:je}{a:Arr 256 Int}{W:Nat}(hW:W<=256){z:Int}(hz:1<=z){m:Int}(hm:0<=m)(ho:∀x∈n.2.1,0<=x/\x<m)(hl:n.2.1.length=n.1.length){r:List (List Int)×List (List Int)×List Int}(e:zb0 n a W z 202 0 [[]] [] []=some (some r)):MOk (qz (a,(W:Int),r.2.1,r.2.2,()))/\∀x∈r.2.2, -1<=x/\x<m:=by
 have e:ztj (λc=>zak n (zfd a c)) (λl c=>ze0 n l (zfd a c)) (zi9 n) W z 202 0 [[]] [] []=some (some r):=e;obtain⟨h1,h2,h3,h4⟩:=z0f (f:=202) (i:=0) (fd:=[[]]) (rows:=[]) (labs:=[]) (P:=λx=> -1<=x/\x<m) (tokS_b hm ho hl) (by simpa using hz) rfl rfl (by simp) ⟨λx hx=>by simp at hx,λx hx=>by simp at hx⟩ (λx hx=>by simp at hx) e;obtain⟨h5,_⟩:=zem (by simpa using hz) e;have h5:1<=r.1.length:=h5;refine⟨⟨?_,?_,?_,λi h0 hi=>?_,λi c h0 hi hc hc2=>?_⟩,h4⟩
 ·show 0<r.2.1.length;omega
 ·show r.2.2.length=r.2.1.length;omega
 ·show 0<=(W:Int)/\(W:Int)<=256;omega
 ·have:=h3.w _ (zcc h0 hi);show(((at' r.2.1 i).length:Nat):Int)=(W:Int);have:(at' r.2.1 i).length=W:=this;omega
 ·have hr:=h3.w _ (zcc h0 hi);have hr:(at' r.2.1 i).length=W:=hr;have hc2:c<(W:Int):=hc2;have:=h3.b _ (zcc h0 hi) _ (zcc (l:=at' r.2.1 i) (z:=c) hc (by omega));show -1<=at' (at' r.2.1 i) c/\at' (at' r.2.1 i) c<(r.2.1.length:Int);rw[h1];exact this
theorem jgp{n:je}{a:Arr 256 Int}{W:Nat}(hc:∃n,ClsN a n)(hW:W<=256){z:Int}(hz:1<=z)(hz2:z<=200):DSz (zi4 a (W:Int) (zb0 n a W z 202 0 [[]] [] [])).1:=by
 cases e:zb0 n a W z 202 0 [[]] [] []with
 |none=>exact DSz.zero
 |some o=>
  cases o with
  |none=>exact DSz.zero
  |some r=>
   have e:ztj (λc=>zak n (zfd a c)) (λl c=>ze0 n l (zfd a c)) (zi9 n) W z 202 0 [[]] [] []=some (some r):=e;obtain⟨h1,h2,h3,_⟩:=z0f (f:=202) (i:=0) (fd:=[[]]) (rows:=[]) (labs:=[]) (P:=λ_=>True) (λ_=>trivial) (by simpa using hz) rfl rfl (by simp) ⟨λx hx=>by simp at hx,λx hx=>by simp at hx⟩ (λx hx=>by simp at hx) e;obtain⟨_,h5⟩:=zem (by simpa using hz) e;exact⟨hc,⟨by show 0<=(W:Int);omega,by show(W:Int)<=256;omega⟩,by show r.2.1.length<=300;omega,by show r.2.2.length<=300;omega,λx hx=>by have:=h3.w x hx;omega⟩
theorem z33{L:List jd}:jr L=zd\/jr L∈L:=by
 induction L with
 |nil=>exact .inl rfl
 |cons d l ih=>
  unfold jr;split
  ·exact ih.imp id λh=>wgm _ h
  ·exact .inr (by simp)
theorem zgg{L:List jd}(h:(jr L).1=0):∀d∈L,d.1=0:=by
 induction L with
 |nil=>simp
 |cons d l ih=>
  unfold jr at h;by_cases c:d.1=0
  ·rw[if_pos c]at h;intro x hx;rcases wek.1 hx with e|e
   ·rw[e];exact c
   ·exact ih h x e
  ·rw[if_neg c]at h;exact absurd h c
theorem zdl{α:Type}{l:List α}{f:Nat->α->jd}(h:∀i x,(f i x).1≠16):∀d∈l.mapIdx f,d.1≠16:=λd hd=>by
 obtain⟨j,hj⟩:=we4 hd;rw[wgn]at hj;cases hx:l[j]? with
 |none=>rw[hx]at hj;cases hj
 |some x=>rw[hx]at hj;cases hj;exact h j x
theorem zri{L:List jd}(h:∀d∈L,d.1≠16):(jr L).1≠16:=by
 rcases z33 (L:=L)with e|e
 ·rw[e];simp
 ·exact h _ e
theorem gFd_k(g:jb):(gFd g).1≠16:=by
 unfold gFd;refine zri λd hd=>?_;simp only[wd7]at hd;rcases hd with hd|hd|hd|hd|hd|hd|hd
 ·exact zdl (λi x=>by split<;>simp) d hd
 ·exact zdl (λi x=>by split<;>simp) d hd
 ·exact zdl (λi x=>by unfold zsb;split;simp;split;simp;split;simp;split<;>simp) d hd
 ·exact zdl (λi x=>by unfold z3m;split;simp;split<;>simp) d hd
 ·refine zdl (λi x=>?_) d hd;unfold zrf;split
  ·simp
  split
  ·simp
  ·unfold z78;refine zri (zdl λk y=>?_);show itE g y≠16;unfold itE;split;simp;split;simp;split<;>simp
 ·rw[wd5.1 hd];unfold zly;split<;>simp
 ·exact zdl (λi x=>by unfold jai;split<;>simp) d hd
theorem zq2{g:jb}(h:gFd g=zd):∀t∈g.1,Yg t.2.1=0:=λt ht=>by
 have h1:(gFd g).1=0:=by rw[h]
 unfold gFd at h1;have h2:=zgg h1;obtain⟨i,hi⟩:=we4 ht;have h3:=h2 (zsb g i t) (wd7.2 (.inr (wd7.2 (.inr (wd7.2 (.inl (wd3 (i:=i) (by rw[z1r,wgn,hi];rfl))))))));unfold zsb at h3;split at h3
 ·simp at h3
 split at h3
 ·simp at h3
 split at h3
 ·simp at h3
 ·rename_i h4;exact wf2.1 h4
theorem zrk{g:jb}(h:gFd g=zd):1<=g.2.2.2.2.1:=by
 have h1:(gFd g).1=0:=by rw[h]
 unfold gFd at h1;have h2:=zgg h1;have h3:=h2 (if g.2.2.2.2.1<1\/4096<g.2.2.2.2.1 then(2,0,0,())else zd) (wd7.2 (.inr (wd7.2 (.inl (by
  have:szB g=(if g.2.2.2.2.1<1\/4096<g.2.2.2.2.1 then(2,0,0,())else zd)::(szB g).tail:=rfl;rw[this];simp)))))
 by_cases c:g.2.2.2.2.1<1\/4096<g.2.2.2.2.1
 ·rw[if_pos c]at h3;cases h3
 ·omega
theorem jbe{kd mo:Int}:∀{l:List Bool}{i:Nat},(fs2 kd mo l i).1=0\/(fs2 kd mo l i).1=kd
 |[],_ => .inl rfl
 |true::l,i=>jbe (l:=l) (i:=i+1)
 |false::l,i => .inr rfl
theorem jdx{kd mo:Int}(hk:kd≠0):∀{l:List Bool}{i:Nat},(fs2 kd mo l i).1=0->∀b∈l,b=true
 |[],_,_,b,hb=>by cases hb
 |true::l,i,h,b,hb=>by
  rcases wek.1 hb with e|e
  ·exact e
  ·exact jdx hk (l:=l) (i:=i+1) h b e
 |false::l,i,h,b,hb=>absurd h hk
theorem jbl{l:List Int}{n:Nat}(h:jx l)(hb:∀x∈l,0<=x/\x<(n:Int))(ha:∀i:Nat,i<n->(i:Int)∈l):l.length=n:=by
 have:l=(List.range n).map λ(i:Nat)=>(i:Int):=by
  refine ztk h ?_ λx=>?_
  ·unfold jx;rw[List.pairwise_map];exact List.pairwise_lt_range.imp λh=>by omega
  ·simp only[wee,wfl];constructor
   ·intro hx;have:=hb x hx;exact⟨x.toNat,by omega,by omega⟩
   ·rintro⟨i,h1,rfl⟩;exact ha i h1
 rw[this];simp
section
variable{α β σ:Type}
theorem zju{B B':σ->(σ->Option β)->Option β}(R:σ->σ->Prop)(h:∀s s' k k',R s s'->(∀t t',R t t'->k' t'=k t)->B' s' k'=B s k):∀(n:Nat)(s s':σ),R s s'->jl B' n s'=jl B n s
 |0,_,_,_=>rfl
 |n+1,s,s',hr=>h s s' _ _ hr λt t' ht=>zju R h n t t' ht
theorem J_c{rest rest':σ->Option β}{A A':(σ->Option β)->Option β}(R:σ->σ->Prop)(h1:∀k k',(∀t t',R t t'->k' t'=k t)->A' k'=A k)(h2:∀t t',R t t'->rest' t'=rest t):T.J rest' A'=T.J rest A:=h1 _ _ h2
theorem b_c{o:Option α}{k k':α->Option β}(h:∀x,k' x=k x):ja o k'=ja o k:=congrArg (ja o) (funext h)
theorem zk4{c:Bool}{x x' y y':Option β}(h1:x'=x)(h2:y'=y):ifB c x' y'=ifB c x y:=by rw[h1,h2]
end
section
variable{g:jb}{z:Int}{nn:Nat}(hR:vd nn (yn g z)=vd nn g)
include hR
theorem jcv:yb nn (yn g z)=yb nn g:=by unfold yb;rw[hR];rfl
theorem mak_c:y9 nn (yn g z)=y9 nn g:=by unfold y9;rw[hR];rfl
theorem jio:ve nn (yn g z)=ve nn g:=by unfold ve;rw[hR];rfl
theorem end_c:Qp nn (yn g z)=Qp nn g:=by unfold Qp;rw[hR];rfl
theorem jbd:yp nn (yn g z)=yp nn g:=by
 unfold yp;rw[hR,jcv hR];refine b_c λa=>zk4 rfl (b_c λb=>b_c λc=>b_c λd=>?_);refine zju (λs s'=>s'=(s.1,yn g z,s.2.2)/\s.2.1=g) (λs s' k k' hs hk=>?_) _ _ _ ⟨rfl,rfl⟩;obtain⟨e,f,x,y⟩:=s;obtain⟨rfl,hf⟩:=hs;dsimp only at hf⊢;refine zk4 ?_ rfl;rw[hf];refine zju (λs s'=>s'=(s.1,s.2.1,s.2.2.1,s.2.2.2.1,yn g z,s.2.2.2.2.2)/\s.2.2.2.2.1=g) (λs s' q q' hs hq=>?_) _ _ _ ⟨rfl,rfl⟩;obtain⟨j,l,m,n,o,p,p2⟩:=s;obtain⟨rfl,ho⟩:=hs;dsimp only at ho⊢;refine zk4 (b_c λr=>J_c (λs s'=>s'=(s.1,s.2.1,s.2.2.1,s.2.2.2.1,yn g z,s.2.2.2.2.2)/\s.2.2.2.2.1=g) (λb0 b0' hb=>?_) λt t'⟨h1,h2⟩=>?_) (hk _ _ ⟨rfl,ho⟩)
 ·repeat refine b_c λ_=>?_
  exact zk4 (hb _ _ ⟨rfl,ho⟩) (hb _ _ ⟨rfl,ho⟩)
 ·subst h1;exact b_c λ_=>hq _ _ ⟨rfl,h2⟩
theorem fall_c:Qk nn (yn g z)=Qk nn g:=by unfold Qk;rw[jbd hR]
theorem frt_c(l:List jm):Jy nn (yn g z) l=Jy nn g l:=by
 unfold Jy;refine zju (λs s'=>s'=(s.1,s.2.1,s.2.2.1,yn g z)/\s.2.2.2=g) (λs s' k k' hs hk=>?_) _ _ _ ⟨rfl,rfl⟩;obtain⟨a,b,c,d⟩:=s;obtain⟨rfl,hd⟩:=hs;dsimp only at hd⊢;subst hd;refine zk4 (b_c λf=>J_c (λs s'=>s'=(s.1,s.2.1,s.2.2.1,s.2.2.2.1,yn d z,s.2.2.2.2.2)/\s.2.2.2.2.1=d) (λm m' hm=>?_) λt t'⟨h1,h2⟩=>?_) rfl
 ·exact zk4 (hm _ _ ⟨rfl,rfl⟩) (hm _ _ ⟨rfl,rfl⟩)
 ·subst h1;refine J_c (λs s'=>s'=(s.1,s.2.1,s.2.2.1,s.2.2.2.1,yn d z)/\s.2.2.2.2=d) (λm m' hm=>?_) λt t'⟨h1,h2⟩=>?_
  ·exact b_c λ_=>zk4 (hm _ _ ⟨rfl,h2⟩) (hm _ _ ⟨rfl,h2⟩)
  ·subst h1;exact zk4 rfl (b_c λ_=>hk _ _ ⟨rfl,h2⟩)
theorem fof_c(l:List jm):zaw nn (yn g z) l=zaw nn g l:=by unfold zaw;rw[jbd hR,frt_c hR]
theorem void_c(l:List jm):Vm nn (yn g z) l=Vm nn g l:=by unfold Vm;rw[jcv hR]
theorem jis(b:List (List Int))(p:ji):qw nn (yn g z) b p=qw nn g b p:=by
 unfold qw;rw[show zdq nn (yn g z) p.2.1=zdq nn g p.2.1 from fof_c hR _,void_c hR]
theorem fol_c:Jf nn (yn g z)=Jf nn g:=by
 unfold Jf;rw[hR,fall_c hR,jcv hR,jio hR,end_c hR];refine b_c λa=>zk4 rfl ?_;refine b_c λb=>b_c λc=>b_c λd=>b_c λe=>b_c λf=>b_c λg'=>b_c λh=>b_c λi=>?_;refine zju (λs s'=>s'=(s.1,yn g z,s.2.2)/\s.2.1=g) (λs s' k k' hs hk=>?_) _ _ _ ⟨rfl,rfl⟩;obtain⟨j,x,x2⟩:=s;obtain⟨rfl,hf⟩:=hs;dsimp only at hf⊢;refine zk4 ?_ rfl;rw[hf];refine zju (λs s'=>s'=(s.1,s.2.1,s.2.2.1,s.2.2.2.1,yn g z,s.2.2.2.2.2)/\s.2.2.2.2.1=g) (λs s' q q' hs hq=>?_) _ _ _ ⟨rfl,rfl⟩;obtain⟨j,l,m,n,o,p⟩:=s;obtain⟨rfl,ho⟩:=hs;dsimp only at ho⊢;refine zk4 (J_c (λs s'=>s'=(s.1,s.2.1,s.2.2.1,s.2.2.2.1,yn g z,s.2.2.2.2.2)/\s.2.2.2.2.1=g) (λc0 c0' hc=>b_c λc2=>?_) λt t'⟨h1,h2⟩=>?_) (hk _ _ ⟨rfl,ho⟩)
 ·refine J_c (λs s'=>s'=(s.1,s.2.1,s.2.2.1,s.2.2.2.1,s.2.2.2.2.1,yn g z,s.2.2.2.2.2.2)/\s.2.2.2.2.2.1=g) (λd3 d3' hd=>?_) λt t'⟨h1,h2⟩=>?_
  ·refine b_c λ_=>zk4 (b_c λ_=>b_c λ_=>b_c λ_=>?_) (hd _ _ ⟨rfl,ho⟩);refine zju (λs s'=>s'=s) (λs s' k k' hs hk=>?_) _ _ _ rfl;subst hs;have e:k'=k:=funext λt=>hk t t rfl;subst e;exact zk4 rfl (hd _ _ ⟨rfl,ho⟩)
  ·subst h1;exact zk4 (hc _ _ ⟨rfl,h2⟩) (hc _ _ ⟨rfl,h2⟩)
 ·subst h1;exact b_c λ_=>hq _ _ ⟨rfl,h2⟩
theorem fil_c:zhp nn (yn g z)=zhp nn g:=by
 unfold zhp;rw[fol_c hR];have e:(λbeh p=>qw nn (yn g z) beh p)=λbeh p=>qw nn g beh p:=funext λb=>funext λp=>jis hR b p;refine b_c λb=>?_;have e:(λp=>qw nn (yn g z) b p)=λp=>qw nn g b p:=funext λp=>jis hR b p;rw[e];rfl
theorem cla_c:vz nn (yn g z)=vz nn g:=by
 unfold vz;rw[hR,fil_c hR];rfl
end
theorem wc4{α:Type}{f f':Nat->Option α}{Q:α->Prop}(h:∃N,∀n,N<=n->f' n=f n)(k:Tn f Q):Tn f' Q:=by
 obtain⟨N,h⟩:=h;obtain⟨r,⟨M,k1⟩,k2⟩:=k;exact⟨r,⟨N+M,λn hn=>(h n (by omega)).trans (k1 n (by omega))⟩,k2⟩
theorem jd8{kd mo:Int}:∀{l:List Bool}{i:Nat},(fs2 kd mo l i).1=0\/(fs2 kd mo l i).1=kd
 |[],_ => .inl rfl
 |true::l,i=>jd8 (l:=l) (i:=i+1)
 |false::l,i => .inr rfl
theorem z4i{kd:Int}:∀{l:List Bool}{i:Nat},(fsF kd l i).1=0\/(fsF kd l i).1=kd
 |[],_ => .inl rfl
 |true::l,i=>z4i (l:=l) (i:=i+1)
 |false::l,i => .inr rfl
structure Pre(g:jb)(d2 d3 d4 d5:jd):Prop where
 t2:∀y,Tn (λnn=>Qd nn (some (g,y))) (λd=>d=d2)
 t3:∀y,Tn (λnn=>Jl nn (some (g,y))) (λd=>d=d3)
 t4:∀y,Tn (λnn=>Jm nn (some (g,y))) (λd=>d=d4)
 t5:∀y,Tn (λnn=>Qg nn (some (g,y))) (λd=>d=d5)
 k:d2.1≠16/\d3.1≠16/\d4.1≠16/\d5.1≠16
theorem zyk{c:Prop}[Decidable c]{d:jd}(h:(if c then d else zd).1=0)(hd:d.1≠0):¬c:=λk=>hd (by rwa [if_pos k]at h)
theorem jh1{g:jb}{i:Nat}{p:ji}(h:(zrf g i p).1=0):PrOk g p:=by
 unfold zrf at h;split at h
 ·cases h
 split at h
 ·cases h
 ·refine⟨by omega,by omega,by omega,λx hx=>?_⟩;obtain⟨k,hk⟩:=we4 hx;unfold z78 at h;exact itE_ok (zgg h (itE g x,(i:Int),(k:Int)+1,()) (wd3 (i:=k) (by rw[wgn,hk];rfl)))
theorem GOk_of{g:jb}(h:gFd g=zd):GOk g:=by
 have h1:(gFd g).1=0:=by rw[h]
 unfold gFd at h1;have h2:=zgg h1;simp only[wd7]at h2;have hp:∀p∈g.2.2.1,PrOk g p:=λp hp=>by
  obtain⟨i,hi⟩:=we4 hp;exact jh1 (h2 (zrf g i p) (.inr (.inr (.inr (.inr (.inl (wd3 (i:=i) (by rw[zv6,wgn,hi];rfl))))))))
 have z0:=zyk (h2 _ (.inl (wd3 (i:=0) rfl))) (show(4:Int)≠0 by decide);have z1:=zyk (h2 _ (.inl (wd3 (i:=1) rfl))) (show(4:Int)≠0 by decide);have z2:=zyk (h2 _ (.inl (wd3 (i:=2) rfl))) (show(4:Int)≠0 by decide);have z3:=zyk (h2 (zly g) (.inr (.inr (.inr (.inr (.inr (.inl (wd5.2 rfl)))))))) (by decide);exact⟨by omega,by omega,by omega,λt ht=>Z6 (zq2 h t ht),λp h=>⟨(hp p h).l0,(hp p h).l1⟩,λp h=>(hp p h).n,λp h=>(hp p h).it,by omega⟩
theorem z7o{g:jb}(hg:Vf g)(hz:gFd g=zd):GR g/\GOk g:=by
 refine⟨?_,GOk_of hz⟩;unfold GR vd;exact Tt.bind (Tt.call (z65 g hg) waa) λr hr=>Tt.pure (by rw[hr,hz];rfl)
theorem jgh{nn:Nat}{g:jb}{r:jd×Int×Unit}(h:vz nn g=some r):r.1.1≠16:=by
 unfold vz at h;obtain⟨b,_,h⟩:=zf3 h;cases hc:decide (g.2.2.1.length<=1000000)with
 |false=>rw[hc]at h;cases h
 |true=>
  rw[hc]at h;cases b with
  |false=>cases h;simp
  |true=>
   obtain⟨m,_,h⟩:=zf3 h;obtain⟨q,hq,h⟩:=zf3 h;cases h;unfold zjv at hq;split at hq
   ·cases hq;simp
   ·obtain⟨_,_,e⟩:=wef.1 hq;cases e;simp
theorem jer{g:jb}(hg:Vf g)(hz:gFd g=zd):∃d3 d4 d5,Pre g (fs2 10 0 (g.1.map λx=>!zey x.2.1) 0) d3 d4 d5:=by
 obtain⟨hR,hok⟩:=z7o hg hz;obtain⟨em,re,al,B,hk⟩:=ji2 g hg hR hok;obtain⟨mk,hM,hml⟩:=(z8n g hg hR hok).val;obtain⟨c,⟨N,hC⟩,hn⟩:=jam hg hR hok hk;refine⟨fsF 13 re 0,fsF 14 mk 0,c.1,λy=>zxy hg hok y,λy=>z72 hok y hk.hrl hk.hRe,λy=>z9t hok y hml.1 hM,λy=>?_,?_,?_,?_,jgh (hC N (wed _))⟩
 ·unfold Qg;refine wad (Tt.bind (R:=λr=>r=c) (Tt.call (show Tn (λnn=>vz nn (g,y).1) (λr=>r=c)from⟨c,⟨N,hC⟩,rfl⟩) waa) λr hr=>Tt.pure (by rw[hr]))
 ·have:=jd8 (kd:=10) (mo:=0) (l:=g.1.map λx=>!zey x.2.1) (i:=0);omega
 ·have:=z4i (kd:=13) (l:=re) (i:=0);omega
 ·have:=z4i (kd:=14) (l:=mk) (i:=0);omega
theorem Pre_st{g:jb}(hg:Vf g)(hz:gFd g=zd){d3 d4 d5:jd}(h:Pre g (fs2 10 0 (g.1.map λx=>!zey x.2.1) 0) d3 d4 d5){z:Int}(h1:1<=z)(h2:z<=4096):Pre (yn g z) (fs2 10 0 (g.1.map λx=>!zey x.2.1) 0) d3 d4 d5:=by
 have hg2:Vf (yn g z):=⟨⟨hg.t,hg.r,hg.p⟩,hg.tn⟩
 obtain⟨hR,hok⟩:=z7o hg hz;obtain⟨hR2,hok2⟩:=z7o hg2 (jfe hz h1 h2);obtain⟨a,⟨N,e1⟩,rfl⟩:=hR;obtain⟨b,⟨M,e2⟩,rfl⟩:=hR2;have key:∀nn,N+M<=nn->vd nn (yn g z)=vd nn g:=λnn hn=>(e2 nn (by omega)).trans (e1 nn (by omega)).symm;refine⟨λy=>zxy hg2 hok2 y,λy=>wc4 ⟨N+M,λnn hn=>?_⟩ (h.t3 y),λy=>wc4 ⟨N+M,λnn hn=>?_⟩ (h.t4 y),λy=>wc4 ⟨N+M,λnn hn=>?_⟩ (h.t5 y),h.k⟩
 ·unfold Jl;show ja (ve nn (yn g z)) _=ja (ve nn g) _;rw[jio (key nn hn)]
 ·unfold Jm;show ja (y9 nn (yn g z)) _=ja (y9 nn g) _;rw[mak_c (key nn hn)]
 ·unfold Qg;show ja (vz nn (yn g z)) _=ja (vz nn g) _;rw[cla_c (key nn hn)]
theorem z8m{g:jb}(hg:Vf g)(hz:(gFd g).1≠0):Tn (λnn=>Qc nn g) (λr=>r.2.2.1=gFd g):=by
 unfold Qc;refine Tt.J (λs=>s.2.2.2.2.2.1=gFd g) (λnx hnx=>?_) λs hs=>?_
 ·refine Tt.bind (Tt.call (zw3 g hg _) waa) λd1 hd1=>?_;exact wan (wes (by rw[hd1];exact hz)) (hnx _ hd1)
 ·obtain⟨a,b,c,d,e,f,x⟩:=s;dsimp only at hs⊢;subst hs;exact wan (wes hz) (Tt.pure rfl)
theorem jhk{g:jb}(hg:Vf g)(ht:g.1.length<=12)(hz:gFd g=zd){d2 d3 d4 d5:jd}(hp:Pre g d2 d3 d4 d5){n:je}{bd:D_api_Dfa×Int×Int×Unit}{lt:List Int}(hF:Tn (λnn=>Y9 nn g.1) (λr=>r=n))(hB:Tn (λnn=>Zb nn n g.2.2.2.2.1) (λr=>r=bd))(hD:DSz bd.1)(hT:Tn (λnn=>zj nn bd.1) (λr=>r=lt))(hl:lt.length<=1000000):Tn (λnn=>Qc nn g) (λr=>r.2.2.1.1=(jr [d2,d3,d4,d5,zhb g.1.length bd.2.2.1 lt]).1):=by
 obtain⟨hR,hok⟩:=z7o hg hz;obtain⟨em,re,al,B,hk⟩:=ji2 g hg hR hok;unfold Qc;refine Tt.J (λs=>∃(Z:Arr 256 Int)(z1:jd)(g2:jb)(d:D_api_Dfa)(e:jd)(l1:List (List Int))(l2:List Int)(l3:List (List Int)),s=(g,Z,z1,g2,d,e,l1,l2,l3)/\DSz d/\e.1=(jr [d2,d3,d4,d5,zhb g.1.length bd.2.2.1 lt]).1) (λnx hnx=>?_) λs⟨Z,z1,g2,d,e,l1,l2,l3,hs,h1,h3⟩=>?_
 ·have hin:∀{Z z1 g2}{d:D_api_Dfa}{e:jd}{l1 l2 l3},DSz d->e.1=(jr [d2,d3,d4,d5,zhb g.1.length bd.2.2.1 lt]).1->Tt wcf (λi=>nx i (g,Z,z1,g2,d,e,l1,l2,l3)) _:=λh1 h3=>hnx _ ⟨_,_,_,_,_,_,_,_,rfl,h1,h3⟩;refine Tt.bind (Tt.call (zw3 g hg _) waa) λd1 hd1=>?_;rw[hz]at hd1;subst hd1;refine waf rfl (Tt.bind (Tt.call (hp.t2 _) waa) λx hx=>?_);subst hx;refine wab (λc=>hin DSz.zero ?_) λc=>?_
  ·simp only[jr];rw[if_neg (wdz c)]
  have c2:x.1=0:=wf2.1 (wd0 c);refine Tt.bind (Tt.call (hp.t3 _) waa) λy hy=>?_;subst hy;refine wab (λc=>hin DSz.zero ?_) λc=>?_
  ·simp only[jr];rw[if_pos c2,if_neg (wdz c)]
  have c3:y.1=0:=wf2.1 (wd0 c);refine Tt.bind (Tt.call (hp.t4 _) waa) λw hw=>?_;subst hw;refine wab (λc=>hin DSz.zero ?_) λc=>?_
  ·simp only[jr];rw[if_pos c2,if_pos c3,if_neg (wdz c)]
  have c4:w.1=0:=wf2.1 (wd0 c);refine Tt.bind (Tt.call (hp.t5 _) waa) λv hv=>?_;subst hv;refine wab (λc=>hin DSz.zero ?_) λc=>?_
  ·simp only[jr];rw[if_pos c2,if_pos c3,if_pos c4,if_neg (wdz c)]
  have c5:v.1=0:=wf2.1 (wd0 c);have hrest:(zhb g.1.length bd.2.2.1 lt).1=(jr [x,y,w,v,zhb g.1.length bd.2.2.1 lt]).1:=by
   simp only[jr];rw[if_pos c2,if_pos c3,if_pos c4,if_pos c5];split
   ·assumption
   ·rfl
  refine Tt.J (λs=>∃(Z:Arr 256 Int)(z1:jd)(d:D_api_Dfa)(e:jd)(l1:List (List Int))(l2:List Int)(l3:List (List Int)),s=(g,Z,z1,g,d,e,l1,l2,l3)/\DSz d/\((e.1≠0/\e=zhb g.1.length bd.2.2.1 lt)\/(e.1=0/\bd.2.2.1=0/\d=bd.1))) (λny hny=>?_) λs⟨Z,z1,d,e,l1,l2,l3,hs,h1,h2⟩=>?_
  ·refine Tt.bind (Tt.call hF waa) λn hn=>?_;subst hn;refine Tt.bind (Tt.call hB waa) λd hd=>?_;subst hd;exact wab (λc=>hny _ ⟨_,_,_,_,_,_,_,rfl,DSz.zero,.inl ⟨by simp,by unfold zhb;rw[if_neg (wdz c)]⟩⟩) λc=>hny _ ⟨_,_,_,_,_,_,_,rfl,hD,.inr ⟨rfl,by have:=wd0 c;omega,rfl⟩⟩
  ·subst hs;dsimp only;rcases h2 with⟨h2,h4⟩|⟨h2,h4,h7⟩
   ·exact wan (wes h2) (hin h1 (h4▸hrest))
   ·subst h7;refine waf (wem (by omega)) ?_;refine Tt.bind (Tt.call (jaa (by omega) bd.1 _ hl hT) waa) λe2 he2=>?_;have h8:e2.1=(jr [x,y,w,v,zhb g.1.length bd.2.2.1 lt]).1:=by
     rw[<- hrest];unfold zhb;rw[if_pos h4,he2]
    exact wab (λ_=>hin h1 h8) λ_=>hin h1 h8
 ·subst hs;dsimp only;refine wab (λc=>Tt.pure h3) λc=>?_;exact Tt.bind (Tt.call (z5h hg hR hok hk) waa) λt _=>Tt.bind (Tt.call (jeq d h1) waa) λm _=>Tt.pure h3
theorem Tn.both{α:Type}{f:Nat->Option α}{Q R:α->Prop}(h:Tn f Q)(k:Tn f R):Tn f (λx=>Q x/\R x):=by
 obtain⟨r,⟨N,h1⟩,h2⟩:=h;obtain⟨s,⟨M,k1⟩,k2⟩:=k;have e:=(h1 (N+M) (by omega)).symm.trans (k1 (N+M) (by omega));cases e;exact⟨r,⟨N,h1⟩,h2,k2⟩
theorem Tn.eq{α:Type}{f:Nat->Option α}{Q:α->Prop}{v:α}(h:Tn f (λx=>x=v))(k:Tn f Q):Q v:=by
 obtain⟨r,_,rfl,h2⟩:=Tn.both h k;exact h2
structure BdG(g:jb):Prop where
 l:Vf g
 t:g.1.length<=12
 s:Zj g.1<=120
 o:∀t∈g.1,∀x∈t.2.1,zbm x.2.1
 z:gFd g=zd
noncomputable def dTwo(g:jb):jd:=fs2 10 0 (g.1.map λx=>!zey x.2.1) 0
theorem jd1{g:jb}(hg:BdG g){d3 d4 d5:jd}(hp:Pre g (dTwo g) d3 d4 d5){a:Arr 256 Int}{W:Nat}(ha:ClsAt (Ve (Jh g.1 g.1.length).1) a 256)(hW:W=(qf (Ve (Jh g.1 g.1.length).1) 256).length){z:Int}(hz1:1<=z)(hz2:z<=200):
  ∃lt,Tn (λnn=>zj nn (zi4 a (W:Int) (zb0 (Jh g.1 g.1.length) a W z 202 0 [[]] [] [])).1) (λr=>r=lt)/\DSz (zi4 a (W:Int) (zb0 (Jh g.1 g.1.length) a W z 202 0 [[]] [] [])).1/\(∀x∈lt,LbR (zi4 a (W:Int) (zb0 (Jh g.1 g.1.length) a W z 202 0 [[]] [] [])).1 x) /\
   Tn (λnn=>qa nn (yn g z)) (λr=>r.1=(jr [dTwo g,d3,d4,d5,zhb g.1.length (zi4 a (W:Int) (zb0 (Jh g.1 g.1.length) a W z 202 0 [[]] [] [])).2.2.1 lt]).1):=by
 have hc:=zq2 hg.z;obtain⟨hR,hZ,hO⟩:=z4a hc (by have:=hg.s;omega);have hs:=hg.s;have ht:=hg.t;have hset:=zh6 (P:=zbm) hg.o g.1.length (wed _);have hF:Tn (λnn=>Y9 nn g.1) (λr=>r=Jh g.1 g.1.length):=jia g.1 (by omega) hc (by omega);have hB:Tn (λnn=>Zb nn (Jh g.1 g.1.length) z) (λr=>r=zi4 a (W:Int) (zb0 (Jh g.1 g.1.length) a W z 202 0 [[]] [] [])):=by
  refine Tt.mono (z9x (Jh g.1 g.1.length) (N:=Zj g.1) (by omega) hZ hset hR z hz1 hz2) λr⟨a',ha',hr⟩=>?_;obtain rfl:=ClsAt.one ha' ha;rw[hr,hW]
 have hD:=jgp (n:=Jh g.1 g.1.length) (W:=W) ⟨_,zqu (zc5 _) ha⟩ (by rw[hW];exact Z5 _ _) hz1 hz2;obtain⟨lt,hT,hT2,hT3⟩:=(z4x _ hD).val;refine⟨lt,hT,hD,λx hx=>(hT3 x hx).2,?_⟩;unfold qa;have hl2:Vf (yn g z):=⟨⟨hg.l.t,hg.l.r,hg.l.p⟩,hg.l.tn⟩
 exact Tt.bind (Tt.call (jhk hl2 ht (jfe hg.z hz1 (by omega)) (Pre_st hg.l hg.z hp hz1 (by omega)) hF hB hD hT (by omega)) waa) λr hr=>Tt.pure hr
theorem jdp{g:jb}{d2 d3 d4 d5:jd}(hp:Pre g d2 d3 d4 d5){rest:jd}(h:(jr [d2,d3,d4,d5,rest]).1=16\/(jr [d2,d3,d4,d5,rest]).1=0):∀rest':jd,(jr [d2,d3,d4,d5,rest']).1=rest'.1:=by
 have e:∀x:jd,[d2,d3,d4,d5,x]=[d2,d3,d4,d5]++[x]:=λ_=>rfl;intro rest';rw[e,yd]at h⊢;have h6:(jr [d2,d3,d4,d5]).1=0:=by
  by_cases c:(jr [d2,d3,d4,d5]).1=0
  ·exact c
  ·rw[if_neg c]at h;rcases h with h|h
   ·refine absurd h (zri λd hd=>?_);simp only[wek,List.not_mem_nil,or_false]at hd;rcases hd with rfl|rfl|rfl|rfl
    ·exact hp.k.1
    ·exact hp.k.2.1
    ·exact hp.k.2.2.1
    ·exact hp.k.2.2.2
   ·exact absurd h c
 rw[if_pos h6];simp only[jr];split
 ·rename_i h;exact h.symm
 ·rfl
theorem z50{g:jb}(hg:BdG g)(hz2:g.2.2.2.2.1<=200){d:jd}(hd:Tn (λnn=>qa nn g) (λr=>r=d))(h016:d.1=16\/d.1=0):
  ∃x7 x8,Tn (λnn=>zaa nn g.1) (λr=>r=x7)/\Tn (λnn=>Yv nn x7 200) (λr=>r=x8)/\((x8.2.2.1≠0/\Tn (λnn=>qa nn (yn g 200)) (λr=>r.1=16)) \/
   (x8.2.2.1=0/\∃c,c≠16/\Tn (λnn=>qa nn (yn g 200)) (λr=>r.1=c)/\Tn (λnn=>qa nn (yn g x8.2.1)) (λr=>r.1=c)/\(d.1=16↔g.2.2.2.2.1<x8.2.1)/\Tn (λnn=>Qf nn x8.1) (λr=>c=0->r.length=g.1.length))):=by
 have hc:=zq2 hg.z;obtain⟨hR,hZ,hO⟩:=z4a hc (by have:=hg.s;omega);have hs:=hg.s;have ht:=hg.t;have hset:=zh6 (P:=zbm) hg.o g.1.length (wed _);have hz1:=zrk hg.z;obtain⟨x8,hx8,a,ha,h8⟩:=(zws (Jh g.1 g.1.length) (N:=Zj g.1) (by omega) hZ hset hR 200 (by omega) (by omega)).val;refine⟨_,x8,z36 g.1 (by omega) hc (by omega),hx8,?_⟩;clear hx8;rw[h8];clear h8;obtain⟨W,hW⟩:∃W,W=(qf (Ve (Jh g.1 g.1.length).1) 256).length:=⟨_,rfl⟩
 have hW2:W<=256:=by rw[hW];exact Z5 _ _
 rw[<- hW]
 -- with the grammar's own bound
 obtain⟨d3,d4,d5,hp⟩:=jer hg.l hg.z;obtain⟨l0,_,_,_,hA0⟩:=jd1 hg hp ha hW hz1 hz2;have hd0:=Tn.eq (f:=λnn=>qa nn g) hd hA0;rw[hd0]at h016;have hpre:=jdp hp h016;have hdk:d.1=(zhb g.1.length (zi4 a (W:Int) (zb0 (Jh g.1 g.1.length) a W g.2.2.2.2.1 202 0 [[]] [] [])).2.2.1 l0).1:=hd0.trans (hpre _);have hk:∀{z:Int},1<=z->z<=200->∃lt,Tn (λnn=>zj nn (zi4 a (W:Int) (zb0 (Jh g.1 g.1.length) a W z 202 0 [[]] [] [])).1) (λr=>r=lt)/\DSz (zi4 a (W:Int) (zb0 (Jh g.1 g.1.length) a W z 202 0 [[]] [] [])).1/\(∀x∈lt,LbR (zi4 a (W:Int) (zb0 (Jh g.1 g.1.length) a W z 202 0 [[]] [] [])).1 x)/\Tn (λnn=>qa nn (yn g z)) (λr=>r.1=(zhb g.1.length (zi4 a (W:Int) (zb0 (Jh g.1 g.1.length) a W z 202 0 [[]] [] [])).2.2.1 lt).1):=λ{z}h1 h2=>by
  obtain⟨lt,h3,h4,h5,h6⟩:=jd1 hg hp ha hW h1 h2;exact⟨lt,h3,h4,h5,Tt.mono h6 λr hr=>hr.trans (hpre _)⟩
 obtain⟨l1,hT1,hD1,hL1,hA1⟩:=hk (z:=200) (by omega) (by omega);cases hb:zb0 (Jh g.1 g.1.length) a W 200 202 0 [[]] [] []with
 |none=>
  rw[hb]at hA1;exact .inl ⟨show(16:Int)≠0 by decide,Tt.mono hA1 λr hr=>by rw[hr];rfl⟩
 |some o=>
  cases o with
  |none=>
   rw[hb]at hA1;exact .inl ⟨show(16:Int)≠0 by decide,Tt.mono hA1 λr hr=>by rw[hr];rfl⟩
  |some r=>
   right;have hbd:=λ{z':Int}(h:1<=z')=>z4l (by omega) h hb;obtain⟨q1,q2⟩:=zem (by simp) hb;have q1:1<=r.1.length:=q1;obtain⟨hmo,hlb⟩:=jcr hW2 (by omega) (m:=(g.1.length:Int)) (by omega) hO hR.o hb;rw[hb]at hT1 hD1 hL1 hA1;obtain⟨l2,hT2,_,_,hA2⟩:=hk (z:=(r.1.length:Int)) (by omega) q2;rw[hbd (by omega),if_pos (by omega)]at hT2 hA2;have el:l1=l2:=Tn.eq (Q:=λx=>x=l2) hT1 hT2;refine⟨rfl,(zhb g.1.length 0 l1).1,?_,hA1,el▸hA2,?_,?_⟩
   ·unfold zhb;rw[if_pos rfl];have:=jbe (kd:=13) (mo:=1) (l:=(List.range g.1.length).map λ(i:Nat)=>decide ((i:Int)∈l1)) (i:=0);omega
   ·rw[hdk,hbd hz1];show _↔g.2.2.2.2.1<(r.1.length:Int);by_cases c:(r.1.length:Int)<=g.2.2.2.2.1
    ·rw[if_pos c];constructor
     ·intro h;exfalso;have h:(zhb g.1.length 0 l0).1=16:=h;unfold zhb at h;rw[if_pos rfl]at h;have:=jbe (kd:=13) (mo:=1) (l:=(List.range g.1.length).map λ(i:Nat)=>decide ((i:Int)∈l0)) (i:=0);omega
     ·intro h;omega
    ·rw[if_neg c];exact⟨λ_=>by omega,λ_=>rfl⟩
   ·have hE:Eqv (Ve (Jh g.1 g.1.length).1):=zc5 _;have hRt:=zvu (d:=(a,(W:Int),r.2.1,r.2.2,())) hE ha (by rw[hW]) hD1 hmo λx hx=>(hlb x hx).1;refine Tt.mono (zrt hRt hD1 hmo) λq⟨k1,k2⟩ hc0=>?_;unfold zhb at hc0;rw[if_pos rfl]at hc0;have hall:=jdx (by decide) hc0;refine jbl k1 (λx hx=>?_) λi hi=>?_
    ·obtain⟨i,_,h2,h3⟩:=(k2 x).1 hx;exact⟨h3,(hlb x (wd3 h2)).2⟩
    ·have:=hall _ (wee.2 ⟨i,wfl.2 hi,rfl⟩);exact(k2 _).2 (hL1 _ (wdz this))
theorem zo7(g:jb)(hg:jfn g)(ho:∀t∈g.1,∀x∈t.2.1,zbm x.2.1):Tn (λnn=>J9 nn g) (λb=>b=true):=by
 unfold J9;refine Tt.bind (Tt.call (z71 g hg) waa) λb hb=>?_;refine wab (λ_=>Tt.bind (Tt.call zhn waa) λr hr=>Tt.pure hr) λc=>?_;have hb:=hb (by simpa using c);have h1:=hb.t;have h2:=hb.r;have h3:=hb.p;have h4:=hb.n;have hL:Vf g:=⟨⟨by omega,by omega,by omega⟩,λx hx=>by have:=z3h hx;omega⟩
 obtain⟨d,hd,hcase⟩:∃d,Tn (λnn=>qa nn g) (λr=>r=d)/\(d.1=16\/d.1=0->gFd g=zd):=by
  by_cases hz:gFd g=zd
  ·have hG:BdG g:=⟨hL,h1,h4,ho,hz⟩
   have hc:=zq2 hz;obtain⟨hR,hZ,hO⟩:=z4a hc (by omega);obtain⟨_,_,a,ha,_⟩:=(zws (Jh g.1 g.1.length) (N:=Zj g.1) (by omega) hZ (zh6 (P:=zbm) ho g.1.length (wed _)) hR 200 (by omega) (by omega)).val;obtain⟨d3,d4,d5,hp⟩:=jer hL hz;obtain⟨l0,_,_,_,hA0⟩:=jd1 hG hp ha rfl (zrk hz) hb.s;obtain⟨d,hd,_⟩:=hA0.val;exact⟨d,hd,λ_=>hz⟩
  ·have hz2:(gFd g).1≠0:=λh=>hz (zww h);have hA2:Tn (λnn=>qa nn g) (λr=>r=gFd g):=by
    unfold qa;exact Tt.bind (Tt.call (z8m hL hz2) waa) λr hr=>Tt.pure hr
   obtain⟨d,hd,rfl⟩:=hA2.val;exact⟨_,hd,λh=>absurd h (by have:=gFd_k g;omega)⟩
 refine Tt.bind (Tt.call hd waa) λx hx=>?_;subst hx;refine Tt.J (λs=>∃b,s=(b,g,x)/\(b=false->x.1=16\/x.1=0)) (λnx hnx=>?_) λs⟨b,hs,hb2⟩=>?_
 ·refine wad (wab (λc=>hnx _ ⟨_,rfl,λh=>?_⟩) λc=>hnx _ ⟨_,rfl,λ_=>?_⟩)
  ·exact .inr (wf2.1 (wd0 h))
  ·exact .inl (wf2.1 (wd0 c))
 subst hs;dsimp only;refine wab (λ_=>Tt.bind (Tt.call zhn waa) λr hr=>Tt.pure hr) λc=>?_;have h016:=hb2 c;have hz:=hcase h016;have hG:BdG g:=⟨hL,h1,h4,ho,hz⟩
 obtain⟨x7,x8,hx7,hx8,hq⟩:=z50 hG hb.s hd h016;refine Tt.bind (Tt.call hx7 waa) λy hy=>?_;subst hy;refine Tt.bind (Tt.call hx8 waa) λy hy=>?_;subst hy;have hknows:=Tt.call (φ:=λi:Nat=>i) zhn waa;rcases hq with⟨q1,q2⟩|⟨q1,c,q2,q3,q4,q5,q6⟩
 ·refine wan (wes q1) (Tt.J (λb=>b=true) (λny hny=>?_) λs hs=>Tt.pure hs);refine Tt.bind (Tt.call q2 waa) λr hr=>wad (wan (wes hr) ?_);exact Tt.bind hknows λr hr=>hny _ hr
 ·refine waf (wem (by rw[q1];simp)) ?_;refine Tt.bind (Tt.call q3 waa) λr hr=>Tt.bind (Tt.call q6 waa) λrd hrd=>?_;refine Tt.J (λs=>s=(y.2.1,r.1,false,g,x,yn g y.2.1)) (λny hny=>?_) λs hs=>?_
  ·refine wad (wab (λc1=>hny _ ?_) λc1=>hny _ rfl);have c1:=wdz c1;have:=hrd (by omega);rw[wem (by omega)];rfl
  ·subst hs;refine waf rfl (Tt.J (λb=>b=true) (λnz hnz=>?_) λs hs=>Tt.pure hs);dsimp only;refine wad (wan (wes (by omega)) ?_);refine Tt.bind (Tt.call q4 waa) λr4 hr4=>wan (wes (by omega)) (wan ?_ (Tt.bind hknows λr hr=>hnz _ hr));have:decide (x.1=16)=decide (g.2.2.2.2.1<y.2.1):=by rw[decide_eq_decide];exact q5
   rw[this];simp
theorem jhw{z:Int}(h:OkI .u64 z):0<=z/\z<18446744073709551616:=by
 have:0<=z/\z<=18446744073709551615:=by simpa [OkI,Lit.wf,IntKind.min,IntKind.max,IntKind.signed,IntKind.bits]using h
 omega
theorem AcceptBound_row(a0:jb)(c0:OkD Y_api_Grammar a0):Tn (λnn=>J9 nn a0) (λb=>b=true):=
 zo7 a0 ⟨wfc c0.1.1 (by decide),wfc c0.2.1.1 (by decide),wfc c0.2.2.1.1 (by decide)⟩ λt ht x hx k=>by
  have h1:=c0.1.2 t ht;have h2:=h1.2.1.2 x hx;have h3:=h2.2.1;by_cases hk:k<x.2.1.l.length
  ·have:=h3 _ (wec hk);rw[wev,wdy hk];exact jhw this
  ·rw[wev,wfe (by omega)];simp
end Go.Proofs.YtdllbdlnmjngcaaGreat.T
