/-
  Texts of this proof, put together: Vi, Vk, Vq, E2, Vp, Vr.
-/

import Derived.Test.YtdllbdlnmjngcaaGreatQ6AcceptTrue

namespace Go.Proofs.YtdllbdlnmjngcaaGreat
set_option maxRecDepth 100000
set_option maxHeartbeats 8000000
set_option linter.unusedVariables false
set_option linter.unusedSimpArgs false
open Go Go.RowKit L
def zb7(N:Nat)(m:Mt):List Int:=((List.range N).filter λq=>m 0 q).map λq:Nat=>(q:Int)
theorem zsd(N:Nat)(m:Mt):zb7 (N+1) m=zb7 N m++(if m 0 N=true then [(N:Int)]else []):=by
 unfold zb7;rw[List.range_succ,List.filter_append,wfl];congr 1;by_cases h:m 0 N<;>simp[h]
theorem zvt(N:Nat)(m:Mt):(zb7 N m).length<=N:=by
 have:=wgs (λq=>m 0 q) (List.range N);simpa [zb7]using this
theorem jbg(N:Nat)(m:Mt):∀x∈zb7 N m,0<=x/\x<N:=λx hx=>by
 simp[zb7]at hx;obtain⟨q,⟨h,_⟩,rfl⟩:=hx;omega
def zaf(w:ByteArray):E->Mt
 |.set s0 s1 s2 s3=>z6y ⟨1,s0,s1,s2,s3⟩ w
 |.empty=>λp q=>decide (p=q)
 |.cat a b=>zfb (zaf w a) (zaf w b) (w.size+1)
 |.alt a b=>λp q=>zaf w a p q ||zaf w b p q
 |.star a=>λp q=>decide (p=q) ||zby (w.size+1) (zaf w a) p q
 |.plus a=>zby (w.size+1) (zaf w a)
 |.opt a=>λp q=>decide (p=q) ||zaf w a p q
theorem z70(w:ByteArray)(e:E):∀ms,(post e).foldl (zfl w) ms=ms++[zaf w e]:=by
 have one:∀(ms:List Mt)(a:Mt)(x:Rx),ofK x.kind=1->zfl w (ms++[a]) x=ms++[zdq w x (ms++[a]) ms.length]:=λms a x h=>by
  simp[zfl,h]
 have two:∀(ms:List Mt)(a b:Mt)(x:Rx),ofK x.kind=2->zfl w (ms++[a]++[b]) x=ms++[zdq w x (ms++[a]++[b]) ms.length]:=λms a b x h=>by
  simp[zfl,h]
 induction e with
 |set s0 s1 s2 s3=>intro ms;simp[post,zfl,ofK,zdq,zaf]
 |empty=>intro ms;simp[post,yy,zfl,ofK,zdq,zaf]
 |cat a b iha ihb=>
  intro ms;simp only[post,wfi,iha,ihb,whd,List.foldl_nil];rw[two _ _ _ _ rfl];simp[zdq,yy,zaf]
 |alt a b iha ihb=>
  intro ms;simp only[post,wfi,iha,ihb,whd,List.foldl_nil];rw[two _ _ _ _ rfl];simp[zdq,yy,zaf]
 |star a iha=>
  intro ms;simp only[post,wfi,iha,whd,List.foldl_nil];rw[one _ _ _ rfl];simp[zdq,yy,zaf]
 |plus a iha=>
  intro ms;simp only[post,wfi,iha,whd,List.foldl_nil];rw[one _ _ _ rfl];simp[zdq,yy,zaf]
 |opt a iha=>
  intro ms;simp only[post,wfi,iha,whd,List.foldl_nil];rw[one _ _ _ rfl];simp[zdq,yy,zaf]
theorem jep(l:List Rx)(e:E)(he:WfX l e)(w:ByteArray)(N:Nat)(hN:N=w.size+1)(hw:w.size<=1000)(hw0:w.size=0)(hOf:∀k,PCall Tryz.prog 125 [I k] (· = I (ofK k)))(hC:PCall Tryz.prog 82 [slX l] (· = I 0)):PCall Tryz.prog 35 [slX l,S w,I 0] (· = slI (zb7 N (zaf w e))):=by
 have hc:=he.check;have nM:=Yn N;have nX:=z43 l;have hr:zlv w l=[zaf w e]:=by rw[he.2];simpa [zlv]using z70 w e []
 refine waf Tryz.func35 rfl Tryz.ntmps35 (by simp) λW=>?_
 repeat (first|(refine PC.seq λK hK=>?_)|(refine PC.region ?_)|(refine PL.k rfl λKK hKK=>?_;simp (disch:=omega) [go_sem,jj];refine hKK _ ?_;clear hKK KK)|(refine PL.done hK ?_;clear hK))
 refine wba 60 (d:=10) rfl rfl rfl (by simp) zz rfl (by omega) (by unfold maxLen;omega) (ips:=[]) (by simp[go_sem]) (by simp[zal]) (cs:=[]) rfl λv0 H0 b0 o0=>?_
 repeat (first|(refine PC.seq λK hK=>?_)|(refine PC.region ?_)|(refine PL.k rfl λKK hKK=>?_;simp (disch:=omega) [go_sem,jj];refine hKK _ ?_;clear hKK KK)|(refine PL.done hK ?_;clear hK))
 refine waj rfl rfl (by kernel_rfl) hC (by simp[go_sem]) (by simp[go_sem,nX]) (by simp[go_sem,nX]) ?_
 repeat (first|(refine PC.seq λK hK=>?_)|(refine PC.region ?_)|(refine PL.k rfl λKK hKK=>?_;simp (disch:=omega) [go_sem,jj,hc];refine hKK _ ?_;clear hKK KK)|(refine PL.g rfl rfl λKK hKK=>?_;simp (disch:=omega) [go_sem,L.stepG,hc];refine hKK _ ?_;clear hKK KK)|(refine PL.done hK ?_;clear hK)|(refine PC.skip (hK _ _ ?_);clear hK)|(refine wag ?_ ?_;focus (simp[go_sem,hc];done)))
 refine waj rfl rfl (by kernel_rfl) (jbr l w N hN hw hw0 hOf hc _ hr) (by simp[go_sem]) (by simp[go_sem,nX]) (by simp[go_sem,nX]) ?_;generalize hm0:zaf w e=m0;have hN0:0<N:=by omega
 repeat (first|(refine PC.seq λK hK=>?_)|(refine PC.block ?_)|(refine PC.region ?_)|(refine PL.k rfl λKK hKK=>?_;simp (disch:=omega) [go_sem,jj,qx,hN0];refine hKK _ ?_;clear hKK KK)|(refine PL.k rfl λKK hKK=>?_;simp[go_sem,jj,qx,hN0];refine hKK _ ?_;clear hKK KK)|(refine PL.done hK ?_;clear hK))
 refine PC.loop (λm F H'=>∃p v:Nat,p<=N/\m=N-p/\F 7=.ps 60 v/\F 8=qr N (m0 0)/\F 9=I p/\H' 60=⟨v,some (.row 3 1 (zb7 p m0).length ((zb7 p m0).map I))⟩) (m:=N) ⟨0,v0,by omega,by omega,by simp[go_sem],by simp[go_sem],by simp[go_sem],b0⟩ λm F H' hI=>?_;obtain⟨p,v,hp,hm,f7,f8,f9,h60⟩:=hI;have hsucc:=zsd p m0;have hlen:=zvt p m0;by_cases hlt:p<N
 ·cases hx:m0 0 p
  ·repeat (first|(refine PC.seq λK hK=>?_)|(refine PC.block ?_)|(refine PC.region ?_)|(refine PL.k rfl λKK hKK=>?_;simp (disch:=omega) [go_sem,jj,f7,f8,f9,hlt,qr,hx];refine hKK _ ?_;clear hKK KK)|(refine PL.k rfl λKK hKK=>?_;simp[go_sem,jj,f7,f8,f9,hlt,qr,hx];refine hKK _ ?_;clear hKK KK)|(refine PL.done hK ?_;clear hK)|(refine PC.skip (hK _ _ ?_);clear hK)|(refine wah ?_ ?_;focus (simp[go_sem,f7,f8,f9,hlt,qr,hx];done))|(refine wag ?_ ?_;focus (simp[go_sem,f7,f8,f9,hlt,qr,hx];done)))
   refine PL.nil ⟨N-(p+1),by omega,p+1,v,by omega,by omega,by simp[go_sem,f7],by simp[go_sem,f8,qr],by simp[go_sem],?_⟩;rw[hsucc,hx];simpa using h60
  ·repeat (first|(refine PC.seq λK hK=>?_)|(refine PC.block ?_)|(refine PC.region ?_)|(refine PL.k rfl λKK hKK=>?_;simp (disch:=omega) [go_sem,jj,f7,f8,f9,hlt,qr,hx];refine hKK _ ?_;clear hKK KK)|(refine PL.k rfl λKK hKK=>?_;simp[go_sem,jj,f7,f8,f9,hlt,qr,hx];refine hKK _ ?_;clear hKK KK)|(refine PL.done hK ?_;clear hK)|(refine PC.skip (hK _ _ ?_);clear hK)|(refine wah ?_ ?_;focus (simp[go_sem,f7,f8,f9,hlt,qr,hx];done)))
   refine way (d:=43) rfl rfl rfl (by simp) zz rfl (by omega) (ips:=[(0,I p)]) (by simp[go_sem]) (by simp[zal,go_sem,okC]) (ps:=[I p]) rfl ?_;refine wbd (d:=44) (id:=60) (ver:=v) (m:=(zb7 p m0).length) (m2:=1) (cs:=(zb7 p m0).map I) (cs2:=[I p]) (px :=.sl 1 [I p]) rfl rfl rfl (by simp) zz (by simp[go_sem]) h60 (by simp[go_sem]) (by simp[zdj,PV.cells]) (by simp[qh,Value.oneCell']) (by unfold maxLen;omega) (by omega) λv2 H2 b2 o2=>?_
   repeat (first|(refine PC.region ?_)|(refine PL.k rfl λKK hKK=>?_;simp (disch:=omega) [go_sem,jj,f9];refine hKK _ ?_;clear hKK KK)|(refine PL.done hK ?_;clear hK))
   refine PL.nil ⟨N-(p+1),by omega,p+1,v2,by omega,by omega,by simp[go_sem],by simp[go_sem,f8,qr],by simp[go_sem],?_⟩;rw[hsucc,hx,b2];simp
 ·have hpe:p=N:=by omega
  repeat (first|(refine PC.seq λK hK=>?_)|(refine PC.region ?_)|(refine PL.k rfl λKK hKK=>?_;simp (disch:=omega) [go_sem,jj,f7,f8,f9,hlt,qr];refine hKK _ ?_;clear hKK KK)|(refine PL.done hK ?_;clear hK)|(refine wag ?_ ?_;focus (simp[go_sem,f7,f8,f9,hlt,qr];done))|(refine PC.exit ?_;first|(refine hK _ _ ?_;clear hK)|(clear hK;refine hK _ _ ?_;clear hK)|(clear hK;clear hK;refine hK _ _ ?_;clear hK)))
  refine PC.ret ?_;refine⟨.inr rfl,.ps 60 v,slI (zb7 p m0),?_,?_,zc5 _,by rw[hpe,hm0]⟩
  ·simp[Qi,z6,Tryz.results35,go_sem]
  ·exact wcb (t:=3) (n:=(zb7 p m0).length) (by simp[qm,h60]) (by simp) λc hc=>by obtain⟨q,_,rfl⟩:=wef.1 hc;exact⟨.u _,rfl⟩
def z47(e:E)(w:ByteArray):Bool:=zaf w e 0 w.size
theorem jff(l:List Rx)(e:E)(he:WfX l e)(w:ByteArray)(hw:w.size<=1000)(hw0:w.size=0)(hOf:∀k,PCall Tryz.prog 125 [I k] (· = I (ofK k)))(hC:PCall Tryz.prog 82 [slX l] (· = I 0)):PCall Tryz.prog 17 [slX l,S w] (· = B (z47 e w)):=by
 have nX:=z43 l;have hE:=jep l e he w _ rfl hw hw0 hOf hC;unfold z47;generalize zaf w e=m0 at *;rw[zsd]at hE;have hlt:=jbg w.size m0;have hAl:=zvt w.size m0;generalize zb7 w.size m0=A at *;have hgx:∀(A:List Int)(a:Int),(A.map I++[I a])[A.length]?=some (I a):=λA a=>by
  rw[wei (by simp)];simp
 refine waf Tryz.func17 rfl Tryz.ntmps17 (by simp) λW=>?_
 repeat (first|(refine PC.seq λK hK=>?_)|(refine PC.region ?_)|(refine PL.k rfl λKK hKK=>?_;simp (disch:=omega) [go_sem,jj];refine hKK _ ?_;clear hKK KK)|(refine PL.done hK ?_;clear hK))
 refine waj rfl rfl (by kernel_rfl) hE (by simp[go_sem]) (by simp[go_sem,nX]) (by simp[go_sem,nX]) ?_;cases hx:m0 0 w.size
 ·simp only[we4,if_false,weq];rcases List.eq_nil_or_concat A with rfl|⟨A',a,rfl⟩
  ·repeat (first|(refine PC.seq λK hK=>?_)|(refine PC.region ?_)|(refine PL.k rfl λKK hKK=>?_;simp (disch:=omega) [go_sem,jj,slI];refine hKK _ ?_;clear hKK KK)|(refine PL.g rfl rfl λKK hKK=>?_;simp (disch:=omega) [go_sem,L.stepG,slI];refine hKK _ ?_;clear hKK KK)|(refine PL.done hK ?_;clear hK))
   (refine PC.ret ?_;refine fin (.inr rfl) (by simp[Qi,z6,Tryz.results17,go_sem,hx]) (by simp[go_sem,hx]))
  ·have ha:=hlt a (by simp);omega
 ·simp only[if_true];have h1:(0:Int)<=A.length:=by omega
  repeat (first|(refine PC.seq λK hK=>?_)|(refine PC.region ?_)|(refine PL.k rfl λKK hKK=>?_;simp (disch:=omega) [go_sem,jj,slI,hgx,h1];refine hKK _ ?_;clear hKK KK)|(refine PL.g rfl rfl λKK hKK=>?_;simp (disch:=omega) [go_sem,L.stepG,slI,hgx,h1];refine hKK _ ?_;clear hKK KK)|(refine PL.g rfl rfl λKK hKK=>?_;simp[go_sem,L.stepG,slI,hgx,h1];refine hKK _ ?_;clear hKK KK)|(refine PL.done hK ?_;clear hK))
  (refine PC.ret ?_;refine fin (.inr rfl) (by simp[Qi,z6,Tryz.results17,go_sem,hx]) (by simp[go_sem,hx]))
end Go.Proofs.YtdllbdlnmjngcaaGreat
namespace Go.Proofs.YtdllbdlnmjngcaaGreat.T
set_option maxRecDepth 100000
set_option maxHeartbeats 8000000
set_option linter.unusedVariables false
set_option linter.unusedSimpArgs false
open Go Go.RowKit L
theorem jdl(x:ji):enc Y_api_Rx x=Va (zcl x):=by
 obtain⟨k,⟨l,hl⟩,u⟩:=x
 match l,hl with
 |[a,b,c,d],_=>rfl
theorem jag(l:List ji):enc (.sl Y_api_Rx) l=slX (l.map zcl):=by
 show PV.sl _ (l.map (enc Y_api_Rx))=PV.sl 5 ((l.map zcl).map Va);rw[wff];exact congrArg _ (we9 λx _=>jdl x)
theorem of7(nn:Nat)(c:Int):V6 nn c=some (ofK c):=by
 unfold V6 J ofK;simp only[jb,ifB];by_cases h1:c=1
 ·subst h1;rfl
 by_cases h2:c=2
 ·subst h2;rfl
 by_cases h3:c=3
 ·subst h3;rfl
 by_cases h4:c=4
 ·subst h4;rfl
 by_cases h5:c=5
 ·subst h5;rfl
 by_cases h6:c=6
 ·subst h6;rfl
 by_cases h7:c=7
 ·subst h7;rfl
 simp[h1,h2,h3,h4,h5,h6,h7]
open Classical in
noncomputable def yz(nn:Nat)(a0:List ji)(a1:List UInt8):Option Bool:=jb (Vq nn a0) λc=>if h:∃e,WfX (a0.map zcl) e then if c=0/\a1=[]then some (z47 h.choose ⟨#[]⟩)else none else none
noncomputable abbrev zxl (nn:Nat):PF:=⟨[.sl Y_api_Rx,.str],.bool,λt=>yz nn t.1 t.2⟩
theorem zn0(nn:Nat):jz 17 (zxl nn):=⟨by kernel_rfl,λt r h=>by
 obtain⟨l,w⟩:=t;have h:yz nn l w=some r:=h;unfold yz at h;obtain⟨c,hc,h2⟩:=zb1 h;clear h;by_cases he:∃e,WfX (l.map zcl) e
 ·rw[dif_pos he]at h2;by_cases h3:c=0/\w=[]
  ·rw[if_pos h3]at h2;obtain⟨rfl,rfl⟩:=h3;cases h2;have hC:=(zdz nn).2 l 0 hc;have hk:=jff (l.map zcl) he.choose he.choose_spec ⟨#[]⟩ (by decide) rfl (λk=>(zh7 nn).2 k _ (of7 nn k)) (by rw[<- jag];exact hC);rw[<- jag]at hk;exact hk
  ·rw[if_neg h3]at h2;cases h2
 ·rw[dif_neg he]at h2;cases h2⟩
def zdm(st:List Bool)(x:Rx):List Bool:=
 if x.kind=1 then false::st else if x.kind=2 then true::st else match st with
 |[]=>[]
 |b::r=>if x.kind=5\/x.kind=7 then true::r else if x.kind=6 then b::r else match r with
  |[]=>[]
  |a::r=>if x.kind=3 then(a && b)::r else(a ||b)::r
theorem z6k(e:E):∀st,(post e).foldl zdm st=Ye e::st:=by
 induction e with
 |set=>intro st;simp[post,zdm,Ye]
 |empty=>intro st;simp[post,zdm,yy,Ye]
 |cat a b iha ihb=>intro st;simp[post,wfi,iha,ihb,zdm,yy,Ye]
 |alt a b iha ihb=>intro st;simp[post,wfi,iha,ihb,zdm,yy,Ye]
 |star a ih=>intro st;simp[post,wfi,ih,zdm,yy,Ye]
 |plus a ih=>intro st;simp[post,wfi,ih,zdm,yy,Ye]
 |opt a ih=>intro st;simp[post,wfi,ih,zdm,yy,Ye]
def nuB(f:jg):Bool:=f.1 && decide (f.2.1=0)
def zmy(f:jg):Prop:=f.1=true->0<=f.2.1/\f.2.1<=1099511627776
theorem cat_ex(a b:jg)(ha:zmy a)(hb:zmy b):Tn (λnn=>Vh nn a b) (λr=>zmy r/\nuB r=(nuB a && nuB b)):=by
 unfold Vh;refine Tt.J (λs=>(!(a.1 && b.1))=s.1/\a=s.2.1/\b=s.2.2.1) (λnx hnx=>?_) (λs⟨q1,q2,q3⟩=>?_)
 ·refine wad (wab (λc=>hnx _ ⟨?_,rfl,rfl⟩) λc=>hnx _ ⟨?_,rfl,rfl⟩)
  ·have:a.1=false:=by simpa using c
   simp[this]
  ·have:a.1=true:=by simpa using c
   simp[this]
 ·obtain⟨s1,sa,sb,sz⟩:=s;dsimp only at q1 q2 q3⊢;subst q1 q2 q3;refine wab (λc=>Tt.pure ⟨λh=>(by cases h),?_⟩) λc=>?_
  ·unfold nuB;cases h1:a.1<;>cases h2:b.1<;>simp[h1,h2]at c⊢
  have c1:a.1=true/\b.1=true:=by simpa using c
  obtain⟨a1,a2⟩:=ha c1.1;obtain⟨b1,b2⟩:=hb c1.2;have hfin:∀r:jg,r.1=true->r.2.1=min (T.w64 (a.2.1+b.2.1)) 1099511627776->zmy r/\nuB r=(nuB a && nuB b):=λr h1 h2=>by
   rw[wI (by omega) (by omega)]at h2;refine⟨λ_=>by omega,?_⟩;unfold nuB;rw[h1,c1.1,c1.2,wgw,wgw,wgw,<- Bool.decide_and,decide_eq_decide];omega
  refine Tt.J (λs=>s.2.2.2.1=true/\s.2.2.2.2.1=min (T.w64 (a.2.1+b.2.1)) 1099511627776) (λnx hnx=>?_) (λs⟨h1,h2⟩=>?_)
  ·exact wab (λ_=>Tt.bind (Tt.call (zjj _ _) waa) λ_ _=>hnx _ ⟨rfl,rfl⟩) λ_=>Tt.bind (Tt.call (zjj _ _) waa) λ_ _=>hnx _ ⟨rfl,rfl⟩
  ·refine Tt.J (λs=>s.2.1=true/\s.2.2.1=min (T.w64 (a.2.1+b.2.1)) 1099511627776) (λnx hnx=>?_) (λs⟨h1,h2⟩=>Tt.pure (hfin _ h1 h2));exact wab (λ_=>Tt.bind (Tt.call (zjj _ _) waa) λ_ _=>hnx _ ⟨h1,h2⟩) λ_=>hnx _ ⟨h1,h2⟩
theorem z2v(a b:jg)(ha:zmy a)(hb:zmy b):Tn (λnn=>Jd nn a b) (λr=>zmy r/\nuB r=(nuB a ||nuB b)):=by
 unfold Jd;refine wab (λc=>Tt.pure ⟨hb,?_⟩) λc1=>wab (λc=>Tt.pure ⟨ha,?_⟩) λc2=>?_
 ·have:a.1=false:=by simpa using c
  unfold nuB;rw[this];simp
 ·have:b.1=false:=by simpa using c
  unfold nuB;rw[this];simp
 have c1:a.1=true:=by simpa using c1
 have c2:b.1=true:=by simpa using c2
 obtain⟨a1,a2⟩:=ha c1;obtain⟨b1,b2⟩:=hb c2;refine Tt.J (λs=>s.1=true/\s.2.1=min a.2.1 b.2.1) (λnx hnx=>?_) (λs⟨h1,h2⟩=>Tt.pure ⟨λ_=>by omega,?_⟩)
 ·exact wab (λ_=>Tt.bind (Tt.call (zjj _ _) waa) λ_ _=>Tt.bind (Tt.call (zjj _ _) waa) λ_ _=>hnx _ ⟨rfl,rfl⟩) λ_=>Tt.bind (Tt.call (zjj _ _) waa) λ_ _=>Tt.bind (Tt.call (zjj _ _) waa) λ_ _=>hnx _ ⟨rfl,rfl⟩
 ·unfold nuB;rw[h1,h2,c1,c2,wgw,wgw,wgw,<- Bool.decide_or,decide_eq_decide];omega
theorem zxx{α:Type}{l:List α}(h:l.length=1):∃a,l=[a]:=by
 match l,h with
 |[a],_=>exact⟨a,rfl⟩
theorem z4k{α:Type}{l:List α}(h:l.length=2):∃a b,l=[a,b]:=by
 match l,h with
 |[a,b],_=>exact⟨a,b,rfl⟩
theorem jba(x:ji)(l:List jg)(n:Nat)(hn:arK x.1=some n)(hl:l.length=n)(hf:∀f∈l,zmy f):Tn (λnn=>Jb nn x l) (λr=>zmy r/\∀st,zdm ((l.map nuB).reverse++st) (zcl x)=nuB r::st):=by
 have hk:(zcl x).kind=x.1:=rfl;have h0:zmy (true,0,0,false,⟨List.replicate 4 0,wd6⟩,⟨List.replicate 4 0,wd6⟩,()):=λ_=>⟨by decide,by decide⟩
 unfold Jb;refine wab (λc=>?_) λc1=>?_
 ·have c:=wd3 c;rw[c]at hn;cases hn;have:=List.length_eq_zero_iff.1 hl;subst this;refine wab (λ_=>Tt.pure ⟨λh=>(by cases h),λst=>?_⟩) λ_=>Tt.pure ⟨λ_=>⟨by show(0:Int)<=1;decide,by show(1:Int)<=1099511627776;decide⟩,λst=>?_⟩
  ·unfold zdm;rw[hk,if_pos c];rfl
  ·unfold zdm;rw[hk,if_pos c];rfl
 have c1:=wd4 c1;refine wab (λc=>?_) λc3=>wab (λc=>?_) λc4=>wab (λc=>?_) λc7=>?_
 ·have c:=wd3 c;rw[c]at hn;cases hn;obtain⟨a,b,rfl⟩:=z4k hl;refine wac a rfl (wac b rfl (Tt.bind (Tt.call (cat_ex a b (hf _ (by simp)) (hf _ (by simp))) waa) λr⟨r1,r2⟩=>Tt.pure ⟨r1,λst=>?_⟩));rw[r2];unfold zdm;rw[hk,c];rfl
 ·have c:=wd3 c;rw[c]at hn;cases hn;obtain⟨a,b,rfl⟩:=z4k hl;refine wac a rfl (wac b rfl (Tt.bind (Tt.call (z2v a b (hf _ (by simp)) (hf _ (by simp))) waa) λr⟨r1,r2⟩=>Tt.pure ⟨r1,λst=>?_⟩));rw[r2];unfold zdm;rw[hk,c];rfl
 ·have c:=wd3 c;rw[c]at hn;cases hn;obtain⟨a,rfl⟩:=zxx hl;refine wac a rfl (Tt.bind (Tt.call (z2v _ a h0 (hf _ (by simp))) waa) λr⟨r1,r2⟩=>Tt.pure ⟨r1,λst=>?_⟩);rw[r2];unfold zdm;rw[hk,c];rfl
 ·have c3:=wd4 c3;have c4:=wd4 c4;have c7:=wd4 c7;refine Tt.J (λs=>l=s.1/\decide (x.1=5\/x.1=6)=s.2.1/\x=s.2.2.1/\(true,0,0,false,⟨List.replicate 4 0,wd6⟩,⟨List.replicate 4 0,wd6⟩,())=s.2.2.2.2) (λnx hnx=>?_) (λs⟨q1,q2,q3,q4⟩=>?_)
  ·refine wad (wab (λc=>hnx _ ⟨rfl,?_,rfl,rfl⟩) λc=>wad (hnx _ ⟨rfl,?_,rfl,rfl⟩))
   ·have c5:=wd3 c;simp[c5]
   ·have c5:=wd4 c;simp[c5]
  ·obtain⟨s1,s2,s3,s4,s5⟩:=s;dsimp only at q1 q2 q3 q4⊢;subst q1 q2 q3 q4;refine wab (λc=>?_) λc=>?_
   ·have c:=wd3 c;have hn1:n=1:=by
     rcases c with c|c<;>(rw[c]at hn;cases hn;rfl)
    subst hn1;obtain⟨a,rfl⟩:=zxx hl;have ha:=hf a (by simp);refine wac a rfl ?_;refine Tt.J (λs=>x=s.1/\(true,0,0,false,⟨List.replicate 4 0,wd6⟩,⟨List.replicate 4 0,wd6⟩,())=s.2.2.1/\zmy s.2.2.2/\nuB s.2.2.2=nuB a) (λnx hnx=>wab (λ_=>hnx _ ⟨rfl,rfl,ha,rfl⟩) λ_=>hnx _ ⟨rfl,rfl,ha,rfl⟩) (λs⟨q1,q2,ho,hna⟩=>?_);obtain⟨x2,z,t,o⟩:=s;dsimp only at q1 q2 ho hna⊢;subst q1 q2;refine Tt.J (λs=>zmy s.2/\∀st,zdm ((([a]:List jg).map nuB).reverse++st) (zcl x)=nuB s.2::st) (λnx hnx=>?_) (λs hs=>Tt.pure hs);refine wab (λc5=>Tt.bind (Tt.call (z2v _ o h0 ho) waa) λr⟨r1,r2⟩=>hnx _ ⟨r1,λst=>?_⟩) λc5=>hnx _ ⟨ho,λst=>?_⟩
    ·have c5:=wd3 c5;rw[r2];unfold zdm;rw[hk,c5];rfl
    ·have c5:=wd4 c5;have c6:x.1=6:=c.resolve_left c5;rw[hna];unfold zdm;rw[hk,c6];rfl
   ·have c:=wd4 c;have h2:x.1=2/\n=0:=by
     unfold arK at hn;split at hn
     ·omega
     ·split at hn
      ·omega
      ·split at hn
       ·cases hn;omega
       ·cases hn
    obtain⟨c2,rfl⟩:=h2;have:=List.length_eq_zero_iff.1 hl;subst this;refine Tt.pure ⟨h0,λst=>?_⟩;unfold zdm;rw[hk,c2];rfl
theorem z5v(l:List ji)(hc:zgs l=0):Tn (λnn=>Qa nn l) (λr=>nuB r=Ye (zj9 l)):=by
 have hW:=zf7 hc;unfold Qa;refine Tt.J (λs=>nuB s.2=Ye (zj9 l)) (λnw hnw=>?_) (λs hs=>Tt.pure hs);refine Tt.bind (Tt.call (z98 l (by have:=hW.2;omega)) waa) λe he=>?_;rw[hc]at he;subst he;obtain⟨hd1,h512⟩:=hW;refine wap rfl ?_;refine Tt.loop (λm s=>∃(k:Nat)(f:jg)(st:List jg),k<=l.length/\m=l.length-k/\s=(l,(l.length:Int),(k:Int),f,st)/\zdh (l.take k) 0=some st.length/\st.length<=k/\(∀f∈st,zmy f)/\((l.take k).map zcl).foldl zdm []=(st.map nuB).reverse) l.length waa ⟨0,_,[],by omega,by omega,rfl,rfl,by simp,by simp,rfl⟩ λm s⟨k,f,st,hk,hm,hs,hd,hst,hfc,hnu⟩ nx hnx=>?_;subst hs;dsimp only;refine wab (λc=>?_) (λc=>?_)
 ·have c:=wd3 c;have hlt:k<l.length:=by omega
  obtain⟨n,hn,hnj,hd2⟩:=zmx hd1 hlt hd;have hnu2:((l.take (k+1)).map zcl).foldl zdm []=zdm (st.map nuB).reverse (zcl l[k]):=by
   rw[wel hlt,wfl,wfi,hnu];rfl
  refine wac _ (atN hlt) ?_;refine Tt.J (λs=>s=((n:Int),l,(l.length:Int),(k:Int),f,st,l[k])) (λny hny=>?_) (λs hs=>?_)
  ·refine Tt.J (λs=>∃b,s=(0,l,(l.length:Int),(k:Int),(l[k]).1,b,f,st,l[k])/\(b=true↔((l[k]).1=3\/(l[k]).1=4))) (λnz hnz=>?_) (λs⟨b,hs,hb⟩=>?_)
   ·refine wad (wab (λc=>hnz _ ⟨_,rfl,?_⟩) (λc=>wad (hnz _ ⟨_,rfl,?_⟩)))
    ·have:=wd3 c;simp[this]
    ·have:=wd4 c;simp[this]
   ·subst hs;dsimp only;refine wab (λc=>hny _ ?_) (λc=>?_)
    ·have:=hb.1 c;rw[arK,if_pos this]at hn;cases hn;rfl
    ·have h34:¬((l[k]).1=3\/(l[k]).1=4):=λh=>by rw[hb.2 h]at c;cases c
     refine Tt.J (λs=>∃b,s=(0,l,(l.length:Int),(k:Int),b,f,st,l[k])/\(b=true↔((l[k]).1=5\/(l[k]).1=6\/(l[k]).1=7))) (λnu hnu=>?_) (λs⟨b,hs,hb⟩=>?_)
     ·refine wad (wab (λc=>hnu _ ⟨_,rfl,?_⟩) (λc=>wad (wab (λc2=>hnu _ ⟨_,rfl,?_⟩) (λc2=>wad (hnu _ ⟨_,rfl,?_⟩)))))
      ·have:=wd3 c;simp[this]
      ·have:=wd3 c2;simp[this]
      ·have h1:=wd4 c;have h2:=wd4 c2;simp[h1,h2]
     ·subst hs;dsimp only;rw[arK,if_neg h34]at hn;refine wab (λc=>hny _ ?_) (λc=>hny _ ?_)
      ·rw[if_pos (hb.1 c)]at hn;cases hn;rfl
      ·rw[if_neg (λh=>by rw[hb.2 h]at c;cases c)]at hn;split at hn<;>cases hn;rfl
  ·subst hs;dsimp only;refine wad ?_;rw[wI (by omega) (by omega)];have ez:(st.length:Int)-(n:Int)=((st.length-n:Nat):Int):=by omega
   rw[ez];refine wac (st.length-n) (by unfold jb3;simp) ?_;have hdl:(st.drop (st.length-n)).length=n:=by rw[wfc];omega
   refine wac _ (Jw (by simp;omega) (by omega)) ?_;rw[wfx];refine Tt.bind (Tt.call (jba _ _ n hn hdl λf hf=>hfc f (wgh hf)) waa.fst) λr⟨r1,r2⟩=>?_;refine wac (st.take (st.length-n)) (by unfold Zi;simp) (wac _ (Jw (by simp;omega) (by omega)) (wad ?_));rw[wI (by omega) (by omega)];have el:(st.take (st.length-n)++[r]).length=st.length-n+1:=by rw[weo,wfg];simp
   refine hnx (l.length-(k+1)) _ (by omega) ⟨k+1,f,_,by omega,rfl,rfl,by rw[el];exact hd2,by rw[el];omega,λf hf=>?_,?_⟩
   ·rcases wej.1 hf with h|h
    ·exact hfc f (wgi h)
    ·rw[wea.1 h];exact r1
   ·have hsp:st.map nuB=(st.take (st.length-n)).map nuB++(st.drop (st.length-n)).map nuB:=by rw[<- wfl,wfh]
    rw[hnu2,hsp,List.reverse_append,r2,wfl,List.reverse_append];rfl
 ·have c:=wd4 c;have hke:k=l.length:=by omega
  rw[hke,we1,hd1]at hd;rw[hke,we1,zz4 hc,z6k]at hnu;have h1:st.length=1:=(wfy hd).symm;obtain⟨a,rfl⟩:=zxx h1;refine wac _ (ye (k:=0) (by simp)) (wac a rfl (hnw.fst _ ?_));simp at hnu;exact hnu.symm
theorem z3o{l:List ji}(hc:zgs l=0):zcq l=Ye (zj9 l):=by
 have h1:Tn (λnn=>vd nn l) (λx=>x=Ye (zj9 l)):=by
  unfold vd;refine Tt.bind (R:=λz=>decide (z=0)=Ye (zj9 l)) ?_ λz hz=>Tt.pure hz;unfold Qh;refine Tt.bind (Tt.call (z5v l hc) waa) λr hr=>wab (λc=>Tt.pure ?_) λc=>Tt.pure ?_
  ·have c:r.1=false:=by simpa using c
   rw[<- hr];unfold nuB;rw[c];rfl
  ·have c:r.1=true:=by simpa using c
   rw[<- hr];unfold nuB;rw[c];rfl
 have h2:=zzy l (by have:=(zf7 hc).2;omega);obtain⟨r,⟨N,k1⟩,rfl⟩:=h1;obtain⟨s,⟨M,k2⟩,rfl⟩:=h2;exact wfy ((k2 (N+M) (by omega)).symm.trans (k1 (N+M) (by omega)))
theorem z2n(e:E):z47 e ⟨#[]⟩=Ye e:=by
 have hb:∀f g:Mt,zfb f g 1 0 0=(f 0 0 && g 0 0):=λf g=>by simp[zfb,List.range_succ]
 have ha:∀f:Mt,zby 1 f 0 0=f 0 0:=λf=>by
  unfold zby ziz;rw[if_pos (by decide)];unfold ziz sqF;rw[hb];cases f 0 0<;>rfl
 show zaf ⟨#[]⟩ e 0 0=Ye e;induction e with
 |set=>rfl
 |empty=>rfl
 |cat a b iha ihb=>show zfb (zaf ⟨#[]⟩ a) (zaf ⟨#[]⟩ b) 1 0 0=_;rw[hb,iha,ihb];rfl
 |alt a b iha ihb=>show(zaf ⟨#[]⟩ a 0 0 ||zaf ⟨#[]⟩ b 0 0)=_;rw[iha,ihb];rfl
 |star a ih=>rfl
 |plus a ih=>show zby 1 (zaf ⟨#[]⟩ a) 0 0=_;rw[ha,ih];rfl
 |opt a ih=>rfl
theorem z4a{l:List ji}(hc:zgs l=0):Tn (λnn=>yz nn l []) (λb=>b=zcq l):=by
 have hW:=(zf7 hc).2;unfold yz;refine Tt.bind (Tt.call (zvn l (by omega)) waa) λc h=>?_;rw[hc]at h;subst h;have he:∃e,WfX (l.map zcl) e:=⟨zj9 l,by rw[wey];exact hW,zz4 hc⟩
 rw[dif_pos he,if_pos ⟨rfl,rfl⟩];refine Tt.pure ?_;rw[z2n,z3o hc,z0o he.choose_spec.2]
noncomputable def yv(nn:Nat)(a0:ja):Option Bool:=jb (Vr nn a0) λa=>ifB (!a) (jb (y0 nn) λb=>some b) (jb (yb nn a0) λc=>jb (q7 nn a0) λd=>jb (y5 nn a0) λe=>ifB (decide (c.1=10)) (J (λ(f:Bool)=>some f) λg=>jb (some (decide (0<=c.2.1))) λh=>ifB h (ifB (decide (c.2.1<(a0.1.length:Int))) (jb (atL a0.1 c.2.1) λi=>jb (yz nn i.2.1 []) λj=>ifB j (jb (y0 nn) λk=>g k) (g false)) (g false)) (g false)) (J (σ:=(List Bool)×(List Bool)×Bool×ja×jc) (λ(l,m,n,o,p)=>ifB n (J (λ(r:Bool)=>some r) λs=>jb (some (decide (0<=p.2.1))) λu=>ifB u (ifB (decide (p.2.1<(l.length:Int))) (jb (atL l p.2.1) λv=>ifB (!v) (jb (y0 nn) λw=>s w) (s false)) (s false)) (s false)) (ifB (decide (p.1=14)) (J (λ(x:Bool)=>some x) λy=>jb (some (decide (0<=p.2.1))) λz=>ifB z (ifB (decide (p.2.1<(m.length:Int))) (jb (atL m p.2.1) λb0=>ifB (!b0) (jb (y0 nn) λb1=>y b1) (y false)) (y false)) (y false)) (ifB (decide (¬p.1=0)) (jb (y0 nn) λb2=>some b2) (jm (σ:=(List Bool)×(List Bool)×Int×ja) (λ(b3,b4,b5,b6)b7=>ifB (decide (b5<(b6.1.length:Int))) (jb (atL b6.1 b5) λb8=>jb (yz nn b8.2.1 []) λb9=>ifB b9 (some false) (jb (some (w64 (b5+1))) λc0=>b7 (b3,b4,c0,b6))) (jm (σ:=(List Bool)×(List Bool)×Int×ja) (λ(c1,c2,c3,c4)c5=>ifB (decide (c3<(c4.2.1.length:Int))) (J (σ:=(List Bool)×(List Bool)×Int×Bool×ja) (λ(c6,c7,c8,c9,d0)=>ifB c9 (some false) (jb (some (w64 (c8+1))) λd2=>c5 (c6,c7,d2,d0))) λd1=>jb (atL c1 c3) λd3=>jb (some (!d3)) λd4=>ifB d4 (d1 (c1,c2,c3,true,c4)) (jb (atL c2 c3) λd5=>d1 (c1,c2,c3,!d5,c4))) (jb (Vx nn c4) λd6=>J (λ(d7:Bool)=>some d7) λd8=>jb (some (decide (d6.1.1=0))) λd9=>ifB d9 (jb (y0 nn) λe0=>d8 e0) (d8 false))) nn (b3,b4,0,b6))) nn (l,m,0,o))))) λq=>jb (some (decide (c.1=13))) λe1=>ifB e1 (q (d,e,decide (c.2.2.1=0),a0,c)) (q (d,e,false,a0,c))))
noncomputable def ziu:=lk (α:=HK) [(506,me [vp 1 0,(4,.v LB),(5,.v LB),vi 6] [.box 26 [.v Y_api_Grammar]] 1),(996,me [vb 2] [] 0),(998,me [vp 1 0,vp 3 1,(4,.v LB),(5,.v LB),vb 48] [.box 26 [.v Y_api_Grammar],.box 36 [.v jd]] 2),(1018,me [vp 1 0,(4,.v LB),(5,.v LB),vi 7] [.box 26 [.v Y_api_Grammar]] 1),(1022,me [vb 2] [] 0),(3996,me [vb 2] [] 0),(15996,me [vb 2] [] 0),(32584,me [vp 1 0,(4,.v LB),(5,.v LB),vi 7,vb 140] [.box 26 [.v Y_api_Grammar]] 1)]
theorem P_law25_AcceptTrue_ok(nn:Nat):jz 4 ⟨[Y_api_Grammar],.bool,λt=>yv nn t⟩:=mk1 Tryz.func4 nn 0 [(0,[26,51,59,84,114,128,133,148])] [] [] [] itn ziu rn gn (tc (zmt nn) (tc (zk9 nn) (tc (zbv nn) (tc (zci nn) (tc (zli nn) (tc (zn0 nn) (tc (zme nn) tn))))))) (by kernel_rfl) λt=>by kernel_rfl
theorem z24{kd mo:Int}:∀{l:List Bool}{i:Nat},(fs2 kd mo l i).1≠0->∃j:Nat,l[j]?=some false/\fs2 kd mo l i=(kd,((i+j:Nat):Int),mo,())
 |[],_,h=>absurd rfl h
 |true::l,i,h=>by
  obtain⟨j,h1,h2⟩:=z24 (l:=l) (i:=i+1) h;exact⟨j+1,h1,h2.trans (by rw[show i+1+j=i+(j+1) by omega])⟩
 |false::l,i,h=>⟨0,rfl,rfl⟩
theorem z2l{kd:Int}:∀{l:List Bool}{i:Nat},(fsF kd l i).1≠0->∃j:Nat,l[j]?=some false/\fsF kd l i=(kd,((i+j:Nat):Int),0,())
 |[],_,h=>absurd rfl h
 |true::l,i,h=>by
  obtain⟨j,h1,h2⟩:=z2l (l:=l) (i:=i+1) h;exact⟨j+1,h1,h2.trans (by rw[show i+1+j=i+(j+1) by omega])⟩
 |false::l,i,h=>⟨0,rfl,rfl⟩
theorem zwk{kd:Int}(hk:kd≠0):∀{l:List Bool}{i:Nat},(fsF kd l i).1=0->∀b∈l,b=true
 |[],_,_,b,hb=>by cases hb
 |true::l,i,h,b,hb=>by
  rcases wep.1 hb with e|e
  ·exact e
  ·exact zwk hk (l:=l) (i:=i+1) h b e
 |false::l,i,h,b,hb=>absurd h hk
theorem jca{nn:Nat}{g:ja}{r:jc×Int×Unit}(h:y6 nn g=some r):r.1.1=0\/r.1.1=15:=by
 unfold y6 at h;obtain⟨b,_,h⟩:=zb1 h;cases hc:decide (g.2.2.1.length<=1000000)with
 |false=>rw[hc]at h;cases h
 |true=>
  rw[hc]at h;cases b with
  |false=>cases h;simp
  |true=>
   obtain⟨m,_,h⟩:=zb1 h;obtain⟨q,hq,h⟩:=zb1 h;cases h;unfold zi8 at hq;split at hq
   ·cases hq;simp
   ·obtain⟨_,_,e⟩:=wee.1 hq;cases e;simp
structure PrX(g:ja)(em re mk:List Bool)(al B:List (List Int))(c:jc):Prop where
 k:Kn g em re al B
 em1:em.length=g.2.1.length/\(∀p∈g.2.2.1,mkT false em p)/\MSn false g em
 re1:re.length=g.2.1.length/\re[g.2.2.2.1.toNat]?=some true/\(∀p∈g.2.2.1,reC re p)/\∀i,re[i]?=some true->ReG g i
 mk1:mk.length=g.2.1.length/\(∀p∈g.2.2.1,mkT true mk p)/\MSn true g mk
 c0:c.1=0->NC g em al B
 ck:c.1=0\/c.1=15
 p:Pre g (z2p g) (fsF 13 re 0) (fsF 14 mk 0) c
theorem PrX_of{g:ja}(hg:Qv g)(hz:gFd g=zd):∃em re mk al B c,PrX g em re mk al B c:=by
 obtain⟨hR,hok⟩:=jfr hg hz;obtain⟨em,re,al,B,hk⟩:=jft g hg hR hok;have hem:=Tn.eq hk.hE (ja0 g hg hR hok);have hre:=Tn.eq hk.hRe (z1u g hg hR hok);obtain⟨mk,hM,hmk⟩:=(jaj g hg hR hok).val;obtain⟨c,⟨N,hC⟩,hn⟩:=z74 hg hR hok hk;have hck:=jca (hC N (weh _));refine⟨em,re,mk,al,B,c.1,hk,hem,hre,hmk,hn,hck,λy=>z6d hg hok y,λy=>z5s hok y hk.hrl hk.hRe,λy=>z61 hok y hmk.1 hM,λy=>?_,?_,?_,?_,by omega⟩
 ·unfold Ve;refine wad (Tt.bind (R:=λr=>r=c) (Tt.call (show Tn (λnn=>y6 nn (g,y).1) (λr=>r=c)from⟨c,⟨N,hC⟩,rfl⟩) waa) λr hr=>Tt.pure (by rw[hr]))
 ·have:=z3z (kd:=10) (mo:=0) (l:=g.1.map λx=>!zcq x.2.1) (i:=0);unfold z2p;omega
 ·have:=zpx (kd:=13) (l:=re) (i:=0);omega
 ·have:=zpx (kd:=14) (l:=mk) (i:=0);omega
theorem jc2{g:ja}(hg:Qv g)(ht:g.1.length<=12)(hz:gFd g=zd){d2 d3 d4 d5:jc}(hp:Pre g d2 d3 d4 d5){n:jt}{bd:D_api_Dfa×Int×Int×Unit}{lt:List Int}(hF:Tn (λnn=>zat nn g.1) (λr=>r=n))(hB:Tn (λnn=>zad nn n g.2.2.2.2.1) (λr=>r=bd))(hD:DSz bd.1)(hT:Tn (λnn=>Ji nn bd.1) (λr=>r=lt))(hl:lt.length<=1000000):Tn (λnn=>Jq nn g) (λr=>r.2.2.1=jn [d2,d3,d4,d5,zin g.1.length bd.2.2.1 lt]):=by
 obtain⟨hR,hok⟩:=jfr hg hz;obtain⟨em,re,al,B,hk⟩:=jft g hg hR hok;unfold Jq;refine Tt.J (λs=>∃(Z:Arr 256 Int)(z1:jc)(g2:ja)(d:D_api_Dfa)(e:jc)(l1:List (List Int))(l2:List Int)(l3:List (List Int)),s=(g,Z,z1,g2,d,e,l1,l2,l3)/\DSz d/\e=jn [d2,d3,d4,d5,zin g.1.length bd.2.2.1 lt]) (λnx hnx=>?_) λs⟨Z,z1,g2,d,e,l1,l2,l3,hs,h1,h3⟩=>?_
 ·have hin:∀{Z z1 g2}{d:D_api_Dfa}{e:jc}{l1 l2 l3},DSz d->e=jn [d2,d3,d4,d5,zin g.1.length bd.2.2.1 lt]->Tt wcy (λi=>nx i (g,Z,z1,g2,d,e,l1,l2,l3)) _:=λh1 h3=>hnx _ ⟨_,_,_,_,_,_,_,_,rfl,h1,h3⟩;refine Tt.bind (Tt.call (zvc g hg _) waa) λd1 hd1=>?_;rw[hz]at hd1;subst hd1;refine wap rfl (Tt.bind (Tt.call (hp.t2 _) waa) λx hx=>?_);subst hx;refine wab (λc=>hin DSz.zero ?_) λc=>?_
  ·simp only[jn];rw[if_neg (wd3 c)]
  have c2:x.1=0:=wgc.1 (wd4 c);refine Tt.bind (Tt.call (hp.t3 _) waa) λy hy=>?_;subst hy;refine wab (λc=>hin DSz.zero ?_) λc=>?_
  ·simp only[jn];rw[if_pos c2,if_neg (wd3 c)]
  have c3:y.1=0:=wgc.1 (wd4 c);refine Tt.bind (Tt.call (hp.t4 _) waa) λw hw=>?_;subst hw;refine wab (λc=>hin DSz.zero ?_) λc=>?_
  ·simp only[jn];rw[if_pos c2,if_pos c3,if_neg (wd3 c)]
  have c4:w.1=0:=wgc.1 (wd4 c);refine Tt.bind (Tt.call (hp.t5 _) waa) λv hv=>?_;subst hv;refine wab (λc=>hin DSz.zero ?_) λc=>?_
  ·simp only[jn];rw[if_pos c2,if_pos c3,if_pos c4,if_neg (wd3 c)]
  have c5:v.1=0:=wgc.1 (wd4 c);have hrest:zin g.1.length bd.2.2.1 lt=jn [x,y,w,v,zin g.1.length bd.2.2.1 lt]:=by
   simp only[jn];rw[if_pos c2,if_pos c3,if_pos c4,if_pos c5];split
   ·rename_i h;unfold zin at h⊢;split at h
    ·rename_i h6;rw[if_pos h6];exact jcm (by decide) h
    ·cases h
   ·rfl
  refine Tt.J (λs=>∃(Z:Arr 256 Int)(z1:jc)(d:D_api_Dfa)(e:jc)(l1:List (List Int))(l2:List Int)(l3:List (List Int)),s=(g,Z,z1,g,d,e,l1,l2,l3)/\DSz d/\((e.1≠0/\e=zin g.1.length bd.2.2.1 lt)\/(e.1=0/\bd.2.2.1=0/\d=bd.1))) (λny hny=>?_) λs⟨Z,z1,d,e,l1,l2,l3,hs,h1,h2⟩=>?_
  ·refine Tt.bind (Tt.call hF waa) λn hn=>?_;subst hn;refine Tt.bind (Tt.call hB waa) λd hd=>?_;subst hd;exact wab (λc=>hny _ ⟨_,_,_,_,_,_,_,rfl,DSz.zero,.inl ⟨by simp,by unfold zin;rw[if_neg (wd3 c)]⟩⟩) λc=>hny _ ⟨_,_,_,_,_,_,_,rfl,hD,.inr ⟨rfl,by have:=wd4 c;omega,rfl⟩⟩
  ·subst hs;dsimp only;rcases h2 with⟨h2,h4⟩|⟨h2,h4,h7⟩
   ·exact waq (wfb h2) (hin h1 (h4▸hrest))
   ·subst h7;refine wap (wf5 (by omega)) ?_;refine Tt.bind (Tt.call (z65 (by omega) bd.1 _ hl hT) waa) λe2 he2=>?_;have h8:e2=jn [x,y,w,v,zin g.1.length bd.2.2.1 lt]:=by
     rw[<- hrest];unfold zin;rw[if_pos h4,he2]
    exact wab (λ_=>hin h1 h8) λ_=>hin h1 h8
 ·subst hs;dsimp only;refine wab (λc=>Tt.pure h3) λc=>?_;exact Tt.bind (Tt.call (z2e hg hR hok hk) waa) λt _=>Tt.bind (Tt.call (z9l d h1) waa) λm _=>Tt.pure h3
structure TrF(g:ja)(d:jc)(re mk:List Bool):Prop where
 h10:d.1=10->∃j:Nat,∃h:j<g.1.length,d.2.1=j/\Tn (λnn=>yz nn g.1[j].2.1 []) (λb=>b=true)
 h13:d.1=13->d.2.2.1=0->∃j:Nat,d.2.1=j/\re[j]?=some false
 h14:d.1=14->∃j:Nat,d.2.1=j/\mk[j]?=some false
 h0:d.1=0->(∀t∈g.1,Tn (λnn=>yz nn t.2.1 []) (λb=>b=false))/\(re.length=g.2.1.length/\∀b∈re,b=true)/\(mk.length=g.2.1.length/\∀b∈mk,b=true)/\Tn (λnn=>Vx nn g) (λr=>r.1.1=0)
theorem z4l{l:List Bool}{j:Nat}(h:l[j]?=some false):j<l.length/\atL l (j:Int)=some false:=by
 obtain⟨h1,h2⟩:=wd5.1 h;exact⟨h1,by rw[atN h1,h2]⟩
theorem zul{g:ja}(hs:g.1.length<=64/\g.2.1.length<=64){d:jc}{re mk:List Bool}(hf:TrF g d re mk)(hA:Tn (λnn=>yb nn g) (λr=>r=d))(hR:Tn (λnn=>q7 nn g) (λr=>r=re))(hM:Tn (λnn=>y5 nn g) (λr=>r=mk))(hS:Tn (λnn=>Vr nn g) (λb=>b=true)):Tn (λnn=>yv nn g) (λb=>b=true):=by
 have hkn:=Tt.call (φ:=λi:Nat=>i) zgh waa;unfold yv;refine Tt.bind (Tt.call hS waa) λb hb=>?_;subst hb;refine wap rfl (Tt.bind (Tt.call hA waa) λc hc=>Tt.bind (Tt.call hR waa) λr hr=>Tt.bind (Tt.call hM waa) λm hm=>?_);subst hc hr hm;refine wab (λc1=>?_) λc1=>?_
 ·have c1:=wd3 c1;obtain⟨j,hj,h1,h2⟩:=hf.h10 c1;refine Tt.J (λb=>b=true) (λnx hnx=>?_) λs hs=>Tt.pure hs;rw[h1];refine wad (waq (wfb (by omega)) (waq (wfb (by omega)) (wac _ (atN hj) (Tt.bind (Tt.call h2 waa) λb hb=>?_))));subst hb;exact waq rfl (Tt.bind hkn λb hb=>hnx _ hb)
 have c1:=wd4 c1;refine Tt.J (λs=>∃b,s=(r,m,b,g,c)/\(b=true->c.1=13/\c.2.2.1=0)) (λnx hnx=>?_) λs⟨b,hs2,hb⟩=>?_
 ·exact wad (wab (λc2=>hnx _ ⟨_,rfl,λh=>⟨wd3 c2,wd3 h⟩⟩) λc2=>hnx _ ⟨_,rfl,λh=>by cases h⟩)
 subst hs2;dsimp only;refine wab (λc2=>?_) λc2=>wab (λc3=>?_) λc3=>wab (λc4=>Tt.bind hkn λb hb=>Tt.pure hb) λc4=>?_
 ·obtain⟨j,h1,h2⟩:=hf.h13 (hb c2).1 (hb c2).2;obtain⟨h3,h4⟩:=z4l h2;refine Tt.J (λb=>b=true) (λnx hnx=>?_) λs hs=>Tt.pure hs;rw[h1];exact wad (waq (wfb (by omega)) (waq (wfb (by omega)) (wac _ h4 (waq rfl (Tt.bind hkn λb hb=>hnx _ hb)))))
 ·obtain⟨j,h1,h2⟩:=hf.h14 (wd3 c3);obtain⟨h3,h4⟩:=z4l h2;refine Tt.J (λb=>b=true) (λnx hnx=>?_) λs hs=>Tt.pure hs;rw[h1];exact wad (waq (wfb (by omega)) (waq (wfb (by omega)) (wac _ h4 (waq rfl (Tt.bind hkn λb hb=>hnx _ hb)))))
 ·have c4:c.1=0:=wgc.1 (wd4 c4);obtain⟨k1,⟨k2,k3⟩,⟨k4,k5⟩,k6⟩:=hf.h0 c4;refine Tt.loop (λq s=>∃i:Nat,i<=g.1.length/\q=g.1.length-i/\s=(r,m,(i:Int),g)) g.1.length waa ⟨0,by omega,by omega,rfl⟩ λq s⟨i,hi,hq,hs2⟩ nx hnx=>?_;subst hs2;dsimp only;refine wab (λc5=>?_) λc5=>?_
  ·have c5:=wd3 c5;have hil:i<g.1.length:=by omega
   refine wac _ (atN hil) (Tt.bind (Tt.call (k1 _ (wec hil)) waa.fst) λb hb=>?_);subst hb;refine wap rfl (wad ?_);rw[wI (by omega) (by omega)];exact hnx (g.1.length-(i+1)) _ (by omega) ⟨i+1,by omega,rfl,rfl⟩
  ·refine Tt.loop (λq s=>∃i:Nat,i<=g.2.1.length/\q=g.2.1.length-i/\s=(r,m,(i:Int),g)) g.2.1.length waa.fst ⟨0,by omega,by omega,rfl⟩ λq s⟨i,hi,hq,hs2⟩ ny hny=>?_;subst hs2;dsimp only;refine wab (λc6=>?_) λc6=>?_
   ·have c6:=wd3 c6;have hir:i<r.length:=by omega
    have him:i<m.length:=by omega
    have e1:=k3 _ (wec hir);have e2:=k5 _ (wec him);refine Tt.J (λs=>s=(r,m,(i:Int),false,g)) (λnz hnz=>?_) λs hs2=>?_
    ·refine wac _ (atN hir) (wad (wap (by rw[e1];rfl) (wac _ (atN him) (hnz _ ?_))));rw[e2];rfl
    ·subst hs2;refine wap rfl (wad ?_);dsimp only;rw[wI (by omega) (by omega)];exact hny (g.2.1.length-(i+1)) _ (by omega) ⟨i+1,by omega,rfl,rfl⟩
   ·refine Tt.bind (Tt.call k6 waa.fst.fst) λx hx=>Tt.J (λb=>b=true) (λnz hnz=>?_) λs hs=>Tt.pure hs;exact wad (waq (wfb hx) (Tt.bind (Tt.call zgh waa.fst.fst) λb hb=>hnz _ hb))
def KdN(d:jc):Prop:=d.1≠10/\d.1≠13/\d.1≠14
theorem zb8{α:Type}{l:List α}{f:Nat->α->jc}(h:∀i x,KdN (f i x)):∀d∈l.mapIdx f,KdN d:=λd hd=>by
 obtain⟨j,hj⟩:=wes hd;rw[wf0]at hj;cases hx:l[j]? with
 |none=>rw[hx]at hj;cases hj
 |some x=>rw[hx]at hj;cases hj;exact h j x
theorem z0l{L:List jc}(h:∀d∈L,KdN d):KdN (jn L):=by
 rcases z2i (L:=L)with e|e
 ·rw[e];simp[KdN]
 ·exact h _ e
theorem gFd_n(g:ja):KdN (gFd g):=by
 unfold gFd;refine z0l λd hd=>?_;simp only[wej]at hd;rcases hd with hd|hd|hd|hd|hd|hd|hd
 ·exact zb8 (λi x=>by split<;>simp[KdN]) d hd
 ·exact zb8 (λi x=>by split<;>simp[KdN]) d hd
 ·exact zb8 (λi x=>by unfold zhq;split;simp[KdN];split;simp[KdN];split;simp[KdN];split<;>simp[KdN]) d hd
 ·exact zb8 (λi x=>by unfold zsc;split;simp[KdN];split<;>simp[KdN]) d hd
 ·refine zb8 (λi x=>?_) d hd;unfold zhx;split
  ·simp[KdN]
  split
  ·simp[KdN]
  ·unfold z3y;refine z0l (zb8 λk y=>?_);show itE g y≠10/\itE g y≠13/\itE g y≠14;unfold itE;split;simp;split;simp;split<;>simp
 ·rw[wea.1 hd];unfold zfw;split<;>simp[KdN]
 ·exact zb8 (λi x=>by unfold zwn;split<;>simp[KdN]) d hd
theorem ref_no{g:ja}(hg:zc6 g)(hz:gFd g≠zd):Tn (λnn=>q7 nn g) (λr=>r=[])/\Tn (λnn=>y5 nn g) (λr=>r=[]):=by
 have hR:Tn (λnn=>v8 nn g) (λb=>b=false):=Tt.mono (Yi g hg) λb hb=>by
  cases b with
  |false=>rfl
  |true=>exact absurd (hb.1 rfl) hz
 refine⟨?_,?_⟩
 ·unfold q7;refine Tt.bind (Tt.call hR waa) λb hb=>?_;subst hb;exact waq rfl (Tt.pure rfl)
 ·unfold y5;refine Tt.bind (R:=λr=>r=[]) ?_ λr hr=>Tt.pure hr;show Tn (λnn=>Vz nn g true) _;unfold Vz;refine Tt.bind (Tt.call hR waa) λb hb=>?_;subst hb;exact waq rfl (Tt.pure rfl)
theorem trF_of{g:ja}(hg:zc6 g)(ht:g.1.length<=12)(hz:gFd g=zd){em re mk:List Bool}{al B:List (List Int)}{c:jc}(h:PrX g em re mk al B c){e:Int}{lt:List Int}{d:jc}(hd:d=jn [z2p g,fsF 13 re 0,fsF 14 mk 0,c,zin g.1.length e lt]):TrF g d re mk/\Tn (λnn=>q7 nn g) (λr=>r=re)/\Tn (λnn=>y5 nn g) (λr=>r=mk):=by
 have hok:=z9f hz;have hchk:=z4w hz;obtain⟨r2,hr2,hx2⟩:=(ztn g hg hz hok).val;obtain⟨m2,hm2,hy2⟩:=(znm g hg hz hok true).val;obtain⟨e2,he2,hw2⟩:=(znm g hg hz hok false).val;obtain rfl:=zzf hx2 h.re1;obtain rfl:=z1h hy2 h.mk1;obtain rfl:=z1h hw2 h.em1;have hM:Tn (λnn=>y5 nn g) (λr=>r=m2):=by
  unfold y5;exact Tt.bind (Tt.call hm2 waa) λr hr=>Tt.pure hr
 have hE:Tn (λnn=>y9 nn g) (λr=>r=e2):=by
  unfold y9;exact Tt.bind (Tt.call he2 waa) λr hr=>Tt.pure hr
 refine⟨?_,hr2,hM⟩;have k2:=z3z (kd:=10) (mo:=0) (l:=g.1.map λx=>!zcq x.2.1) (i:=0);have k3:=zpx (kd:=13) (l:=r2) (i:=0);have k4:=zpx (kd:=14) (l:=m2) (i:=0);have k5:=h.ck;by_cases c2:(z2p g).1=0
 rotate_left
 ·have hd2:d=z2p g:=by rw[hd];simp only[jn];rw[if_neg c2]
  have hk:d.1=10:=by
   rw[hd2];rcases k2 with e|e
   ·exact absurd e c2
   ·exact e
  obtain⟨j,j1,j2⟩:=z24 c2;refine⟨λ_=>?_,λe=>by omega,λe=>by omega,λe=>by omega⟩;rw[web]at j1;obtain⟨t,hj,ht2⟩:=wee.1 j1;obtain⟨hjl,hjt⟩:=wd5.1 hj;refine⟨j,hjl,by rw[hd2,z2p,j2];simp,?_⟩;refine Tt.mono (z4a (hchk _ (wec hjl))) λb hb=>?_;rw[hb,hjt];simpa using ht2
 have hsay:∀t∈g.1,Tn (λnn=>yz nn t.2.1 []) (λb=>b=false):=λt ht2=>by
  refine Tt.mono (z4a (hchk t ht2)) λb hb=>?_;have:=z83 (kd:=10) (mo:=0) (by decide) c2 (!zcq t.2.1) (wef.2 ⟨t,ht2,rfl⟩);rw[hb];simpa using this
 by_cases c3:(fsF 13 r2 0).1=0
 rotate_left
 ·have hd2:d=fsF 13 r2 0:=by rw[hd];simp only[jn];rw[if_pos c2,if_neg c3]
  obtain⟨j,j1,j2⟩:=z2l c3;have hk:d.1=13:=by rw[hd2,j2]
  exact⟨λe=>by omega,λ_ _=>⟨j,by rw[hd2,j2];simp,j1⟩,λe=>by omega,λe=>by omega⟩
 by_cases c4:(fsF 14 m2 0).1=0
 rotate_left
 ·have hd2:d=fsF 14 m2 0:=by rw[hd];simp only[jn];rw[if_pos c2,if_pos c3,if_neg c4]
  obtain⟨j,j1,j2⟩:=z2l c4;have hk:d.1=14:=by rw[hd2,j2]
  exact⟨λe=>by omega,λe=>by omega,λ_=>⟨j,by rw[hd2,j2];simp,j1⟩,λe=>by omega⟩
 by_cases c5:c.1=0
 rotate_left
 ·have hd2:d=c:=by rw[hd];simp only[jn];rw[if_pos c2,if_pos c3,if_pos c4,if_neg c5]
  have hk:d.1=15:=by rw[hd2];exact k5.resolve_left c5
  exact⟨λe=>by omega,λe=>by omega,λe=>by omega,λe=>by omega⟩
 have hA:EmA g e2 al:=⟨hE,h.em1.1,h.k.fic⟩
 have hF:=zwf g hg hz hok hA hr2 h.re1.1 h.k.hBe h.k.foc;have hC:=zzp hg hz hok hA hF (h.c0 c5);have hd2:d=if(zin g.1.length e lt).1=0 then zd else zin g.1.length e lt:=by rw[hd];simp only[jn];rw[if_pos c2,if_pos c3,if_pos c4,if_pos c5]
 have hkd:d.1=0\/(d.1=13/\d.2.2.1≠0)\/d.1=16:=by
  rw[hd2];split
  ·exact .inl rfl
  ·rename_i hn;unfold zin at hn⊢;split at hn
   ·rename_i h6;rw[if_pos h6];obtain⟨j,_,j2⟩:=z24 hn;rw[j2];exact .inr (.inl ⟨rfl,by simp⟩)
   ·rename_i h6;rw[if_neg h6];exact .inr (.inr rfl)
 exact⟨λe=>by omega,λe e2=>by omega,λe=>by omega,λ_=>⟨hsay,⟨h.re1.1,zwk (by decide) c3⟩,⟨h.mk1.1,zwk (by decide) c4⟩,hC⟩⟩
theorem zsn(g:ja)(hg:jct g)(hn:(∀x∈g.1,x.1.length<=9223372036854775807)/\(∀x∈g.2.1,x.length<=9223372036854775807)/\∀x∈g.2.2.1,x.2.1.length<=9223372036854775807):Tn (λnn=>yv nn g) (λb=>b=true):=by
 obtain⟨b,hS,hb⟩:=(z71 g hg).val;cases b with
 |false=>
  unfold yv;refine Tt.bind (Tt.call hS waa) λb hb=>?_;subst hb;exact waq rfl (Tt.bind (Tt.call zgh waa) λr hr=>Tt.pure hr)
 |true=>
 have hb:=hb rfl;have h1:=hb.t;have h2:=hb.r;have h3:=hb.p;have h4:=hb.n;have hL:Qv g:=⟨⟨by omega,by omega,by omega⟩,λx hx=>by have:=z0r hx;omega⟩
 have hL3:zc6 g:=⟨hL,hn.1,hn.2.1,hn.2.2⟩
 by_cases hz:gFd g=zd
 ·obtain⟨em,re,mk,al,B,c,hp⟩:=PrX_of hL hz;obtain⟨n,hF,hnz⟩:=(z81 g.1 (by omega) (λt h=>hL.tn t h)).val;obtain⟨bd,hB,hD⟩:=(z3e n (N:=zdf g.1) (by omega) hnz _ hb.s).val;obtain⟨lt,hT,hT2⟩:=(zz5 _ hD).val;have hA:Tn (λnn=>yb nn g) (λr=>r=jn [z2p g,fsF 13 re 0,fsF 14 mk 0,c,zin g.1.length bd.2.2.1 lt]):=by
   unfold yb;exact Tt.bind (Tt.call (jc2 hL (by omega) hz hp.p hF hB hD hT (by omega)) waa) λr hr=>Tt.pure hr
  obtain⟨hf,hR,hM⟩:=trF_of hL3 (by omega) hz hp rfl;exact zul (by omega) hf hA hR hM hS
 ·have hz2:(gFd g).1≠0:=λh=>hz (zvm h);have hA:Tn (λnn=>yb nn g) (λr=>r=gFd g):=by
   unfold yb;exact Tt.bind (Tt.call (z5p hL hz2) waa) λr hr=>Tt.pure hr
  obtain⟨hR,hM⟩:=ref_no hL3 hz;obtain⟨q1,q2,q3⟩:=gFd_n g;exact zul (by omega) ⟨λe=>absurd e q1,λe=>absurd e q2,λe=>absurd e q3,λe=>absurd e hz2⟩ hA hR hM hS
theorem AcceptTrue_row(a0:ja)(c0:OkD Y_api_Grammar a0):Tn (λnn=>yv nn a0) (λb=>b=true):=
 zsn a0 ⟨wfn c0.1.1 (by decide),wfn c0.2.1.1 (by decide),wfn c0.2.2.1.1 (by decide)⟩ ⟨λx hx=>wfn (c0.1.2 x hx).1 (by decide),λx hx=>wfn (c0.2.1.2 x hx) (by decide),λx hx=>wfn (c0.2.2.1.2 x hx).2.1.1 (by decide)⟩
end Go.Proofs.YtdllbdlnmjngcaaGreat.T
