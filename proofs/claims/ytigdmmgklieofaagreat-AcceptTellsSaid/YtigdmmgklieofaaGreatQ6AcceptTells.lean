
import Derived.Test.YtigdmmgklieofaaGreatQ5AcceptTells

namespace Go.Proofs.YtigdmmgklieofaaGreat.T
noncomputable section
open _root_.Go.Proofs.Tryz
set_option maxRecDepth 100000
set_option maxHeartbeats 8000000
set_option linter.unusedVariables false
set_option linter.unusedSimpArgs false
open Go Go.RowKit L
theorem zx7{n:Nat}{a b:List Int}(o:n<=1000)(c:RN n a)(d:RN n b):Tn (λi=>yx i a b) (λr=>RN n r/\∀x,x∈r↔x∈a\/x∈b):=by
 have l:=c.len;have m:=d.len;unfold yx;refine wac _ (sm7 (by omega)) (wac _ (yf (by omega) (by omega)) ?_);have f:(za6 (a++b)).length=(a++b).length:=zm5 _;simp only[wcu]at f;refine wac _ (sm7 (by simp;omega)) (wac _ (sm7 (by omega)) (Tt.pure ?_));obtain⟨j,k⟩:=zla (za6 (a++b)) (zom _);have e:∀x,x∈Vi (za6 (a++b))↔x∈a\/x∈b:=λx=>by rw[k,z1a,wco]
 refine⟨⟨j,λx g=>?_⟩,e⟩;rcases(e x).1 g with h|h
 ·exact c.b x h
 ·exact d.b x h
theorem z0z{ι:Type}{D:Fi ι}{φ:ι->Nat}(hφ:Big D φ){n:Nat}(hn:n<=512){β:Type}{Q:β->Prop}{p ls:List Int}(U:RN n p)(V:RN n ls)(v:Bool)(w:Int)(sets:List (Arr 4 Int))(y A:List Int){fol:List (List Int)}(Y:fol.length=n){P:Int->Int->Prop}(Z:FolOk fol P)(hP:∀i j,P i j->0<=j/\j<n)
  {K:ι->(List Int)×(List Int)×Int×Int×Bool×Int×(List (Arr 4 Int))×(List (List Int))×(List Int)×(List Int)->Option β}
  (J:∀d:List (List Int),d.length=n->FolOk d (λi j=>P i j\/i∈ls/\j∈p)->Tt D (λi=>K i (p,ls,(ls.length:Int),(ls.length:Int),v,w,sets,d,y,A)) Q) :
  Tt D (λi=>jn (λ(a:(List Int)×(List Int)×Int×Int×Bool×Int×(List (Arr 4 Int))×(List (List Int))×(List Int)×(List Int))H=>ifB (decide (a.2.2.2.1<a.2.2.1)) (ja (atL a.2.1 a.2.2.2.1) λq=>ja (jw a.2.2.2.2.2.2.2.1.length q) λI=>ja (atL a.2.2.2.2.2.2.2.1 I) λL=>ja (yx (φ i) L a.1) λM=>ja (jw a.2.2.2.2.2.2.2.1.length q) λN=>ja (yz a.2.2.2.2.2.2.2.1 N M) λO=>ja (some (T.w64 (a.2.2.2.1+1))) λR=>H (a.1,a.2.1,a.2.2.1,R,a.2.2.2.2.1,a.2.2.2.2.2.1,a.2.2.2.2.2.2.1,O,a.2.2.2.2.2.2.2.2.1,a.2.2.2.2.2.2.2.2.2)) (K i a)) (φ i) (p,ls,(ls.length:Int),0,v,w,sets,fol,y,A)) Q:=by
 have a1:=V.len;refine Tt.loop (λm s=>∃(k:Nat)(d:List (List Int)),k<=ls.length/\m=ls.length-k/\s=(p,ls,(ls.length:Int),(k:Int),v,w,sets,d,y,A)/\d.length=n/\FolOk d (λi j=>P i j\/i∈ls.take k/\j∈p)) ls.length hφ ⟨0,fol,by omega,by omega,rfl,Y,Z.iff λi j=>by simp⟩ λm s⟨k,d,hk,hm,hs,S,t⟩ nx C=>?_;subst hs;dsimp only;refine wab (λc=>?_) (λc=>?_)
 ·have c:=wcd c;have o:k<ls.length:=by omega
  have hb:=V.b _ (wcm o);obtain⟨z,hz⟩:∃z:Nat,ls[k]=(z:Int):=⟨(ls[k]).toNat,by omega⟩
  have f:z<d.length:=by omega
  refine wac _ (atN o) ?_;have F:ls.take (k+1)=ls.take k++[(z:Int)]:=by rw[wcn o,hz]
  rw[hz];refine wac _ (qv f) (wac _ (atN f) ?_);obtain⟨q1,W⟩:=t z _ (wcf f);have E:RN n d[z]:=⟨q1,λx hx=>by
   rcases(W x).1 hx with h|h
   ·exact hP _ _ h
   ·exact U.b _ h.2⟩
  refine Waa (zx7 (by omega) E U) hφ.fst λu⟨hu,G⟩=>?_;refine wac _ (qv f) (wac _ (zm u f) (wad ?_));rw[wI (by omega) (by omega)];refine C (ls.length-(k+1)) _ (by omega) ⟨k+1,d.set z u,by omega,rfl,by simp,by simp[S],λi l g=>?_⟩;rw[F];by_cases e:z=i
  ·subst e;rw[wel f]at g;cases g;refine⟨hu.r,λj=>?_⟩;rw[G,W];simp only[wco,wci,or_true,true_and];constructor
   ·rintro((h|h)|h)
    ·exact .inl h
    ·exact .inr h.2
    ·exact .inr h
   ·rintro(h|h)
    ·exact .inl (.inl h)
    ·exact .inr h
  ·rw[wec e]at g;obtain⟨q3,q4⟩:=t i l g;refine⟨q3,λj=>?_⟩;rw[q4];simp only[wco,wci];constructor
   ·rintro(h|h)
    ·exact .inl h
    ·exact .inr ⟨.inl h.1,h.2⟩
   ·rintro(h|⟨h|h,X⟩)
    ·exact .inl h
    ·exact .inr ⟨h,X⟩
    ·exact absurd h (by omega)
 ·have c:=wce c;have B:k=ls.length:=by omega
  subst B;rw[wc2]at t;exact(J d S t).fst
structure jgw(l:List jf)(k:Nat)(es:List E)(sets:List (Arr 4 Int))(fol:List (List Int)):Prop where
 fl:zjm es=(l.take k).map qt
 se:sets=yr (l.take k)
 ls:sets.length=qw es
 lf:fol.length=qw es
 fo:FolOk fol (znb es 0)
 ch:Z5 (l.drop k) es.length=0
 nk:qw es<=k
structure OvX(l:List jf)(k:Nat)(s:OvS)(b:Bool)(z:Int)(es:List E)(e:E)(sets:List (Arr 4 Int))(fol:List (List Int))(f1 l1:List Int):Prop where
 h1:s=(l,(l.length:Int),(k:Int),b,z,zo e (qw es),sets,fol,f1,l1,z8 es 0)
 h2:jgw l (k+1) (es++[e]) sets fol
theorem jl9(l:List jf)(hc:Vx l=0):Tn (λnn=>Q4 nn l) (λr=>∃e fol,l.map qt=post e/\r=some (yr l,fol,zo e 0,())/\fol.length=jx e/\FolOk fol (Zk e 0)):=by
 have hW:=(Qx hc).2;unfold Q4;refine Waa (z99 l (by omega)) waa λe he=>?_;rw[hc]at he;subst he;refine wae rfl ?_;have h0:Z5 l 0=0:=by unfold Vx at hc;rwa [if_neg (by omega)]at hc
 refine Tt.loop (λm s=>∃(k:Nat)(H:List E)(b:Bool)(z:Int)(sets:List (Arr 4 Int))(fol:List (List Int))(f1 l1:List Int),k<=l.length/\m=l.length-k/\s=(l,(l.length:Int),(k:Int),b,z,sets,fol,f1,l1,z8 H 0)/\jgw l k H sets fol/\H.length<=k) l.length waa ⟨0,[],_,_,_,_,_,_,by omega,by omega,rfl,⟨rfl,rfl,rfl,rfl,λi l h=>by simp at h,h0,by simp[qw]⟩,by simp⟩ λm s⟨k,H,b,z,sets,fol,f1,l1,hk,hm,M,F,I⟩ nx d5=>?_;subst M;dsimp only;have e9:=zb1 H 0;refine wab (λc=>?_) (λc=>?_)
 ·have c:=wcd c;have X:k<l.length:=by omega
  have g:=F.ch;have b0:=F.nk;have B:=F.ls;have A:=F.lf;rw[wc0 X]at g;have K:(l.take (k+1)).map qt=zjm H++[qt l[k]]:=by rw[wcn X,wdb,F.fl];rfl
  have G:yr (l.take (k+1))=sets++if(l[k]).1=1 then [(l[k]).2.1]else []:=by rw[wcn X,zyl,F.se]
  refine wac _ (atN X) ?_;generalize l[k]=x at g K G⊢;unfold Z5 at g;cases w:arK x.1 with
  |none=>rw[w]at g;cases g
  |some a=>
  rw[w]at g;dsimp only at g;split at g
  ·cases g
  rename_i a8;split at g
  ·cases g
  rename_i O;refine Tt.J (λs=>∃b z es' e sets fol f1 l1,OvX l k s b z es' e sets fol f1 l1/\es'.length<=k) (λny d6=>?_) (λs⟨b,z,es',e,sets,fol,f1,l1,h,e4⟩=>?_)
  rotate_left
  ·obtain⟨he,h1⟩:=h;subst he;dsimp only;have e5:=zb1 es' 0;refine wac _ (yf (by simp;omega) (by omega)) (wad ?_);rw[wI (by omega) (by omega)];refine d5 (l.length-(k+1)) _ (by omega) ⟨k+1,es'++[e],b,z,sets,fol,f1,l1,by omega,rfl,?_,h1,by simp;omega⟩;rw[Z1];simp[z8]
  ·have P:∀{s:OvS}{b z es' e sets fol f1 l1},OvX l k s b z es' e sets fol f1 l1->es'.length<=k->Tt _ (λi=>ny i s) _:=λh h'=>d6 _ ⟨_,_,_,_,_,_,_,_,h,h'⟩;refine wab (λc=>?_) (λc1=>?_)
   ·have c:=wcd c;have d:a=0:=by rw[c]at w;cases w;rfl
    subst d;rw[if_pos c]at G;refine wad (wac _ (yf (by simp;omega) (by omega)) (wac _ (yf (by simp;omega) (by omega)) ?_));refine P (b:=b) (z:=z) (sets:=sets++[x.2.1]) (fol:=fol++[[]]) (f1:=f1) (l1:=l1) (es':=H) (e :=.set (x.2.1.l.getD 0 0) (x.2.1.l.getD 1 0) (x.2.1.l.getD 2 0) (x.2.1.l.getD 3 0)) ⟨by rw[B];simp[zo,qj,q8,vm,jx],⟨?_,G.symm,?_,?_,?_,?_,?_⟩⟩ I
    ·rw[K,z1y,zpj];simp[post,qt,c]
    ·rw[wcu,B,yc];rfl
    ·rw[wcu,A,yc];rfl
    ·intro i l hi;by_cases d2:i<fol.length
     ·rw[wcr d2]at hi;obtain⟨q1,q2⟩:=F.fo i l hi;exact⟨q1,λj=>by rw[q2,zc6,zcs];simp[Zk]⟩
     ·rw[wct (by omega)]at hi;obtain⟨hz,rfl⟩:i-fol.length=0/\[]=l:=by
       cases hq:i-fol.length with
       |zero=>rw[hq]at hi;simp at hi;exact⟨rfl,hi.symm⟩
       |succ q=>rw[hq]at hi;simp at hi
      refine⟨List.Pairwise.nil,λj=>?_⟩;rw[zc6,zcs];simp only[List.not_mem_nil,Zk,or_false,false_iff];intro h;have:=z44 _ _ _ _ h;omega
    ·rw[wcu,wc5];exact g
    ·rw[yc];simp[qw,jx];omega
   have c1:=wce c1;rw[if_neg c1,wc7]at G;have d0:=jdm a8 c1;rw[d0]at K;refine wab (λc=>?_) (λc2=>?_)
   ·have c:=wcd c;have d:a=0:=by rw[c]at w;cases w;rfl
    subst d;refine P (b:=b) (z:=z) (sets:=sets) (fol:=fol) (f1:=f1) (l1:=l1) (es':=H) (e :=.empty) ⟨by simp[zo,qj,q8,vm,jx],⟨?_,G.symm,?_,?_,?_,?_,?_⟩⟩ I
    ·rw[K,z1y,zpj,c];rfl
    ·rw[B,yc];rfl
    ·rw[A,yc];rfl
    ·exact F.fo.iff λi j=>by rw[zc6,zcs];simp[Zk]
    ·rw[wcu,wc5];exact g
    ·rw[yc];simp[qw,jx];omega
   have c2:=wce c2;have D:∀i j,znb H 0 i j->0<=j/\j<(qw H:Int):=λi j h=>by have:=z44 _ _ _ _ h;omega
   refine wab (λc=>?_) (λc3=>?_)
   ·have ck:=wcd c;have d:a=2:=by rw[ck]at w;cases w;rfl
    subst d;obtain⟨e1,o,rfl⟩:=zvq (l:=H) (by omega);rw[wcu,wc5]at O I g;obtain⟨f,d,rfl⟩:=zvq (l:=e1) (by omega);rw[wcu,wc5]at O I g;have Q:qw (f++[d]++[o])=qw f+jx d+jx o:=by simp[yc,qw];omega
    have R:z8 (f++[d]++[o]) 0=z8 f 0++[zo d (qw f)]++[zo o ((qw f:Nat)+(jx d:Nat):Int)]:=by
     rw[Z1,Z1,yc];simp[z8,qw]
    have a3:=zb1 f 0;rw[Q]at B A b0 D;rw[R];refine wac _ (jie (by simp;omega)) (wac _ jhs (wac _ (jkg (by simp;omega)) ?_));refine wac _ (jie (by omega)) (wac _ jhs (wac _ (jkg (by omega)) ?_));have N:RN (qw f+jx d+jx o) (qj d (qw f)):=zcz _ _ _ (by omega);have L:RN (qw f+jx d+jx o) (q8 d (qw f)):=zh1 _ _ _ (by omega);have W:RN (qw f+jx d+jx o) (qj o ((qw f:Nat)+(jx d:Nat):Int)):=by have:=zcz o (qw f+jx d) (qw f+jx d+jx o) (by omega);simpa using this
    have a6:RN (qw f+jx d+jx o) (q8 o ((qw f:Nat)+(jx d:Nat):Int)):=by have:=zh1 o (qw f+jx d) (qw f+jx d+jx o) (by omega);simpa using this
    refine z0z waa.fst (n:=qw f+jx d+jx o) (by omega) W L _ _ _ _ _ A F.fo (λi j h=>by have:=D i j h;omega) λp e1 a5=>?_;have a7:FolOk p (znb (f++[.cat d o]) 0):=a5.iff λi j=>by
     simp only[zc6,zcs,yc,qw,Zk,wd5,wfc,Int.zero_add];constructor
     ·rintro(((h|h)|h)|h)
      ·exact .inl h
      ·exact .inr (.inl h)
      ·exact .inr (.inr (.inl h))
      ·exact .inr (.inr (.inr h))
     ·rintro(h|h|h|h)
      ·exact .inl (.inl (.inl h))
      ·exact .inl (.inl (.inr h))
      ·exact .inl (.inr h)
      ·exact .inr h
    have hR:jgw l (k+1) (f++[.cat d o]) sets p:=⟨by rw[K,ck];simp[zjm,post],G.symm,by rw[B,yc];simp[qw,jx];omega,by rw[e1,yc];simp[qw,jx];omega,a7,by rw[wcu,wc5];rw[show f.length+1+1-2+1=f.length+1 by omega]at g;exact g,by rw[yc];simp[qw,jx];omega⟩
    have ew:T.w64 ((jx d:Int)+(jx o:Int))=(jx d:Int)+(jx o:Int):=wI (by omega) (by omega);have d8:Tt _ (λi=>ny i (l,(l.length:Int),(k:Int),b,z,zo (.cat d o) (qw f),sets,p,f1,l1,z8 f 0)) _:=P ⟨rfl,hR⟩ (by omega);refine Tt.J (λs=>s=(b,z,sets,p,f1,l1,zo d (qw f),zo o ((qw f:Nat)+(jx d:Nat):Int),false,0,((qj d (qw f),q8 o ((qw f:Nat)+(jx d:Nat):Int),vm d && vm o,()),((jx d:Int)+(jx o:Int)),()),[],[])) (λnz t=>?_) (λs M=>?_)
    ·dsimp only[zo];rw[ew];refine wab (λy=>t _ ?_) λy=>t _ ?_
     ·simp only[zo,y,wea]
     ·simp only[zo,y,Bool.false_and]
    ·subst M;refine Tt.J (λs=>s=(b,z,sets,p,f1,l1,zo d (qw f),zo o ((qw f:Nat)+(jx d:Nat):Int),false,0,((qj (.cat d o) (qw f),q8 o ((qw f:Nat)+(jx d:Nat):Int),vm d && vm o,()),((jx d:Int)+(jx o:Int)),()),[],[])) (λnz t=>?_) (λs M=>?_)
     ·dsimp only[zo];refine wab (λy=>?_) λy=>t _ ?_
      ·refine Waa (zx7 (by omega) N W) waa.fst λu⟨hu,S⟩=>t _ ?_;rw[z1u hu.r S];simp only[qj,y,if_true,zo]
      ·simp only[qj,y,zo];simp
     ·subst M;refine Tt.J (λs=>s=(b,z,sets,p,f1,l1,false,0,zo (.cat d o) (qw f),[],[])) (λnz t=>?_) (λs M=>?_)
      ·dsimp only[zo];refine wab (λa9=>?_) λa9=>t _ ?_
       ·refine Waa (zx7 (by omega) L a6) waa.fst λu⟨hu,S⟩=>t _ ?_;rw[z78 hu.r S];simp only[q8,a9,if_true,zo,vm,jx,wfc]
       ·simp only[q8,a9,zo,vm,jx,wfc];simp
      ·subst M;exact d8
   have c3:=wce c3;refine wab (λc=>?_) (λc4=>?_)
   ·have ck:=wcd c;have d:a=2:=by rw[ck]at w;cases w;rfl
    subst d;obtain⟨e1,o,rfl⟩:=zvq (l:=H) (by omega);rw[wcu,wc5]at O I g;obtain⟨f,d,rfl⟩:=zvq (l:=e1) (by omega);rw[wcu,wc5]at O I g;have Q:qw (f++[d]++[o])=qw f+jx d+jx o:=by simp[yc,qw];omega
    have R:z8 (f++[d]++[o]) 0=z8 f 0++[zo d (qw f)]++[zo o ((qw f:Nat)+(jx d:Nat):Int)]:=by
     rw[Z1,Z1,yc];simp[z8,qw]
    have a3:=zb1 f 0;rw[Q]at B A b0 D;rw[R];refine wac _ (jie (by simp;omega)) (wac _ jhs (wac _ (jkg (by simp;omega)) ?_));refine wac _ (jie (by omega)) (wac _ jhs (wac _ (jkg (by omega)) ?_));have N:RN (qw f+jx d+jx o) (qj d (qw f)):=zcz _ _ _ (by omega);have L:RN (qw f+jx d+jx o) (q8 d (qw f)):=zh1 _ _ _ (by omega);have W:RN (qw f+jx d+jx o) (qj o ((qw f:Nat)+(jx d:Nat):Int)):=by have:=zcz o (qw f+jx d) (qw f+jx d+jx o) (by omega);simpa using this
    have a6:RN (qw f+jx d+jx o) (q8 o ((qw f:Nat)+(jx d:Nat):Int)):=by have:=zh1 o (qw f+jx d) (qw f+jx d+jx o) (by omega);simpa using this
    have a7:FolOk fol (znb (f++[.alt d o]) 0):=F.fo.iff λi j=>by
     simp only[zc6,zcs,yc,qw,Zk,wd5,wfc,Int.zero_add];rw[or_assoc]
    have hR:jgw l (k+1) (f++[.alt d o]) sets fol:=⟨by rw[K,ck];simp[zjm,post],G.symm,by rw[B,yc];simp[qw,jx];omega,by rw[A,yc];simp[qw,jx];omega,a7,by rw[wcu,wc5];rw[show f.length+1+1-2+1=f.length+1 by omega]at g;exact g,by rw[yc];simp[qw,jx];omega⟩
    have ew:T.w64 ((jx d:Int)+(jx o:Int))=(jx d:Int)+(jx o:Int):=wI (by omega) (by omega);refine Tt.J (λs=>s=(l,(l.length:Int),(k:Int),b,z,zo (.alt d o) (qw f),sets,fol,f1,l1,z8 f 0)) (λnz t=>?_) (λs M=>?_)
    ·dsimp only[zo];refine Waa (zx7 (by omega) N W) waa.fst λu⟨hu,S⟩=>?_;refine Waa (zx7 (by omega) L a6) waa.fst λv⟨hv,d7⟩=>?_;rw[ew,z1u hu.r S,z78 hv.r d7];refine wab (λy=>t _ ?_) λy=>t _ ?_
     ·simp only[zo,qj,q8,vm,jx,y,wfc,Bool.true_or]
     ·simp only[zo,qj,q8,vm,jx,y,wfc,wfz]
    ·subst M;dsimp only;exact P ⟨rfl,hR⟩ (by omega)
   have c4:=wce c4;have d:a=1/\(x.1=5\/x.1=6\/x.1=7):=by
    rw[arK,if_neg (by omega)]at w;split at w
    ·cases w;exact⟨rfl,by assumption⟩
    ·rw[if_neg (by omega)]at w;cases w
   obtain⟨rfl,b1⟩:=d;obtain⟨f,d,rfl⟩:=zvq (l:=H) (by omega);rw[wcu,wc5]at O I g;have Q:qw (f++[d])=qw f+jx d:=by simp[yc,qw]
   have R:z8 (f++[d]) 0=z8 f 0++[zo d (qw f)]:=by
    rw[Z1];simp[z8,qw]
   have a3:=zb1 f 0;rw[Q]at B A b0 D;rw[R];have N:RN (qw f+jx d) (qj d (qw f)):=zcz _ _ _ (by omega);have L:RN (qw f+jx d) (q8 d (qw f)):=zh1 _ _ _ (by omega);refine wac _ (jie (by omega)) (wac _ jhs (wac _ (jkg (by omega)) ?_));obtain⟨U,d1,C,Y,Z,b4⟩:∃U,post U=post d++[Jh x.1]/\jx U=jx d/\(∀n,qj U n=qj d n)/\(∀n,q8 U n=q8 d n)/\(vm U=(vm d ||decide (x.1≠6)))/\∀n i j,Zk U n i j↔Zk d n i j\/(x.1≠7/\i∈q8 d n/\j∈qj d n):=by
    rcases b1 with h|h|h
    ·exact⟨.star d,by rw[h];rfl,rfl,λ_=>rfl,λ_=>rfl,by simp[vm,h],λn i j=>by simp[Zk,h]⟩
    ·exact⟨.plus d,by rw[h];rfl,rfl,λ_=>rfl,λ_=>rfl,by simp[vm,h],λn i j=>by simp[Zk,h]⟩
    ·exact⟨.opt d,by rw[h];rfl,rfl,λ_=>rfl,λ_=>rfl,by simp[vm,h],λn i j=>by simp[Zk,h]⟩
   obtain⟨a1,a0⟩:=b4;refine Tt.J (λs=>∃p,s=(l,(l.length:Int),(k:Int),b,z,x,zo d (qw f),sets,p,f1,l1,z8 f 0)/\p.length=qw f+jx d/\FolOk p (znb (f++[U]) 0)) (λnz t=>?_) (λs⟨p,M,d4,c9⟩=>?_)
   ·refine wab (λV=>?_) λV=>t _ ⟨_,rfl,A,F.fo.iff λi j=>?_⟩
    ·have V:=wcd V;refine z0z waa.fst (n:=qw f+jx d) (by omega) N L _ _ _ _ _ A F.fo (λi j h=>by have:=D i j h;omega) λp e1 a5=>t _ ⟨_,rfl,e1,a5.iff λi j=>?_⟩;simp only[zc6,zcs,Int.zero_add,a0];rw[or_assoc];simp[V]
    ·have V:=wce V;have V:x.1=7:=wek.1 V;simp only[zc6,zcs,Int.zero_add,a0];simp[V]
   ·subst M;have hR:jgw l (k+1) (f++[U]) sets p:=⟨by rw[K];simp[zjm,d1],G.symm,by rw[B,yc];simp[qw,C],by rw[d4,yc];simp[qw,C],c9,by rw[wcu,wc5];rw[show f.length+1-1+1=f.length+1 by omega]at g;exact g,by rw[yc];simp[qw,C];omega⟩
    refine Tt.J (λs=>s=(l,(l.length:Int),(k:Int),b,z,zo U (qw f),sets,p,f1,l1,z8 f 0)) (λnz t=>?_) (λs M=>?_)
    ·dsimp only[zo];refine wab (λy=>t _ ?_) λy=>t _ ?_
     ·simp only[zo,Y,Z,C,a1,y,Bool.true_or]
     ·simp only[zo,Y,Z,C,a1,y,wfz]
    ·subst M;dsimp only;exact P ⟨rfl,hR⟩ (by omega)
 ·have c:=wce c;have d3:k=l.length:=by omega
  subst d3;have g:=F.ch;rw[wd3]at g;unfold Z5 at g;have h1:H.length=1:=by
   by_cases h:H.length=1
   ·exact h
   ·rw[if_neg h]at g;cases g
  match H,h1 with
  |[e],_=>
   have b5:=F.fl;rw[wc2,zpj]at b5;have b6:=F.se;rw[wc2]at b6;have A:=F.lf;refine wac _ (qv (k:=0) (by simp[z8])) (wac _ (atN (k:=0) (by simp[z8])) (Tt.pure ⟨e,fol,b5.symm,by rw[b6];rfl,by rw[A];simp[qw],F.fo.iff λi j=>zcs e 0 i j⟩))
theorem Yx{l:List jf}{e:E}{s t:Nat}(h:AtT (l.map qt) s e t):∃j,∃b:j<l.length,j+1=t/\(l[j]).1=yi e:=by
 have a:=h.bound;rw[wcv]at a;refine⟨t-1,by omega,by omega,?_⟩;have:=h.kind (t-1) (by rw[wcv];omega) (by omega);rw[List.getElem_map]at this;exact this
theorem jhd{ι:Type}{D:Fi ι}{φ:ι->Nat}(hφ:Big D φ){rec:ι->(List jf)×Int->Option Int}{l:List jf}(t:l.length<=1000){j:Nat}(g:j<l.length){n:Nat}(e:arK (l[j]).1=some n)(P:Nat->Nat)(h0:P 0=j)(f:∀k,P k<=l.length)(b:∀k,k<n->Tt D (λi=>rec i (l,(P k:Int)-1)) (λr=>r=(P (k+1):Int))):Tt D (λi=>Zg (φ i) (rec i) l (j:Int)) (λr=>r=(P n:Int)):=by
 have p:=jbd e;unfold Zg;refine Tt.J (λs=>s=(l,(j:Int),false)) (λq a=>?_) λs d=>?_
 ·refine wad (wae (wcw (by omega)) (a _ ?_));rw[wcw (by omega)]
 ·subst d;dsimp only;refine wae rfl (wac _ (atN g) (Waa (jj6 _) hφ λr b=>?_));rw[e]at b;dsimp only at b;subst b;refine Tt.loop (λm s=>∃k:Nat,k<=n/\m=n-k/\s=(l,(n:Int),(P k:Int),(k:Int))) n hφ ⟨0,by omega,by omega,by rw[h0];rfl⟩ λm s⟨k,o,u,d⟩ q a=>?_;subst d;dsimp only;refine wab (λc=>?_) λc=>?_
  ·have c:=wcd c;have v:=f k;rw[wI (by omega) (by omega)];refine Tt.bind (b k (by omega)).fst λr b=>?_;subst b;refine wae (wcw (by omega)) (wad ?_);rw[wI (by omega) (by omega)];exact a (n-(k+1)) _ (by omega) ⟨k+1,by omega,rfl,rfl⟩
  ·have c:=wce c;have:k=n:=by omega
   subst this;exact wae (wcw (by omega)) (Tt.pure rfl)
theorem jf2(n m:Nat)(l:List jf)(z:Int):qx n (m+1) (l,z)=Zg n (qx n m) l z:=rfl
theorem jfm(l:List jf)(C:l.length<=1000)(e:E):∀s t:Nat,AtT (l.map qt) s e t->Tt Fi.two (λi=>qx i.1 i.2 (l,(t:Int)-1)) (λr=>r=(s:Int)):=by
 have go:∀{e:E}{s t n:Nat}(h:AtT (l.map qt) s e t)(g:arK (yi e)=some n)(P:Nat->Nat),P 0+1=t->P n=s->(∀k,P k<=l.length)->(∀k,k<n->Tt Fi.two (λi=>qx i.1 i.2 (l,(P k:Int)-1)) (λr=>r=(P (k+1):Int)))->Tt Fi.two (λi=>qx i.1 i.2 (l,(t:Int)-1)) (λr=>r=(s:Int)):=λ{e s t n}h g P h0 p q y=>by
  obtain⟨j,A,B,v⟩:=Yx h;obtain rfl:j=P 0:=by omega
  have f:=jhd Big.two (rec:=λi=>qx i.1 i.2) C A (by rw[v];exact g) P rfl q y;rw[p]at f;have z:(t:Int)-1=(P 0:Int):=by omega
  rw[z];exact ziy f λn m=>jf2 n m l _
 have p:∀{a e:E}{s t:Nat},AtT (l.map qt) s e t->arK (yi e)=some 1->AtT (l.map qt) s a (t-1)->(∀s t:Nat,AtT (l.map qt) s a t->Tt Fi.two (λi=>qx i.1 i.2 (l,(t:Int)-1)) (λr=>r=(s:Int)))->Tt Fi.two (λi=>qx i.1 i.2 (l,(t:Int)-1)) (λr=>r=(s:Int)):=λ{a e s t}h g u o=>by
  have f:=h.bound;have w:=u.bound;rw[wcv]at f w;refine go h g (λk=>if k=0 then t-1 else s) (by simp;omega) (by simp) (λk=>by(try dsimp only);split<;>omega) λk v=>?_;obtain rfl:k=0:=by omega
  exact o s (t-1) u
 have q:∀{a b e:E}{s t:Nat},AtT (l.map qt) s e t->arK (yi e)=some 2->(∃m,AtT (l.map qt) s a m/\AtT (l.map qt) m b (t-1)/\s<m/\m<t-1)->(∀s t:Nat,AtT (l.map qt) s a t->Tt Fi.two (λi=>qx i.1 i.2 (l,(t:Int)-1)) (λr=>r=(s:Int)))->(∀s t:Nat,AtT (l.map qt) s b t->Tt Fi.two (λi=>qx i.1 i.2 (l,(t:Int)-1)) (λr=>r=(s:Int)))->Tt Fi.two (λi=>qx i.1 i.2 (l,(t:Int)-1)) (λr=>r=(s:Int)):=λ{a b e s t}h g⟨m,u,f,F,D⟩ c d=>by
  have x:=h.bound;rw[wcv]at x;refine go h g (λk=>if k=0 then t-1 else if k=1 then m else s) (by simp;omega) (by simp) (λk=>by(try dsimp only);split;omega;split<;>omega) λk v=>?_;have:k=0\/k=1:=by omega
  rcases this with rfl|rfl
  ·exact d m (t-1) f
  ·exact c s m u
 have h0:∀{e:E}{s t:Nat},AtT (l.map qt) s e t->arK (yi e)=some 0->(post e).length=1->Tt Fi.two (λi=>qx i.1 i.2 (l,(t:Int)-1)) (λr=>r=(s:Int)):=λ{e s t}h g p=>by
  have f:=h.bound;rw[wcv]at f;have:t=s+1:=by obtain⟨_,_,_,_,y⟩:=h;omega
  exact go h g (λk=>s) this.symm rfl (λk=>by(try dsimp only);omega) λk v=>by omega
 induction e with
 |set=>exact λs t h=>h0 h rfl rfl
 |empty=>exact λs t h=>h0 h rfl rfl
 |cat a b c d=>exact λs t h=>q h rfl h.cat c d
 |alt a b c d=>exact λs t h=>q h rfl h.alt c d
 |star a o=>exact λs t h=>p h rfl h.star o
 |plus a o=>exact λs t h=>p h rfl h.plus o
 |opt a o=>exact λs t h=>p h rfl h.opt o
theorem zfz(l:List jf)(a:l.length<=1000){e:E}{s t:Nat}(h:AtT (l.map qt) s e t):Tn (λb=>Vq b l ((t:Int)-1)) (λr=>r=(s:Int)):=zi0 (jfm l a e s t h)
theorem je1(l:List jf)(o:l.length<=1000)(j:Nat)(i:j<=l.length):Tn (λh=>zay h l (j:Int)) (λr=>r=(Go.Proofs.YtigdmmgklieofaaGreat.numL (l.map qt) j:Int)):=by
 unfold zay;refine Tt.loop (λm s=>∃k:Nat,k<=j/\m=j-k/\s=(l,(j:Int),(Go.Proofs.YtigdmmgklieofaaGreat.numL (l.map qt) k:Int),(k:Int))) j waa ⟨0,by omega,by omega,by simp[Go.Proofs.YtigdmmgklieofaaGreat.numL]⟩ λm s⟨k,n,p,a⟩ q f=>?_;subst a;dsimp only;refine wab (λc=>?_) λc=>Tt.pure ?_
 ·have c:=wcd c;have b:k<l.length:=by omega
  have a:=jge (l.map qt) k (by rw[wcv];exact b);rw[List.getElem_map,show(qt l[k]).kind=(l[k]).1 from rfl]at a;have g:=jcv (l.map qt) k;refine Tt.J (λs=>s=(l,(j:Int),(Go.Proofs.YtigdmmgklieofaaGreat.numL (l.map qt) (k+1):Int),(k:Int))) (λt d=>?_) λs a=>?_
  ·refine wac _ (atN b) (wab (λe=>wad (d _ ?_)) λe=>d _ ?_)
   ·rw[a,if_pos (wcd e),wI (by omega) (by omega)];rfl
   ·rw[a,if_neg (wce e)];rfl
  ·subst a;dsimp only;refine wad ?_;rw[wI (by omega) (by omega)];exact f (j-(k+1)) _ (by omega) ⟨k+1,by omega,rfl,rfl⟩
 ·have c:=wce c;have:k=j:=by omega
  rw[this]
theorem jbb(n m:Nat)(l:List jf)(z:Int):zr n (m+1) (l,z)=y4 n (zr n m) l z:=rfl
theorem jkl(l:List jf)(R:l.length<=1000)(e:E):∀s t:Nat,AtT (l.map qt) s e t->Tt Fi.two (λi=>zr i.1 i.2 (l,(t:Int)-1)) (λr=>r=vm e):=by
 have go:∀{e:E}{s t:Nat}(h:AtT (l.map qt) s e t),Tt Fi.two (λi=>y4 i.1 (zr i.1 i.2) l ((t:Int)-1)) (λr=>r=vm e)->Tt Fi.two (λi=>zr i.1 i.2 (l,(t:Int)-1)) (λr=>r=vm e):=λh u=>ziy u λn m=>jbb n m l _;have G:∀{k:Int}{z:Int}{β:Type}{Q:β->Prop}{q:Nat×Nat->(List jf)×Int×Int×Bool->Option β},(Tt Fi.two (λi=>q i (l,z,k,decide (k=2\/k=5\/k=7))) Q)->Tt Fi.two (λi=>ja (some (decide (k=2))) λP=>ifB P (q i (l,z,k,true)) (ifB (decide (k=5)) (q i (l,z,k,true)) (q i (l,z,k,decide (k=7))))) Q:=λ{k z β Q q}h=>by
  refine wad (wab (λc=>?_) λc=>wab (λH=>?_) λH=>?_)
  ·rw[wc9 (.inl (wcd c))]at h;exact h
  ·rw[wc9 (.inr (.inl (wcd H)))]at h;exact h
  ·have c:=wce c;have H:=wce H;have:decide (k=7)=decide (k=2\/k=5\/k=7):=by simp[c,H]
   rw[this];exact h
 induction e with
 |set=>
  intro s t h;refine go h ?_;obtain⟨j,g,o,p⟩:=Yx h;unfold y4;rw[show(t:Int)-1=(j:Int) by omega];refine wac _ (atN g) ?_;rw[p];exact wah rfl (Tt.pure rfl)
 |empty=>
  intro s t h;refine go h ?_;obtain⟨j,g,o,p⟩:=Yx h;unfold y4;rw[show(t:Int)-1=(j:Int) by omega];refine wac _ (atN g) ?_;rw[p];refine wae rfl (Tt.J (λs=>s.2.2.2=true) (λq d=>G (d _ rfl)) λs f=>wah f (Tt.pure rfl))
 |star a O=>
  intro s t h;refine go h ?_;obtain⟨j,g,o,p⟩:=Yx h;unfold y4;rw[show(t:Int)-1=(j:Int) by omega];refine wac _ (atN g) ?_;rw[p];refine wae rfl (Tt.J (λs=>s.2.2.2=true) (λq d=>G (d _ rfl)) λs f=>wah f (Tt.pure rfl))
 |opt a O=>
  intro s t h;refine go h ?_;obtain⟨j,g,o,p⟩:=Yx h;unfold y4;rw[show(t:Int)-1=(j:Int) by omega];refine wac _ (atN g) ?_;rw[p];refine wae rfl (Tt.J (λs=>s.2.2.2=true) (λq d=>G (d _ rfl)) λs f=>wah f (Tt.pure rfl))
 |plus a O=>
  intro s t h;refine go h ?_;obtain⟨j,g,o,p⟩:=Yx h;have v:=h.plus;have u:=v.bound;rw[wcv]at u;have S:=O s (t-1) v;unfold y4;rw[show(t:Int)-1=(j:Int) by omega];refine wac _ (atN g) ?_;rw[p];refine wae rfl (Tt.J (λs=>s=(l,(j:Int),6,false)) (λq d=>G (d _ rfl)) λs f=>?_);subst f;dsimp only;rw[show T.w64 ((j:Int)-1)=((t-1:Nat):Int)-1 by rw[wI (by omega) (by omega)];omega];exact wae rfl (Tt.bind S λr I=>wah rfl (Tt.pure I))
 |cat a b D F=>
  intro s t h;refine go h ?_;obtain⟨j,g,o,p⟩:=Yx h;obtain⟨m,v,u,N,M⟩:=h.cat;have x:=u.bound;have w:=v.bound;rw[wcv]at x w;have B:=D s m v;have C:=F m (t-1) u;unfold y4;rw[show(t:Int)-1=(j:Int) by omega];refine wac _ (atN g) ?_;rw[p];refine wae rfl (Tt.J (λs=>s=(l,(j:Int),3,false)) (λq d=>G (d _ rfl)) λs f=>?_);subst f;dsimp only;rw[show T.w64 ((j:Int)-1)=((t-1:Nat):Int)-1 by rw[wI (by omega) (by omega)];omega];refine wae rfl (Tt.bind C λL A=>wae rfl (Waa (zfz l R u) Big.two λr I=>?_));subst I;rw[wI (by omega) (by omega)];refine Tt.bind B λK y=>wah rfl (Tt.J (λs=>s=(K && L)) (λq d=>wab (λc=>d _ (by rw[c];rfl)) λc=>d _ (by rw[c];rfl)) λs f=>Tt.pure ?_);rw[f,y,A];rfl
 |alt a b D F=>
  intro s t h;refine go h ?_;obtain⟨j,g,o,p⟩:=Yx h;obtain⟨m,v,u,N,M⟩:=h.alt;have x:=u.bound;have w:=v.bound;rw[wcv]at x w;have B:=D s m v;have C:=F m (t-1) u;unfold y4;rw[show(t:Int)-1=(j:Int) by omega];refine wac _ (atN g) ?_;rw[p];refine wae rfl (Tt.J (λs=>s=(l,(j:Int),4,false)) (λq d=>G (d _ rfl)) λs f=>?_);subst f;dsimp only;rw[show T.w64 ((j:Int)-1)=((t-1:Nat):Int)-1 by rw[wI (by omega) (by omega)];omega];refine wae rfl (Tt.bind C λL A=>wae rfl (Waa (zfz l R u) Big.two λr I=>?_));subst I;rw[wI (by omega) (by omega)];refine Tt.bind B λK y=>wae rfl (Tt.J (λs=>s=(K ||L)) (λq d=>wab (λc=>d _ (by rw[c];rfl)) λc=>d _ (by rw[c];rfl)) λs f=>Tt.pure ?_);rw[f,y,A];rfl
theorem zve(l:List jf)(a:l.length<=1000){e:E}{s t:Nat}(h:AtT (l.map qt) s e t):Tn (λb=>zhe b l ((t:Int)-1)) (λr=>r=vm e):=zi0 (jkl l a e s t h)
def Y6(e:E)(n:Int)(last:Bool):List Int:=match last with
 |true=>q8 e n
 |false=>qj e n
theorem z89{l:List Int}{n m:Nat}(h:jy l)(a:∀x∈l,(n:Int)<=x/\x<n+m)(hm:n+m<=1000):l.length<=1000:=(RN.len (n:=1000) ⟨h,λx b=>by have:=a x b;omega⟩)
theorem zkc(e:E)(n:Nat)(last:Bool)(h:n+jx e<=1000):(Y6 e n last).length<=1000:=by
 cases last
 ·exact z89 (Qu e n).1 (Qu e n).2 h
 ·exact z89 (zad e n).1 (zad e n).2 h
theorem jbi(n m:Nat)(l:List jf)(z:Int)(b:Bool):vg n (m+1) (l,z,b)=Qa n (vg n m) l z b:=rfl
theorem zpt{l:List jf}{e:E}{s t:Nat}(h:AtT (l.map qt) s e t):Go.Proofs.YtigdmmgklieofaaGreat.numL (l.map qt) s+jx e<=l.length:=by
 have b:=h.num;have c:=jcv (l.map qt) t;have a:=h.bound;rw[wcv]at a;omega
theorem jjm(l:List jf)(U:l.length<=1000)(last:Bool)(e:E):∀s t:Nat,AtT (l.map qt) s e t->Tt Fi.two (λi=>vg i.1 i.2 (l,(t:Int)-1,last)) (λr=>r=Y6 e (Go.Proofs.YtigdmmgklieofaaGreat.numL (l.map qt) s) last):=by
 have go:∀{e:E}{s t:Nat}(h:AtT (l.map qt) s e t),Tt Fi.two (λi=>Qa i.1 (vg i.1 i.2) l ((t:Int)-1) last) (λr=>r=Y6 e (Go.Proofs.YtigdmmgklieofaaGreat.numL (l.map qt) s) last)->Tt Fi.two (λi=>vg i.1 i.2 (l,(t:Int)-1,last)) (λr=>r=Y6 e (Go.Proofs.YtigdmmgklieofaaGreat.numL (l.map qt) s) last):=λh d=>ziy d λn m=>jbi n m l _ _;have V:∀{a e:E}{s t:Nat},AtT (l.map qt) s e t->yi e=5\/yi e=6\/yi e=7->AtT (l.map qt) s a (t-1)->Y6 e (Go.Proofs.YtigdmmgklieofaaGreat.numL (l.map qt) s) last=Y6 a (Go.Proofs.YtigdmmgklieofaaGreat.numL (l.map qt) s) last->(∀s t:Nat,AtT (l.map qt) s a t->Tt Fi.two (λi=>vg i.1 i.2 (l,(t:Int)-1,last)) (λr=>r=Y6 a (Go.Proofs.YtigdmmgklieofaaGreat.numL (l.map qt) s) last))->Tt Fi.two (λi=>vg i.1 i.2 (l,(t:Int)-1,last)) (λr=>r=Y6 e (Go.Proofs.YtigdmmgklieofaaGreat.numL (l.map qt) s) last):=λ{a e s t}h u w p I=>by
  refine go h ?_;obtain⟨j,C,D,F⟩:=Yx h;have d:=w.bound;rw[wcv]at d;have H:=I s (t-1) w;unfold Qa;rw[show(t:Int)-1=(j:Int) by omega];refine wac _ (atN C) ?_;rw[F];refine wae (wcw (by omega)) (wae (wcw (by omega)) ?_);rw[show T.w64 ((j:Int)-1)=((t-1:Nat):Int)-1 by rw[wI (by omega) (by omega)];omega];refine Tt.bind H λr Q=>Tt.J (λs=>s.2.2.2.2.1=true/\s.2.2.2.2.2=r) (λnx f=>wad (wah (wc9 (by omega)) (f _ ⟨wc9 (by omega),rfl⟩))) λs x=>wah x.1 (Tt.pure ?_);rw[x.2,Q,p]
 have g:∀{a b e:E}{s t:Nat}(c:Bool),AtT (l.map qt) s e t->yi e=(match c with|true=>3|false=>4)->(∃m,AtT (l.map qt) s a m/\AtT (l.map qt) m b (t-1)/\s<m/\m<t-1)->(∀n,Y6 e n last=(match last with|true=>(if c && !vm b then []else Y6 a n last)++Y6 b (n+jx a) last|false=>Y6 a n last++(if c && !vm a then []else Y6 b (n+jx a) last)))->(∀s t:Nat,AtT (l.map qt) s a t->Tt Fi.two (λi=>vg i.1 i.2 (l,(t:Int)-1,last)) (λr=>r=Y6 a (Go.Proofs.YtigdmmgklieofaaGreat.numL (l.map qt) s) last))->(∀s t:Nat,AtT (l.map qt) s b t->Tt Fi.two (λi=>vg i.1 i.2 (l,(t:Int)-1,last)) (λr=>r=Y6 b (Go.Proofs.YtigdmmgklieofaaGreat.numL (l.map qt) s) last))->Tt Fi.two (λi=>vg i.1 i.2 (l,(t:Int)-1,last)) (λr=>r=Y6 e (Go.Proofs.YtigdmmgklieofaaGreat.numL (l.map qt) s) last):=λ{a b e s t}c h M⟨m,w,d,a8,a6⟩ p k o=>by
  refine go h ?_;obtain⟨j,C,D,F⟩:=Yx h;have X:=d.bound;have W:=w.bound;rw[wcv]at X W;have P:=k s m w;have v:=o m (t-1) d;have O:=w.num;have a7:=zpt w;have a0:=zpt d;rw[O]at v a0;have Z:=zkc a (Go.Proofs.YtigdmmgklieofaaGreat.numL (l.map qt) s) last (by omega);have N:=zkc b (Go.Proofs.YtigdmmgklieofaaGreat.numL (l.map qt) s+jx a) last (by omega);have p:=p (Go.Proofs.YtigdmmgklieofaaGreat.numL (l.map qt) s);rw[wfc]at v N;generalize Y6 a (Go.Proofs.YtigdmmgklieofaaGreat.numL (l.map qt) s) last=A at p P Z;generalize Y6 b ((Go.Proofs.YtigdmmgklieofaaGreat.numL (l.map qt) s:Int)+jx a) last=B at p v N;generalize Y6 e (Go.Proofs.YtigdmmgklieofaaGreat.numL (l.map qt) s) last=R at p⊢;unfold Qa;rw[show(t:Int)-1=(j:Int) by omega];refine wac _ (atN C) ?_;rw[F];have L:yi e=3\/yi e=4:=by rw[M];cases c<;>simp
  have u:decide (yi e=3)=c:=by rw[M];cases c<;>rfl
  generalize yi e=K at L u;refine wae (wcw (by omega)) (wae (wcw (by omega)) ?_);have ew:T.w64 ((j:Int)-1)=((t-1:Nat):Int)-1:=by rw[wI (by omega) (by omega)];omega
  rw[ew];refine Tt.bind v λr Q=>?_;subst Q;refine Tt.J (λs=>s=(l,(j:Int),last,K,false,r)) (λnx f=>wad (wab (λh=>f _ ?_) λh=>f _ rfl)) λs x=>?_
  ·have h:=wcd h;rw[wcw (by omega)]
  subst x;dsimp only;rw[ew];refine wae rfl (Waa (zfz l U d) Big.two λq H=>wad ?_);subst H;rw[wI (by omega) (by omega)];refine Tt.bind P λra a1=>?_;subst a1;refine Tt.J (λs=>∃z,s=(l,last,K,(m:Int)-1,z,r,ra)/\z=(c && last && !vm b)) (λnx f=>wad ?_) λs⟨z,x,hz⟩=>?_
  ·rw[u];refine wab (λh=>wab (λg=>?_) λg=>f _ ⟨_,rfl,by rw[g];simp⟩) λh=>f _ ⟨_,rfl,by rw[h];rfl⟩;exact Waa (zve l U d) Big.two λq H=>f _ ⟨_,rfl,by rw[h,g,H];rfl⟩
  ·subst x;dsimp only;refine wab (λh=>Tt.pure ?_) λh=>?_
   ·rw[h]at hz;rw[p];cases last
    ·simp at hz
    ·cases c<;>cases d:vm b<;>simp[d]at hz⊢
   ·refine Tt.J (λs=>∃y,s=(y,r,ra)/\y=(c && !last && !vm a)) (λny G=>wad ?_) λs⟨y,x,S⟩=>?_
    ·rw[u];refine wab (λh=>wab (λg=>?_) λg=>G _ ⟨_,rfl,by rw[h];cases last<;>simp_all⟩) λh=>G _ ⟨_,rfl,by rw[h];rfl⟩;exact Waa (zve l U w) Big.two λq H=>G _ ⟨_,rfl,by rw[h,H];cases last<;>simp_all⟩
    ·subst x;dsimp only;refine wab (λg=>Tt.pure ?_) λg=>wac _ (yf (by omega) (by omega)) (Tt.pure ?_)
     ·rw[g]at S;rw[p];cases last
      ·cases c<;>cases d:vm a<;>simp[d]at S⊢
      ·cases c<;>simp at S
     ·rw[h]at hz;rw[g]at S;rw[p];cases last
      ·cases c<;>cases d:vm a<;>simp[d]at S⊢
      ·cases c<;>cases d:vm b<;>simp[d]at hz⊢
 induction e with
 |set=>
  intro s t h;refine go h ?_;obtain⟨j,C,D,F⟩:=Yx h;have Y:j=s:=by obtain⟨_,_,_,_,h3⟩:=h;simp[post]at h3;omega
  unfold Qa;rw[show(t:Int)-1=(j:Int) by omega];refine wac _ (atN C) ?_;rw[F];refine wah rfl (Waa (je1 l U j (by omega)) Big.two λr Q=>Tt.pure ?_);subst Q;rw[Y];cases last<;>rfl
 |empty=>
  intro s t h;refine go h ?_;obtain⟨j,C,D,F⟩:=Yx h;unfold Qa;rw[show(t:Int)-1=(j:Int) by omega];refine wac _ (atN C) ?_;rw[F];refine wae rfl (wah rfl (Tt.pure ?_));cases last<;>rfl
 |cat a b k o=>exact λs t h=>g true h rfl h.cat (λn=>by cases last<;>simp[Y6,qj,q8]<;>split<;>simp_all) k o
 |alt a b k o=>exact λs t h=>g false h rfl h.alt (λn=>by cases last<;>simp[Y6,qj,q8]) k o
 |star a I=>exact λs t h=>V h (.inl rfl) h.star (by cases last<;>rfl) I
 |plus a I=>exact λs t h=>V h (.inr (.inl rfl)) h.plus (by cases last<;>rfl) I
 |opt a I=>exact λs t h=>V h (.inr (.inr rfl)) h.opt (by cases last<;>rfl) I
theorem zhk(l:List jf)(a:l.length<=1000){e:E}{s t:Nat}(h:AtT (l.map qt) s e t)(last:Bool):Tn (λb=>vj b l ((t:Int)-1) last) (λr=>r=Y6 e (Go.Proofs.YtigdmmgklieofaaGreat.numL (l.map qt) s) last):=zi0 (jjm l a last e s t h)
theorem zr8(l:List Int)(x:Int)(j:l.length<=1000000):Tn (λg=>vq g l x) (λr=>r=decide (x∈l)):=by
 unfold vq;refine Tt.loop (λm s=>∃k:Nat,k<=l.length/\m=l.length-k/\s=(l,x,(k:Int))/\(x∈l↔x∈l.drop k)) l.length waa ⟨0,by omega,by omega,rfl,by simp⟩ λm s⟨k,i,n,f,b⟩ o e=>?_;subst f;dsimp only;refine wab (λc=>?_) λc=>Tt.pure ?_
 ·have c:=wcd c;have d:k<l.length:=by omega
  rw[wc0 d]at b;refine wac _ (atN d) (wab (λa=>Tt.pure ?_) λa=>wad ?_)
  ·exact(wc9 (b.2 (by rw[wcd a];simp))).symm
  ·have a:=wce a;rw[wI (by omega) (by omega)];refine e (l.length-(k+1)) _ (by omega) ⟨k+1,by omega,rfl,rfl,?_⟩;rw[b,wc1];exact⟨λh=>h.elim (λh=>absurd h.symm a) id,.inr⟩
 ·have c:=wce c;have:k=l.length:=by omega
  rw[this,wd3]at b;exact(wcw λh=>by simpa using b.1 h).symm
theorem jk5{α:Type}{l:List α}{p:α->Bool}{k:Nat}(a:k<l.length):(l.take (k+1)).any p=((l.take k).any p ||p l[k]):=by
 rw[wcn a,List.any_append];simp only[List.any_cons,List.any_nil,Bool.or_false]
theorem jbx(l:List jf)(hl:l.length<=1000){e:E}(he:l.map qt=post e)(a b:Int):Tn (λnn=>Zx nn l a b) (λr=>r=ze7 e 0 a b):=by
 have c7:(Yo e 0).length=l.length:=by rw[yh,<- he,wcv]
 have hw:AtT (l.map qt) 0 e l.length:=by
  have:=wbf e;rw[<- he,wcv]at this;exact this
 have c4:Go.Proofs.YtigdmmgklieofaaGreat.numL (l.map qt) 0=0:=by simp[Go.Proofs.YtigdmmgklieofaaGreat.numL]
 unfold Zx;refine Tt.loop (λm s=>∃k:Nat,k<=l.length/\m=l.length-k/\s=(l,a,b,(k:Int))/\(((Yo e 0).take k).any λx=>Y5 x.1 x.2 a b)=false) l.length waa ⟨0,by omega,by omega,rfl,by simp⟩ λm s⟨k,hk,hm,B,hf⟩ nx c6=>?_;subst B;dsimp only;refine wab (λc=>?_) λc=>Tt.pure ?_
 rotate_left
 ·have c:=wce c;have:k=l.length:=by omega
  rw[this,<- c7,wc2]at hf;exact hf.symm
 have c:=wcd c;have c3:k<l.length:=by omega
 have H:k<(Yo e 0).length:=by omega
 have F:=jk5 (p:=λx:E×Int=>Y5 x.1 x.2 a b) H;rw[hf,wfz]at F;have G:Y5 ((Yo e 0)[k]).1 ((Yo e 0)[k]).2 a b=true->true=ze7 e 0 a b:=λh=>by
  symm;unfold ze7;rw[wep];exact⟨_,wcm H,h⟩
 obtain⟨x,hx⟩:∃x,(Yo e 0)[k]=x:=⟨_,rfl⟩
 obtain⟨O,C,a9⟩:=joh (l.map qt) e 0 l.length hw k x (by rw[c4,<- hx];exact wcf H);rw[wdo]at C;rw[hx]at F G;obtain⟨f,n⟩:=x;simp only at C a9 F G;obtain⟨j,hj,d7,c0⟩:=Yx C;obtain rfl:j=k:=by omega
 subst a9;have c5:Y5 f (Go.Proofs.YtigdmmgklieofaaGreat.numL (l.map qt) O) a b=false->(((Yo e 0).take (j+1)).any λx=>Y5 x.1 x.2 a b)=false:=λh=>by rw[F];exact h
 refine Tt.J (λs=>s=(l,a,b,(j:Int))/\Y5 f (Go.Proofs.YtigdmmgklieofaaGreat.numL (l.map qt) O) a b=false) (λny V=>?_) λs⟨B,R⟩=>?_
 rotate_left
 ·subst B;dsimp only;refine wad ?_;rw[wI (by omega) (by omega)];exact c6 (l.length-(j+1)) _ (by omega) ⟨j+1,by omega,rfl,rfl,c5 R⟩
 refine wac _ (atN c3) ?_;rw[c0];have two:∀{ι:Type}{D:Fi ι}{φ:ι->Nat},Big D φ->∀{p q:E}{s1 t1 s2 t2:Nat}{β:Type}{Q:β->Prop}{K:ι->Bool->Option β},AtT (l.map qt) s1 p t1->AtT (l.map qt) s2 q t2->∀{u v:Int},u=(t1:Int)-1->v=(t2:Int)-1->(Tt D (λi=>K i (decide (a∈q8 p (Go.Proofs.YtigdmmgklieofaaGreat.numL (l.map qt) s1)) && decide (b∈qj q (Go.Proofs.YtigdmmgklieofaaGreat.numL (l.map qt) s2)))) Q)->Tt D (λi=>ja (vj (φ i) l u true) λx=>ja (vq (φ i) x a) λy=>ifB y (ja (vj (φ i) l v false) λz=>ja (vq (φ i) z b) λw=>K i w) (K i false)) Q:=λ{ι D φ}hφ{p q s1 t1 s2 t2 β Q K}P hq{u v}hu hv hK=>by
  subst hu hv;have n1:=zpt P;have n2:=zpt hq;have l1:=zkc p (Go.Proofs.YtigdmmgklieofaaGreat.numL (l.map qt) s1) true (by omega);have l2:=zkc q (Go.Proofs.YtigdmmgklieofaaGreat.numL (l.map qt) s2) false (by omega);refine Waa (zhk l hl P true) hφ λx hx=>?_;subst hx;refine Waa (zr8 _ a (by omega)) hφ λy hy=>?_;subst hy;refine wab (λU=>?_) λU=>?_
  ·refine Waa (zhk l hl hq false) hφ λx hx=>?_;subst hx;refine Waa (zr8 _ b (by omega)) hφ λy hy=>?_;subst hy;have U:decide (a∈q8 p (Go.Proofs.YtigdmmgklieofaaGreat.numL (l.map qt) s1))=true:=U;rw[U,wea]at hK;exact hK
  ·have U:decide (a∈q8 p (Go.Proofs.YtigdmmgklieofaaGreat.numL (l.map qt) s1))=false:=U;rw[U,Bool.false_and]at hK;exact hK
 have b7:=C.bound;rw[wcv]at b7;have ew:T.w64 ((j:Int)-1)=((j+1-1:Nat):Int)-1:=by rw[wI (by omega) (by omega)];omega
 have b1:∀{p:E},AtT (l.map qt) O p (j+1-1)->(Y5 f (Go.Proofs.YtigdmmgklieofaaGreat.numL (l.map qt) O) a b=(decide (a∈q8 p (Go.Proofs.YtigdmmgklieofaaGreat.numL (l.map qt) O)) && decide (b∈qj p (Go.Proofs.YtigdmmgklieofaaGreat.numL (l.map qt) O))))->yi f=5\/yi f=6->Tt way.mul (λi=>J (λ(g:(List jf)×Int×Int×Int×Int)=>ifB (decide (g.2.2.2.2=3)) (ja (Vq i.1 g.1 (w64 (g.2.2.2.1-1))) λx9=>J (λ(t:(List jf)×Int×Int×Int×Bool)=>ifB t.2.2.2.2 (some true) (ny i (t.1,t.2.1,t.2.2.1,t.2.2.2.1))) λL=>ja (vj i.1 g.1 (w64 (x9-1)) true) λW=>ja (vq i.1 W g.2.1) λX=>ifB X (ja (vj i.1 g.1 (w64 (g.2.2.2.1-1)) false) λY=>ja (vq i.1 Y g.2.2.1) λZ=>L (g.1,g.2.1,g.2.2.1,g.2.2.2.1,Z)) (L (g.1,g.2.1,g.2.2.1,g.2.2.2.1,false))) (ny i (g.1,g.2.1,g.2.2.1,g.2.2.2.1))) λx8=>J (λ(d:(List jf)×Int×Int×Int×Int×Bool)=>ifB d.2.2.2.2.2 (J (λ(o:(List jf)×Int×Int×Int×Int×Bool)=>ifB o.2.2.2.2.2 (some true) (x8 (o.1,o.2.1,o.2.2.1,o.2.2.2.1,o.2.2.2.2.1))) λN=>ja (vj i.1 d.1 (w64 (d.2.2.2.1-1)) true) λa0=>ja (vq i.1 a0 d.2.1) λa1=>ifB a1 (ja (vj i.1 d.1 (w64 (d.2.2.2.1-1)) false) λa2=>ja (vq i.1 a2 d.2.2.1) λa3=>N (d.1,d.2.1,d.2.2.1,d.2.2.2.1,d.2.2.2.2.1,a3)) (N (d.1,d.2.1,d.2.2.1,d.2.2.2.1,d.2.2.2.2.1,false))) (x8 (d.1,d.2.1,d.2.2.1,d.2.2.2.1,d.2.2.2.2.1))) λM=>ja (some (decide (yi f=5))) λa4=>ifB a4 (M (l,a,b,(j:Int),yi f,true)) (M (l,a,b,(j:Int),yi f,decide (yi f=6)))) (λr=>r=ze7 e 0 a b):=λ{p}P R a8=>by
  generalize yi f=K at a8;refine Tt.J (λs=>s=(l,a,b,(j:Int),K)/\Y5 f (Go.Proofs.YtigdmmgklieofaaGreat.numL (l.map qt) O) a b=false) (λnz I=>?_) λs⟨B,R⟩=>?_
  ·refine Tt.J (λs=>s=(l,a,b,(j:Int),K,true)) (λnu A=>?_) λs B=>?_
   ·refine wad (wab (λc=>A _ rfl) λc=>A _ ?_);have c:=wce c;rw[wc9 (by omega)]
   ·subst B;dsimp only;refine wah rfl (Tt.J (λs=>s=(l,a,b,(j:Int),K,Y5 f (Go.Proofs.YtigdmmgklieofaaGreat.numL (l.map qt) O) a b)) (λnu A=>?_) λs B=>?_)
    ·refine two waa.fst (K:=λi w=>nu i (l,a,b,(j:Int),K,w)) P P ew ew (A _ ?_);rw[R]
    ·subst B;dsimp only;exact wab (λc=>Tt.pure (G c)) λc=>I _ ⟨rfl,c⟩
  ·subst B;dsimp only;exact wae (wcw (by omega)) (V _ ⟨rfl,R⟩)
 have S:Y5 f (Go.Proofs.YtigdmmgklieofaaGreat.numL (l.map qt) O) a b=false->yi f≠3->yi f≠5->yi f≠6->Tt way.mul (λi=>J (λ(g:(List jf)×Int×Int×Int×Int)=>ifB (decide (g.2.2.2.2=3)) (ja (Vq i.1 g.1 (w64 (g.2.2.2.1-1))) λx9=>J (λ(t:(List jf)×Int×Int×Int×Bool)=>ifB t.2.2.2.2 (some true) (ny i (t.1,t.2.1,t.2.2.1,t.2.2.2.1))) λL=>ja (vj i.1 g.1 (w64 (x9-1)) true) λW=>ja (vq i.1 W g.2.1) λX=>ifB X (ja (vj i.1 g.1 (w64 (g.2.2.2.1-1)) false) λY=>ja (vq i.1 Y g.2.2.1) λZ=>L (g.1,g.2.1,g.2.2.1,g.2.2.2.1,Z)) (L (g.1,g.2.1,g.2.2.1,g.2.2.2.1,false))) (ny i (g.1,g.2.1,g.2.2.1,g.2.2.2.1))) λx8=>J (λ(d:(List jf)×Int×Int×Int×Int×Bool)=>ifB d.2.2.2.2.2 (J (λ(o:(List jf)×Int×Int×Int×Int×Bool)=>ifB o.2.2.2.2.2 (some true) (x8 (o.1,o.2.1,o.2.2.1,o.2.2.2.1,o.2.2.2.2.1))) λN=>ja (vj i.1 d.1 (w64 (d.2.2.2.1-1)) true) λa0=>ja (vq i.1 a0 d.2.1) λa1=>ifB a1 (ja (vj i.1 d.1 (w64 (d.2.2.2.1-1)) false) λa2=>ja (vq i.1 a2 d.2.2.1) λa3=>N (d.1,d.2.1,d.2.2.1,d.2.2.2.1,d.2.2.2.2.1,a3)) (N (d.1,d.2.1,d.2.2.1,d.2.2.2.1,d.2.2.2.2.1,false))) (x8 (d.1,d.2.1,d.2.2.1,d.2.2.2.1,d.2.2.2.2.1))) λM=>ja (some (decide (yi f=5))) λa4=>ifB a4 (M (l,a,b,(j:Int),yi f,true)) (M (l,a,b,(j:Int),yi f,decide (yi f=6)))) (λr=>r=ze7 e 0 a b):=λR h3 h5 h6=>by
  generalize yi f=K at h3 h5 h6;refine Tt.J (λs=>s=(l,a,b,(j:Int),K)) (λnz I=>?_) λs B=>?_
  ·refine Tt.J (λs=>s=(l,a,b,(j:Int),K,false)) (λnu A=>wad (wae (wcw h5) (A _ ?_))) λs B=>?_
   ·rw[wcw h6]
   ·subst B;exact wae rfl (I _ rfl)
  ·subst B;exact wae (wcw h3) (V _ ⟨rfl,R⟩)
 cases f with
 |set=>exact S rfl (by simp[yi]) (by simp[yi]) (by simp[yi])
 |empty=>exact S rfl (by simp[yi]) (by simp[yi]) (by simp[yi])
 |alt p q=>exact S rfl (by simp[yi]) (by simp[yi]) (by simp[yi])
 |opt p=>exact S rfl (by simp[yi]) (by simp[yi]) (by simp[yi])
 |star p=>exact b1 C.star rfl (.inl rfl)
 |plus p=>exact b1 C.plus rfl (.inr rfl)
 |cat p q=>
  obtain⟨m',P,hq,d8,d9⟩:=C.cat;have b8:=P.bound;rw[wcv]at b8;refine Tt.J (λs=>s=(l,a,b,(j:Int),3)) (λnz I=>?_) λs B=>?_
  ·refine Tt.J (λs=>s=(l,a,b,(j:Int),3,false)) (λnu A=>wad (wae rfl (A _ rfl))) λs B=>?_;subst B;exact wae rfl (I _ rfl)
  ·subst B;dsimp only;rw[ew];refine wah rfl (Waa (zfz l hl hq) waa.fst λr R=>?_);subst R;refine Tt.J (λs=>s=(l,a,b,(j:Int),Y5 (.cat p q) (Go.Proofs.YtigdmmgklieofaaGreat.numL (l.map qt) O) a b)) (λnu A=>?_) λs B=>?_
   ·refine two waa.fst (K:=λi w=>nu i (l,a,b,(j:Int),w)) P hq (wI (by omega) (by omega)) rfl (A _ ?_);rw[P.num];rfl
   ·subst B;dsimp only;exact wab (λc=>Tt.pure (G c)) λc=>V _ ⟨rfl,c⟩
theorem zu0{l:List jf}(a:Vx l=0):AtT (l.map qt) 0 (ql l) l.length:=by
 have:=wbf (ql l);rw[<- zjo a,wcv]at this;exact this
theorem jo4(l:List Rx):Go.Proofs.YtigdmmgklieofaaGreat.numL l 0=0:=by simp[Go.Proofs.YtigdmmgklieofaaGreat.numL]
theorem zgu{l:List jf}(a:Vx l=0):jx (ql l)=(yr l).length:=(jeu (zjo a)).symm
theorem zdz{l:List jf}(a:Vx l=0):jx (ql l)<=512:=by
 have b:=zpt (zu0 a);have:=(Qx a).2;omega
theorem zva(l:List jf)(i:Vx l=0):Tn (λo=>Yv o l) (λr=>r=yr l):=by
 have t:=(Qx i).2;unfold Yv;refine Waa (zgp l (by omega)) waa λe j=>?_;rw[i]at j;subst j;refine wae rfl ?_;refine Tt.loop (λm s=>∃k:Nat,k<=l.length/\m=l.length-k/\s=(l,(k:Int),yr (l.take k))) l.length waa ⟨0,by omega,by omega,rfl⟩ λm s⟨k,u,v,h⟩ w g=>?_;subst h;dsimp only;refine wab (λc=>?_) λc=>Tt.pure ?_
 ·have c:=wcd c;have a:k<l.length:=by omega
  have d:yr (l.take (k+1))=yr (l.take k)++if(l[k]).1=1 then [(l[k]).2.1]else []:=by rw[wcn a,zyl]
  have n:(yr (l.take k)).length<=512:=by
   unfold yr;rw[wcv];have p:=wen (λx:jf=>decide (x.1=1)) (l.take k);have q:(l.take k).length<=l.length:=by rw[wdl];omega
   omega
  refine Tt.J (λs=>s=(l,(k:Int),yr (l.take (k+1)))) (λy b=>?_) λs h=>?_
  ·refine wac _ (atN a) (wab (λf=>?_) λf=>b _ ?_)
   ·refine wac _ (atN a) (wac _ (yf (by simp;omega) (by omega)) (b _ ?_));rw[d,if_pos (wcd f)]
   ·rw[d,if_neg (wce f),wc7]
  ·subst h;dsimp only;refine wad ?_;rw[wI (by omega) (by omega)];exact g (l.length-(k+1)) _ (by omega) ⟨k+1,by omega,rfl,rfl⟩
 ·have c:=wce c;have:k=l.length:=by omega
  rw[this,wc2]
theorem z4x(l:List jf)(a:Vx l=0):Tn (λd=>zav d l) (λr=>r=q8 (ql l) 0):=by
 have f:=(Qx a).2;unfold zav;refine Waa (zgp l (by omega)) waa λe b=>?_;rw[a]at b;subst b;refine wae rfl ?_;rw[wI (by omega) (by omega)];refine Waa (zhk l (by omega) (zu0 a) true) waa λr c=>Tt.pure ?_;rw[c,jo4];rfl
theorem zzf(l:List jf)(a:Vx l=0):Tn (λd=>Zs d l) (λr=>r=qj (ql l) 0):=by
 have f:=(Qx a).2;unfold Zs;refine Waa (zgp l (by omega)) waa λe b=>?_;rw[a]at b;subst b;refine wae rfl ?_;rw[wI (by omega) (by omega)];refine Waa (zhk l (by omega) (zu0 a) false) waa λr c=>Tt.pure ?_;rw[c,jo4];rfl
theorem jlx(e:E)(i:Int)(k:Nat):((List.range (k+1)).map λ(b:Nat)=>(b:Int)).filter (λb=>ze7 e 0 i b)=(((List.range k).map λ(b:Nat)=>(b:Int)).filter λb=>ze7 e 0 i b)++if ze7 e 0 i k=true then [(k:Int)]else []:=by
 rw[List.range_succ,wdb,we7];congr 1;by_cases h:ze7 e 0 i k=true<;>simp[h]
theorem zvp(l:List jf)(d:Vx l=0)(i:Nat)(hi:i<jx (ql l)):Tn (λw=>V5 w l (i:Int)) (λr=>r=zvm (ql l) i):=by
 have x:=(Qx d).2;have t:=zgu d;have u:=zdz d;unfold V5;refine Waa (zva l d) waa λr p=>?_;subst p;rw[<- t];refine wad ?_;unfold zvm;refine Tt.loop (λm s=>∃(k:Nat)(o:List Int),k<=jx (ql l)/\m=jx (ql l)-k/\s=(l,(i:Int),(jx (ql l):Int),(k:Int),o)/\o=((List.range k).map λ(b:Nat)=>(b:Int)).filter λb=>ze7 (ql l) 0 i b) (jx (ql l)) waa ⟨0,_,by omega,by omega,rfl,rfl⟩ λm s⟨k,o,y,z,f,n⟩ A h=>?_;subst f;dsimp only;refine wab (λc=>?_) λc=>Tt.pure ?_
 ·have c:=wcd c;have v:o.length<=512:=by
   rw[n];have q:=wen (λb=>ze7 (ql l) 0 i b) ((List.range k).map λ(b:Nat)=>(b:Int));rw[wcv,List.length_range]at q;omega
  have a:=jlx (ql l) i k;rw[<- n]at a;refine Tt.J (λs=>s=(l,(i:Int),(jx (ql l):Int),(k:Int),((List.range (k+1)).map λ(b:Nat)=>(b:Int)).filter λb=>ze7 (ql l) 0 i b)) (λB e=>?_) λs f=>?_
  ·refine Tt.J (λs=>s=(l,(i:Int),(jx (ql l):Int),(k:Int),ze7 (ql l) 0 i k,o)) (λC j=>?_) λs f=>?_
   ·refine wad (wah (wc9 (by omega)) (wah (wc9 (by omega)) ?_));refine Waa (jbx l (by omega) (zjo d) i k) waa.fst λr p=>j _ (by rw[p])
   ·subst f;dsimp only;refine wab (λg=>wac _ (yf (by simp;omega) (by omega)) (e _ ?_)) λg=>e _ ?_
    ·rw[a,if_pos g]
    ·rw[a,if_neg (by simp[g]),wc7]
  ·subst f;dsimp only;refine wad ?_;rw[wI (by omega) (by omega)];exact h (jx (ql l)-(k+1)) _ (by omega) ⟨k+1,_,by omega,rfl,rfl,rfl⟩
 ·have c:=wce c;have:k=jx (ql l):=by omega
  rw[n,this]
theorem zuy(l:List jf)(g:Vx l=0):Tn (λh=>Q4 h l) (λr=>∃a,r=some (yr l,a,zo (ql l) 0,())/\a.length=jx (ql l)/\FolOk a (Zk (ql l) 0)):=
 Tt.mono (jl9 l g) λr⟨e,a,b,c,d,f⟩=>by rw[z6h b];exact⟨a,c,d,f⟩
theorem jgc(l:List jf)(b:Vx l=0):Tn (λd=>zfx d l) (λr=>r=yr l):=by
 unfold zfx;refine Waa (zuy l b) waa λr⟨a,c,e,f⟩=>?_;subst c;exact wah rfl (wad (Tt.pure rfl))
theorem jga(l:List jf)(b:Vx l=0):Tn (λd=>zfn d l) (λr=>r=q8 (ql l) 0):=by
 unfold zfn;refine Waa (zuy l b) waa λr⟨a,c,e,f⟩=>?_;subst c;exact wah rfl (wad (Tt.pure rfl))
theorem jbs(l:List jf)(b:Vx l=0):Tn (λd=>zdr d l) (λr=>r=qj (ql l) 0):=by
 unfold zdr;refine Waa (zuy l b) waa λr⟨a,c,e,f⟩=>?_;subst c;exact wah rfl (wad (Tt.pure rfl))
theorem z9e(l:List jf)(e:Vx l=0)(i:Nat)(hi:i<jx (ql l)):Tn (λh=>zce h l (i:Int)) (λr=>r=zvm (ql l) i):=by
 unfold zce;refine Waa (zuy l e) waa λr⟨a,f,m,d⟩=>?_;subst f;refine Tt.J (λs=>s=((i:Int),some (yr l,a,zo (ql l) 0,()),true)) (λn c=>wad (wah rfl (wah (wc9 (by omega)) (wad (c _ ?_))))) λs g=>?_
 ·rw[wc9];show(i:Int)<(jx (ql l):Int);omega
 ·subst g;have b:i<a.length:=by omega
  refine wah rfl (wad (wac _ (atN b) (Tt.pure ?_)));obtain⟨j,k⟩:=d i _ (wcf b);exact jnn j k
theorem jnp(a b:Int):Tn (λf=>Zz f a b) (λr=>r=decide (a<b)):=by
 unfold Zz;refine Tt.J (λs=>s=decide (a<b)) (λg c=>?_) λs e=>Tt.pure e;refine Tt.bind (R:=λr=>r=false) (Tt.pure (by simp)) λr d=>?_;subst d;exact wae rfl (c _ rfl)
theorem znk{l:List Int}(h:jy l){i j:Nat}(hi:i<j)(a:j<l.length):l[i]'(by omega)<l[j]:=by
 have:=wff.1 h i j (by omega) a hi;exact this
theorem bs_ex(l:List Int)(x:Int)(K:l.length<=1000000)(y:jy l):Tn (λF=>vw F l x) (λr=>r.2.1=decide (x∈l)):=by
 unfold vw;refine wad ?_;refine Tt.loop (λm s=>∃(a b:Nat),a<=b/\b<=l.length/\m=b-a/\s=(l,x,(l.length:Int),(a:Int),(b:Int))/\∀(i:Nat)(k:i<l.length),(i<a->l[i]<x)/\(b<=i->x<=l[i])) l.length waa ⟨0,l.length,by omega,by omega,by omega,rfl,λi k=>⟨λh=>by omega,λh=>by omega⟩⟩ λm s⟨a,b,D,I,L,t,u⟩ M w=>?_;subst t;dsimp only;refine wab (λc=>?_) (λc=>?_)
 ·have c:=wcd c;have f:(a+b) / 2<l.length:=by omega
  refine Tt.J (λs=>∃(o n:Nat),o<=n/\n<=l.length/\n-o<b-a/\s=(l,x,(l.length:Int),(o:Int),(n:Int))/\∀(i:Nat)(k:i<l.length),(i<o->l[i]<x)/\(n<=i->x<=l[i])) (λG g=>?_) λs⟨o,n,v,p,H,t,C⟩=>?_
  ·refine wac _ (mid_eq a b (by omega)) (wad ?_);have B:wr .i64 (((a+b) / 2:Nat):Int)=(((a+b) / 2:Nat):Int):=Z8 (by omega) (by omega);rw[B];refine wac _ (atN f) (Waa (jnp _ _) waa.fst λr z=>?_);subst z;refine wab (λd=>wad ?_) λd=>g _ ⟨a,(a+b) / 2,by omega,by omega,by omega,rfl,λi k=>⟨(u i k).1,λh=>?_⟩⟩
   ·have d:=wcd d;rw[wI (by omega) (by omega)];refine g _ ⟨(a+b) / 2+1,b,by omega,by omega,by omega,by simp,λi k=>⟨λh=>?_,(u i k).2⟩⟩;by_cases e:i=(a+b) / 2
    ·subst e;exact d
    ·have:=znk y (i:=i) (j:=(a+b) / 2) (by omega) f;omega
   ·have d:=wce d;by_cases e:i=(a+b) / 2
    ·subst e;omega
    ·have:=znk y (i:=(a+b) / 2) (j:=i) (by omega) k;omega
  ·subst t;exact w _ _ (by omega) ⟨o,n,v,p,rfl,rfl,C⟩
 ·have c:=wce c;have q:(∀(h:a<l.length),l[a]≠x)->x∉l:=λh E=>by
   obtain⟨i,k,rfl⟩:=wew E;have v:=u i k;by_cases p:i<a
   ·have:=v.1 p;omega
   ·by_cases e:i=a
    ·subst e;exact h k rfl
    ·have:=znk y (i:=a) (j:=i) (by omega) k;have:=(u a (by omega)).2 (by omega);omega
  refine Tt.J (λs=>s.2=decide (x∈l)) (λG g=>wad (wab (λc=>?_) λc=>g _ ?_)) λs t=>Tt.pure t
  ·have c:=wcd c;have f:a<l.length:=by omega
   refine wac _ (atN f) (wad (wab (λd=>g _ ?_) λd=>?_))
   ·have d:=wcd d;rw[wc9 (by rw[<- d];exact wcm f)]
   ·have d:=wce d;have p:decide (x∈l)=false:=wcw (q λ_=>d);refine wac _ (atN f) (Tt.bind (R:=λr=>r=false) (Tt.pure (by simp)) λr A=>?_);subst A;exact wae rfl (g _ p.symm)
  ·have c:=wce c;exact(wcw (q λh=>by omega)).symm
theorem Has_ex(l:List Int)(x:Int)(a:l.length<=1000000)(b:jy l):Tn (λc=>zhi c l x) (λr=>r=decide (x∈l)):=by
 unfold zhi;exact Waa (bs_ex l x a b) waa λr h=>Tt.pure h
theorem zm9(a m:Nat)(t:jb×(List Bool)×(List ji)×Int×(List Bool)):q9 a (m+1) t=Jt a (q9 a m) t:=rfl
def StQ(g:jb)(em:List Bool)(al:List (List Int))(tok:Int)(l:List ji)(a:List Bool)(r:Bool×List Bool):Prop:=r.2.length=g.2.1.length/\yd r.2<=yd a/\(r.1=true->inF em al tok l)
theorem jcs{r:List Bool}{z:Nat}(h:z<r.length):r.getD z false=r[z]:=by simp[List.getD,h]
theorem zxz(g:jb)(y:GOk g)(em:List Bool)(al:List (List Int))(X:em.length=g.2.1.length)(L:∀p∈g.2.2.1,fiC em al p)(tok:Int):∀(k:Nat)(l:List ji)(a:List Bool),yd a<k->a.length=g.2.1.length->(∀x∈l,zao g x)->l.length<=1000000->Tt Fi.two (λi=>q9 i.1 i.2 (g,em,l,tok,a)) (StQ g em al tok l a)
 |0,_,_,h,_,_,_=>by omega
 |k+1,l,a,hk,V,Y,a8=>by
  refine ziy (b:=λi=>Jt i.1 (q9 i.1 i.2) (g,em,l,tok,a)) ?_ λn m=>zm9 n m _;unfold Jt;have b0:=y.p;refine Tt.loop (λm s=>∃(d:Nat)(e:List Bool),d<=l.length/\m=l.length-d/\s=(em,l,tok,(d:Int),e,g)/\e.length=g.2.1.length/\yd e<=yd a/\(inF em al tok (l.drop d)->inF em al tok l)) l.length Big.two ⟨0,a,by omega,by omega,rfl,V,wcq _,λh=>h⟩ λm s⟨d,e,hd,hm,G,f,B,u⟩ nx Z=>?_;subst G;dsimp only;refine wab (λc=>?_) λc=>Tt.pure ⟨f,B,λh=>by cases h⟩;have c:=wcd c;have E:d<l.length:=by omega
  rw[wc0 E]at u;have q:=atN E;have hx:=Y _ (wcm E);generalize l[d]=x at u q hx;refine wac _ q (wab (λw=>wac _ q (Tt.pure ⟨f,B,λh=>u ?_⟩)) λw=>?_)
  ·have h:=wcd h;have w:x.1=false:=by simpa using w
   unfold inF;rw[if_neg (by rw[w];simp)];exact h.symm
  ·have w:x.1=true:=by simpa using w
   obtain⟨i1,i2⟩:=hx;rw[if_pos w]at i2;obtain⟨z,hz⟩:∃z:Nat,x.2.1=z:=⟨x.2.1.toNat,by omega⟩
   have v:z<e.length:=by omega
   have R:z<em.length:=by omega
   have P:tok∈al.getD z []->inF em al tok l:=λh=>u (by
    unfold inF;rw[if_pos w,hz,wcx];exact .inl h)
   have Q:em[z]=true->inF em al tok (l.drop (d+1))->inF em al tok l:=λh1 h2=>u (by
    unfold inF;rw[if_pos w,hz,wcx];exact .inr ⟨by rw[jcs R,h1],h2⟩)
   refine Tt.J (λs=>∃(b:Bool)(o:List Bool),s=(em,l,tok,(d:Int),b,o,g)/\o.length=g.2.1.length/\yd o<=yd a/\(b=true->inF em al tok l)) (λnq F=>?_) λs⟨b,o,G,ho,C,U⟩=>?_
   ·refine wac _ q ?_;rw[hz];refine wac _ (qv v) (wac _ (atN v) (wab (λc2=>F _ ⟨_,_,rfl,f,B,λh=>by cases h⟩) λc2=>wac _ (qv v) (wac _ (zm true v) ?_)));have a7:=zem (l:=e) (k:=z) (by rw[wcf v,c2]);refine Tt.loop (λm s=>∃(i:Nat)(I:List Bool),i<=g.2.2.1.length/\m=g.2.2.1.length-i/\s=(em,(z:Int),tok,(i:Int),I,g)/\I.length=g.2.1.length/\yd I<yd a) g.2.2.1.length Big.two.fst ⟨0,_,by omega,by omega,rfl,by rw[web];exact f,by omega⟩ λm2 s⟨i,I,hi,a9,G,D,M⟩ ny a0=>?_;subst G;dsimp only;refine wab (λT=>?_) λT=>(F _ ⟨_,_,rfl,D,by omega,λh=>by cases h⟩).fst;have T:=wcd T;have A:i<g.2.2.1.length:=by omega
    have t:=atN A;have j:g.2.2.1[i]∈g.2.2.1:=wcm A;generalize g.2.2.1[i]=p at t j;refine Tt.J (λs=>∃(b:Bool)(K:List Bool),s=(em,(z:Int),tok,(i:Int),b,K,g)/\K.length=g.2.1.length/\yd K<yd a/\(b=true->inF em al tok l)) (λnu O=>?_) λs⟨b,K,G,N,W,U⟩=>?_
    ·refine wac _ t (wad (wab (λS=>wac _ t ?_) λS=>O _ ⟨_,_,rfl,D,M,λh=>by cases h⟩));have S:=wcd S;have ih:=zxz g y em al X L tok k p.2.1 I (by omega) D (y.items p j) (by have:=y.len p j;omega);refine Tt.bind ih.fst.fst λr⟨r1,r2,r3⟩=>O _ ⟨_,_,rfl,r1,by omega,λh=>P ?_⟩;have:=L p j tok (r3 h);rwa [S,wcx]at this
    ·subst G;dsimp only;refine wab (λH=>(F _ ⟨_,_,rfl,N,by omega,λ_=>U H⟩).fst) λH=>wad ?_;rw[wI (by omega) (by omega)];exact a0 (g.2.2.1.length-(i+1)) _ (by omega) ⟨i+1,K,by omega,rfl,rfl,N,W⟩
   ·subst G;dsimp only;refine wab (λH=>Tt.pure ⟨ho,C,λ_=>U H⟩) λH=>wac _ q ?_;rw[hz];refine wac _ (atN R) (wab (λc6=>Tt.pure ⟨ho,C,λh=>by cases h⟩) λc6=>wad ?_);rw[wI (by omega) (by omega)];exact Z (l.length-(d+1)) _ (by omega) ⟨d+1,o,by omega,rfl,rfl,ho,C,Q (by simpa using c6)⟩
theorem RN.snoc{n:Nat}{l:List Int}(h:RN n l){i:Nat}(hi:i<n)(f:∀x∈l,x<(i:Int)):RN n (l++[(i:Int)]):=by
 refine⟨?_,λx c=>?_⟩
 ·unfold jy;rw[wer];exact⟨h.r,by simp,λa e b d=>by simp at d;subst d;exact f a e⟩
 ·rcases wco.1 c with c|c
  ·exact h.b x c
  ·simp at c;subst c;omega
def ShutI(em:List Bool)(tok:Int)(M:List Bool):List ji->Prop
 |[]=>True
 |x::l=>if x.1=true then M[x.2.1.toNat]?=some true/\(em.getD x.2.1.toNat false=true->ShutI em tok M l)else tok≠x.2.1
def MoreM(M a:List Bool):Prop:=∀i:Nat,M[i]?=some true->a[i]?=some true
theorem ShutI.mono{em:List Bool}{tok:Int}{M a:List Bool}(h:MoreM M a):∀{l:List ji},ShutI em tok M l->ShutI em tok a l
 |[],_=>trivial
 |x::l,k=>by
  unfold ShutI at k⊢;split
  ·rename_i c;rw[if_pos c]at k;exact⟨h _ k.1,λb=>ShutI.mono h (k.2 b)⟩
  ·rename_i c;rw[if_neg c]at k;exact k
def CloM(ps:List jh)(em:List Bool)(tok:Int)(M a:List Bool):Prop:=∀i:Nat,a[i]?=some true->M[i]?=some true\/∀p∈ps,p.1=(i:Int)->ShutI em tok a p.2.1
theorem CloM.refl{ps:List jh}{em:List Bool}{tok:Int}(M:List Bool):CloM ps em tok M M:=λi h=> .inl h
theorem CloM.trans{ps:List jh}{em:List Bool}{tok:Int}{A B C:List Bool}(h:CloM ps em tok A B)(k:CloM ps em tok B C)(hm:MoreM B C):CloM ps em tok A C:=λi d=>by
 rcases k i d with a|a
 ·rcases h i a with b|b
  ·exact .inl b
  ·exact .inr λp e c=>(b p e c).mono hm
 ·exact .inr a
structure StX(g:jb)(em:List Bool)(tok:Int)(l:List ji)(been:List Bool)(r:Bool×List Bool):Prop where
 ln:r.2.length=g.2.1.length
 c:yd r.2<=yd been
 m:MoreM been r.2
 s:r.1=false->ShutI em tok r.2 l/\CloM g.2.2.1 em tok been r.2
theorem MoreM.set{M:List Bool}{z:Nat}:MoreM M (M.set z true):=λi h=>z6b h
theorem MoreM.trans{A B C:List Bool}(h:MoreM A B)(k:MoreM B C):MoreM A C:=λi a=>k i (h i a)
theorem zrv(g:jb)(G:GOk g)(em:List Bool)(b6:em.length=g.2.1.length)(tok:Int):∀(k:Nat)(l:List ji)(a:List Bool),yd a<k->a.length=g.2.1.length->(∀x∈l,zao g x)->l.length<=1000000->Tt Fi.two (λi=>q9 i.1 i.2 (g,em,l,tok,a)) (StX g em tok l a)
 |0,_,_,h,_,_,_=>by omega
 |k+1,l,a,hk,b4,b7,d7=>by
  refine ziy (b:=λi=>Jt i.1 (q9 i.1 i.2) (g,em,l,tok,a)) ?_ λn m=>zm9 n m _;unfold Jt;have e0:=G.p;refine Tt.loop (λm s=>∃(d:Nat)(e:List Bool),d<=l.length/\m=l.length-d/\s=(em,l,tok,(d:Int),e,g)/\e.length=g.2.1.length/\yd e<=yd a/\MoreM a e/\CloM g.2.2.1 em tok a e/\(∀M,MoreM e M->ShutI em tok M (l.drop d)->ShutI em tok M l)) l.length Big.two ⟨0,a,by omega,by omega,rfl,b4,wcq _,λi h=>h,CloM.refl _,λM _ h=>h⟩ λm s⟨d,e,hd,hm,U,t,O,C,P,E⟩ nx b9=>?_;subst U;dsimp only;refine wab (λc=>?_) λc=>Tt.pure ⟨t,O,C,λ_=>⟨E e (λi h=>h) ?_,P⟩⟩
  rotate_left
  ·have c:=wce c;rw[wdu (by omega)];trivial
  have c:=wcd c;have S:d<l.length:=by omega
  rw[wc0 S]at E;have y:=atN S;have hx:=b7 _ (wcm S);generalize l[d]=x at E y hx;refine wac _ y (wab (λH=>wac _ y (Tt.pure ⟨t,O,C,λh=>⟨E e (λi h=>h) ?_,P⟩⟩)) λH=>?_)
  ·have h:=wce h;have H:x.1=false:=by simpa using H
   unfold ShutI;rw[if_neg (by rw[H];simp)];exact λe=>h e.symm
  ·have H:x.1=true:=by simpa using H
   obtain⟨i1,i2⟩:=hx;rw[if_pos H]at i2;obtain⟨z,hz⟩:∃z:Nat,x.2.1=z:=⟨x.2.1.toNat,by omega⟩
   have f:z<e.length:=by omega
   have a5:z<em.length:=by omega
   have N:∀M,MoreM e M->M[z]?=some true->(em[z]=true->ShutI em tok M (l.drop (d+1)))->ShutI em tok M l:=λM hM h1 h2=>E M hM (by
    unfold ShutI;rw[if_pos H,hz,wcx];exact⟨h1,λh=>h2 (by rwa [jcs a5]at h)⟩)
   refine Tt.J (λs=>∃(b:Bool)(o:List Bool),s=(em,l,tok,(d:Int),b,o,g)/\o.length=g.2.1.length/\yd o<=yd a/\MoreM e o/\(b=false->o[z]?=some true/\CloM g.2.2.1 em tok e o)) (λnq T=>?_) λs⟨b,o,U,ho,Q,v,hb⟩=>?_
   ·refine wac _ y ?_;rw[hz];refine wac _ (qv f) (wac _ (atN f) (wab (λc2=>T _ ⟨_,_,rfl,t,O,λi h=>h,λ_=>⟨by rw[wcf f,c2],CloM.refl _⟩⟩) λc2=>wac _ (qv f) (wac _ (zm true f) ?_)));have d6:=zem (l:=e) (k:=z) (by rw[wcf f,c2]);have c9:(e.set z true)[z]?=some true:=by rw[wc8];simp[f]
    refine Tt.loop (λm s=>∃(i:Nat)(w:List Bool),i<=g.2.2.1.length/\m=g.2.2.1.length-i/\s=(em,(z:Int),tok,(i:Int),w,g)/\w.length=g.2.1.length/\yd w<yd a/\MoreM (e.set z true) w/\CloM g.2.2.1 em tok (e.set z true) w/\∀(j:Nat)(p:jh),j<i->g.2.2.1[j]?=some p->p.1=(z:Int)->ShutI em tok w p.2.1) g.2.2.1.length Big.two.fst ⟨0,_,by omega,by omega,rfl,by rw[web];exact t,by omega,λi h=>h,CloM.refl _,λj p h=>by omega⟩ λm2 s⟨i,w,hi,d8,U,R,Y,u,K,a4⟩ ny c0=>?_;subst U;dsimp only;refine wab (λV=>?_) λV=>(T _ ⟨_,_,rfl,R,by omega,MoreM.set.trans u,λ_=>⟨u _ c9,λj hj=>?_⟩⟩).fst
    rotate_left
    ·have V:=wce V;have X:∀p∈g.2.2.1,p.1=(z:Int)->ShutI em tok w p.2.1:=λp hp=>by
      obtain⟨j,hj⟩:=wdc hp;exact a4 j p (by have:=(wcg.1 hj).1;omega) hj
     rcases K j hj with h|h
     ·by_cases e1:j=z
      ·subst e1;exact .inr X
      ·rw[wc8,if_neg (λh=>e1 h.symm)]at h;exact .inl h
     ·exact .inr h
    have V:=wcd V;have B:i<g.2.2.1.length:=by omega
    have A:=atN B;have a0:g.2.2.1[i]?=some g.2.2.1[i]:=wcf B;have D:g.2.2.1[i]∈g.2.2.1:=wcm B;generalize g.2.2.1[i]=p at A D a0;refine Tt.J (λs=>∃(b:Bool)(I:List Bool),s=(em,(z:Int),tok,(i:Int),b,I,g)/\I.length=g.2.1.length/\yd I<yd a/\MoreM w I/\(b=false->CloM g.2.2.1 em tok w I/\(p.1=(z:Int)->ShutI em tok I p.2.1))) (λnu a2=>?_) λs⟨b,I,U,Z,b5,F,hb⟩=>?_
    ·refine wac _ A (wad (wab (λc4=>wac _ A ?_) λc4=>a2 _ ⟨_,_,rfl,R,Y,λi h=>h,λ_=>⟨CloM.refl _,λh=>absurd h (wce c4)⟩⟩));have ih:=zrv g G em b6 tok k p.2.1 w (by omega) R (G.items p D) (by have:=G.len p D;omega);exact Tt.bind ih.fst.fst λr⟨r1,r2,r3,r4⟩=>a2 _ ⟨_,_,rfl,r1,by omega,r3,λh=>⟨(r4 h).2,λ_=>(r4 h).1⟩⟩
    ·subst U;dsimp only;refine wab (λW=>(T _ ⟨_,_,rfl,Z,by omega,(MoreM.set.trans u).trans F,λh=>by cases h⟩).fst) λW=>wad ?_;rw[wI (by omega) (by omega)];obtain⟨b1,b2⟩:=hb (by simpa using W);refine c0 (g.2.2.1.length-(i+1)) _ (by omega) ⟨i+1,I,by omega,rfl,rfl,Z,b5,u.trans F,K.trans b1 F,λj q hj hq a3=>?_⟩;by_cases b8:j<i
     ·exact(a4 j q b8 hq a3).mono F
     ·have:j=i:=by omega
      subst this;rw[a0]at hq;cases hq;exact b2 a3
   ·subst U;dsimp only;refine wab (λW=>Tt.pure ⟨ho,Q,C.trans v,λh=>by cases h⟩) λW=>wac _ y ?_;rw[hz];obtain⟨b1,b2⟩:=hb (by simpa using W);have L:=P.trans b2 v;refine wac _ (atN a5) (wab (λc6=>Tt.pure ⟨ho,Q,C.trans v,λ_=>⟨N o v b1 λh=>?_,L⟩⟩) λc6=>wad ?_)
    ·rw[h]at c6;cases c6
    rw[wI (by omega) (by omega)];refine b9 (l.length-(d+1)) _ (by omega) ⟨d+1,o,by omega,rfl,rfl,ho,Q,C.trans v,L,λM hM h=>N M (v.trans hM) (hM _ b1) λ_=>h⟩
theorem jop{ps:List jh}{em:List Bool}{tok:Int}{M:List Bool}(c:∀p∈ps,0<=p.1)(f:∀i:Nat,M[i]?=some true->∀p∈ps,p.1=(i:Int)->ShutI em tok M p.2.1){l:List ji}(h:FiL em ps tok l):¬ShutI em tok M l:=by
 induction h with
 |tok a b=>
  intro k;unfold ShutI at k;rw[if_neg (by rw[a];simp)]at k;exact k b
 |rule a e g _ d=>
  intro k;unfold ShutI at k;rw[if_pos a]at k;have:=c _ e;exact d (f _ k.1 _ e (by omega))
 |skip a b _ d=>
  intro k;unfold ShutI at k;rw[if_pos a]at k;exact d (k.2 b)
theorem z07(l:List Int)(b:Nat)(g:l.length<=1000000)(o:b<=1000000)(i:∀x∈l,0<=x/\x<=1000000):Tn (λn=>Vo n l (b:Int)) (λr=>r=l.map λx=>x+(b:Int)):=by
 unfold Vo;refine wad (wac _ (mkN g (by omega)) ?_);refine Tt.loop (λm s=>∃(k:Nat)(out:List Int),k<=l.length/\m=l.length-k/\s=(l,(b:Int),(l.length:Int),(k:Int),out)/\out.length=l.length/\out.take k=(l.take k).map λx=>x+(b:Int)) l.length waa ⟨0,_,by omega,by omega,rfl,by simp,rfl⟩ λm s⟨k,out,p,q,h,f,e⟩ t d=>?_;subst h;dsimp only;refine wab (λc=>?_) (λc=>Tt.pure ?_)
 ·have c:=wcd c;have a:k<l.length:=by omega
  have j:=i _ (wcm a);refine wac _ (atN a) (wac _ (qv (by omega)) (wac _ (zm _ (by omega)) (wad ?_)));rw[wI (z:=(k:Int)+1) (by omega) (by omega),wI (by omega) (by omega)];refine d (l.length-(k+1)) _ (by omega) ⟨k+1,out.set k (l[k]+b),by omega,rfl,rfl,by simp[f],?_⟩;rw[wcn a,wdb,<- e,wcn (by simp;omega)];congr 1
  ·rw[List.take_set_of_le (by omega)]
  ·simp
 ·have c:=wce c;have:k=l.length:=by omega
  rw[this,wc2,<- f,wc2]at e;exact e
theorem z6o(l:List Int)(b:Nat)(n:l.length<=1000000)(i:b<=1000000)(f:∀x∈l,0<=x/\x<=1000000):Tn (λh=>Vp h l (b:Int)) (λr=>r=l.map λx=>x+(b:Int)):=by
 unfold Vp;refine Tt.loop (λm s=>∃k:Nat,k<=l.length/\m=l.length-k/\s=(l,(b:Int),(k:Int),(l.take k).map λx=>x+(b:Int))) l.length waa ⟨0,by omega,by omega,rfl⟩ λm s⟨k,j,o,e⟩ p d=>?_;subst e;dsimp only;refine wab (λc=>?_) (λc=>Tt.pure ?_)
 ·have c:=wcd c;have a:k<l.length:=by omega
  have g:=f _ (wcm a);refine wac _ (atN a) (wac _ (yf (by simp;omega) (by omega)) (wad ?_));rw[wI (z:=(k:Int)+1) (by omega) (by omega),wI (by omega) (by omega)];refine d (l.length-(k+1)) _ (by omega) ⟨k+1,by omega,rfl,?_⟩;rw[wcn a,wdb];rfl
 ·have c:=wce c;have:k=l.length:=by omega
  rw[this,wc2]
def Vk(n:jk)(t:Nat)(l:List jf)(j:Nat):jk:=
 (n.1++(yr l).take j,n.2.1++List.replicate j (t:Int),n.2.2.1++(List.range j).map (λ(i:Nat)=>decide ((i:Int)∈q8 (ql l) 0)),n.2.2.2.1++(List.range j).map (λ(i:Nat)=>(zvm (ql l) i).map λx=>x+(n.1.length:Int)),n.2.2.2.2.1,())
def zqs(n:jk)(t:Nat)(l:List jf):jk:=
 let m:=Vk n t l (jx (ql l))
 (m.1,m.2.1,m.2.2.1,m.2.2.2.1,n.2.2.2.2.1++(qj (ql l) 0).map (λx=>x+(n.1.length:Int)),())
def Vh(l:List qe):Nat->jk
 |0=>([],[],[],[],[],())
 |k+1=>zqs (Vh l k) k (l.getD k ([],[],0,())).2.1
theorem zke{l:List qe}{k:Nat}(a:k<l.length):Vh l (k+1)=zqs (Vh l k) k (l[k]).2.1:=by
 show zqs (Vh l k) k (l.getD k ([],[],0,())).2.1=_;rw[wdg,wcf a];rfl
structure NetI(k:Nat)(n:jk):Prop where
 o:n.2.1.length=n.1.length
 l:n.2.2.1.length=n.1.length
 f:n.2.2.2.1.length=n.1.length
 ob:∀x∈n.2.1,0<=x/\x<(k:Int)
 fr:∀x∈n.2.2.2.1,RN n.1.length x/\x.length<=512
 fi:RN n.1.length n.2.2.2.2.1
theorem jdr{l:List Int}(b:Int)(h:jy l):jy (l.map λx=>x+b):=by
 unfold jy at h⊢;rw[List.pairwise_map];exact h.imp λh=>by omega
theorem jiu{l:List Int}{n b m:Nat}(h:RN n l)(hm:b+n<=m):RN m (l.map λx=>x+(b:Int)):=⟨jdr _ h.r,λx a=>by
 obtain⟨y,c,rfl⟩:=wcz.1 a;have:=h.b y c;omega⟩
theorem zws{n:jk}{t:Nat}{l:List jf}{j:Nat}(a:j<=(yr l).length):(Vk n t l j).1.length=n.1.length+j:=by
 unfold Vk;simp[a]
theorem NetI.next{k:Nat}{n:jk}(h:NetI k n){l:List jf}(j:Vx l=0):NetI (k+1) (zqs n k l)/\(zqs n k l).1.length=n.1.length+(yr l).length:=by
 have e:=zgu j;have q:=zdz j;have c:(zqs n k l).1.length=n.1.length+(yr l).length:=by
  show(Vk n k l (jx (ql l))).1.length=_;rw[zws (by omega),e]
 refine⟨⟨?_,?_,?_,λx a=>?_,λx a=>?_,?_⟩,c⟩
 ·rw[c];simp[zqs,Vk,h.o,e]
 ·rw[c];simp[zqs,Vk,h.l,e]
 ·rw[c];simp[zqs,Vk,h.f,e]
 ·simp only[zqs,Vk,wco,List.mem_replicate]at a;rcases a with a|⟨_,rfl⟩
  ·have:=h.ob x a;omega
  ·omega
 ·simp only[zqs,Vk,wco,wcz,wef]at a;rcases a with a|⟨i,t,rfl⟩
  ·obtain⟨d,p⟩:=h.fr x a;exact⟨d.up (by omega),p⟩
  ·have g:=z35 (ql l) i;refine⟨jiu g (by omega),?_⟩;rw[wcv];have:=g.len;omega
 ·have d:=h.fi;have g:=jiu (b:=n.1.length) (m:=(zqs n k l).1.length) (zcz (ql l) 0 (jx (ql l)) (by omega)) (by omega);show RN _ (n.2.2.2.2.1++(qj (ql l) 0).map (λx=>x+(n.1.length:Int)));refine⟨?_,λx a=>?_⟩
  ·unfold jy;rw[wer];refine⟨d.r,jdr _ (Qu (ql l) 0).1,λx a y s=>?_⟩;obtain⟨z,hz,rfl⟩:=wcz.1 s;have:=d.b x a;have:=(Qu (ql l) 0).2 z hz;omega
  ·rcases wco.1 a with a|a
   ·exact(d.up (by omega)).b x a
   ·exact g.b x a
theorem zj6{l:List qe}(c:∀t∈l,Vx t.2.1=0):∀k,k<=l.length->NetI k (Vh l k)/\(Vh l k).1.length<=zbd (l.take k)
 |0,_=>⟨⟨rfl,rfl,rfl,λx b=>by simp[Vh]at b,λx b=>by simp[Vh]at b,RN.nil _⟩,by simp[Vh]⟩
 |k+1,j=>by
  obtain⟨d,f⟩:=zj6 c k (by omega);rw[zke (by omega),z1s (by omega)];have a:=c _ (wcm (show k<l.length by omega));obtain⟨e,g⟩:=d.next a
  refine⟨e,?_⟩;have h:=zgu a;have i:=zpt (zu0 a);have:=(Qx a).2;omega
theorem z18{l:List qe}{P:Arr 4 Int->Prop}(b:∀t∈l,∀x∈t.2.1,P x.2.1):∀k,k<=l.length->∀s∈(Vh l k).1,P s
 |0,_,s,a=>by simp[Vh]at a
 |k+1,d,s,a=>by
  rw[zke (by omega)]at a;simp only[zqs,Vk,wco]at a;rcases a with a|a
  ·exact z18 b k (by omega) s a
  ·have a:=wez a;unfold yr at a;obtain⟨x,c,rfl⟩:=wcz.1 a;exact b _ (wcm (show k<l.length by omega)) x (wey.1 c).1
theorem z2k{n:jk}{t:Nat}{l:List jf}{j:Nat}(a:j<(yr l).length):Vk n t l (j+1)=((Vk n t l j).1++[(yr l)[j]],(Vk n t l j).2.1++[(t:Int)],(Vk n t l j).2.2.1++[decide ((j:Int)∈q8 (ql l) 0)],(Vk n t l j).2.2.2.1++[(zvm (ql l) j).map λx=>x+(n.1.length:Int)],n.2.2.2.2.1,()):=by
 unfold Vk;simp only[List.range_succ,wdb,wc4,wed,wc6];rw[wcn a,List.replicate_succ']
theorem jhf{n:jk}{t:Nat}{l:List jf}:Vk n t l 0=n:=by
 unfold Vk;simp
theorem joi(l:List qe)(hl:l.length<=50)(D:∀t∈l,Vx t.2.1=0)(W:zbd l<=1000):Tn (λnn=>zcr nn l) (λr=>r=Vh l l.length):=by
 unfold zcr;refine Tt.loop (λm s=>∃(k:Nat)(y:List (Arr 4 Int))(z:List Int)(A:List Bool)(B:List (List Int))(C:List Int),k<=l.length/\m=l.length-k/\s=(l,(l.length:Int),(k:Int),y,z,A,B,C,(Vh l k).1,(Vh l k).2.1,(Vh l k).2.2.1,(Vh l k).2.2.2.1,(Vh l k).2.2.2.2.1)) l.length waa ⟨0,_,_,_,_,_,by omega,by omega,rfl⟩ λm s⟨k,y,z,A,B,C,S,Y,M⟩ nx K=>?_;subst M;dsimp only;refine wab (λc=>?_) (λc=>?_)
 ·have c:=wcd c;have d:k<l.length:=by omega
  have a:=D _ (wcm d);obtain⟨q,U⟩:=zj6 D k S;have i:=(zj6 D (k+1) d).2;have e:=zke d;have w:∀{j},j<=l.length->zbd (l.take j)<=1000:=λ{j}R=>by
   refine wdk ?_ W;have:zbd l=zbd (l.take j)+zbd (l.drop j):=by
    conv=>lhs;rw[<- wdq j l]
    unfold zbd;rw[wdb,List.sum_append]
   omega
  have V:=w S;have P:=w (j:=k+1) d;have h:=(q.next a).2;rw[e,h]at i;refine wac _ (atN d) (wad ?_);generalize l[k]=t at a e h i⊢;have J:=zgu a;have I:=zdz a;refine Waa (jga _ a) waa.fst λla H=>?_;subst H;refine Waa (jgc _ a) waa.fst λse N=>?_;subst N;generalize hn:Vh l k=n at q U h e i⊢;refine Tt.loop (λm s=>∃(j:Nat),j<=(yr t.2.1).length/\m=(yr t.2.1).length-j/\s=(l,(k:Int),t.2.1,(n.1.length:Int),q8 (ql t.2.1) 0,(l.length:Int),(k:Int),yr t.2.1,((yr t.2.1).length:Int),(j:Int),y,z,A,B,C,(Vk n k t.2.1 j).1,(Vk n k t.2.1 j).2.1,(Vk n k t.2.1 j).2.2.1,(Vk n k t.2.1 j).2.2.2.1,n.2.2.2.2.1)) (yr t.2.1).length waa.fst ⟨0,by omega,by omega,by rw[jhf];rfl⟩ λm s⟨j,R,Y,M⟩ ny L=>?_;subst M;dsimp only;have a1:=zws (n:=n) (t:=k) R;have a2:(Vk n k t.2.1 j).2.1.length=n.1.length+j:=by simp[Vk,q.o]
  have a3:(Vk n k t.2.1 j).2.2.1.length=n.1.length+j:=by simp[Vk,q.l]
  have a4:(Vk n k t.2.1 j).2.2.2.1.length=n.1.length+j:=by simp[Vk,q.f]
  refine wab (λc=>?_) (λc=>?_)
  ·have c:=wcd c;have d:j<(yr t.2.1).length:=by omega
   have v:=zh1 (ql t.2.1) 0 (jx (ql t.2.1)) (by omega);have X:=v.len;have g:=z35 (ql t.2.1) j;have u:=g.len;refine wac _ (atN d) (wac _ (yf (by simp;omega) (by omega)) (wac _ (yf (by simp;omega) (by omega)) ?_));refine Waa (Has_ex _ _ (by simpa using(show(q8 (ql t.2.1) (0:Nat)).length<=1000000 by omega)) v.r) waa.fst.fst λr hr=>?_;subst hr;refine wac _ (yf (by simp;omega) (by omega)) ?_;refine Waa (z9e _ a j (by omega)) waa.fst.fst λf E=>?_;subst E;refine Waa (z07 _ n.1.length (by omega) (by omega) λx O=>by have:=g.b x O;omega) waa.fst.fst λT p=>?_;subst p;refine wac _ (yf (by simp;omega) (by omega)) (wad ?_);rw[wI (by omega) (by omega)];exact L ((yr t.2.1).length-(j+1)) _ (by omega) ⟨j+1,by omega,rfl,by rw[z2k d];rfl⟩
  ·have c:=wce c;have F:j=jx (ql t.2.1):=by omega
   have g:=zcz (ql t.2.1) 0 (jx (ql t.2.1)) (by omega);have u:=g.len;have Z:=q.fi.len;refine Waa (jbs _ a) waa.fst.fst λf E=>?_;subst E;refine Waa (z07 _ n.1.length (by simpa using(show(qj (ql t.2.1) (0:Nat)).length<=1000000 by omega)) (by omega) λx O=>by have:=g.b x O;omega) waa.fst.fst λT p=>?_;subst p;have Q:(qj (ql t.2.1) 0).length<=512:=by simpa using wdk u I
   refine wac _ (yf (by simp;omega) (by omega)) (wad ?_);rw[wI (by omega) (by omega)];exact(K (l.length-(k+1)) _ (by omega) ⟨k+1,_,_,_,_,_,by omega,rfl,by rw[e,F];rfl⟩).fst
 ·have G:k=l.length:=by have c:=wce c;omega
  rw[G];exact Tt.pure rfl
theorem jbz(l:List qe)(hl:l.length<=50)(D:∀t∈l,Vx t.2.1=0)(X:zbd l<=1000):Tn (λnn=>zaw nn l) (λr=>r=Vh l l.length):=by
 unfold zaw;refine Tt.loop (λm s=>∃(k:Nat)(y:List (Arr 4 Int))(z:List Int)(A:List Bool)(B:List (List Int))(C:List Int),k<=l.length/\m=l.length-k/\s=(l,(k:Int),y,z,A,B,C,(Vh l k).1,(Vh l k).2.1,(Vh l k).2.2.1,(Vh l k).2.2.2.1,(Vh l k).2.2.2.2.1)) l.length waa ⟨0,_,_,_,_,_,by omega,by omega,rfl⟩ λm s⟨k,y,z,A,B,C,T,Z,N⟩ nx L=>?_;subst N;dsimp only;refine wab (λc=>?_) (λc=>?_)
 ·have c:=wcd c;have d:k<l.length:=by omega
  have a:=D _ (wcm d);obtain⟨u,V⟩:=zj6 D k T;have p:=(zj6 D (k+1) d).2;have e:=zke d;have w:∀{j},j<=l.length->zbd (l.take j)<=1000:=λ{j}S=>by
   refine wdk ?_ X;have:zbd l=zbd (l.take j)+zbd (l.drop j):=by
    conv=>lhs;rw[<- wdq j l]
    unfold zbd;rw[wdb,List.sum_append]
   omega
  have W:=w T;have Q:=w (j:=k+1) d;have i:=(u.next a).2;rw[e,i]at p;have g:=atN d;refine wad (wac _ g ?_);generalize l[k]=t at a e i p g⊢;have a0:=zgu a;have K:=zdz a;refine Waa (zva _ a) waa.fst λse O=>?_;subst O;refine wac _ g (Waa (z4x _ a) waa.fst λla H=>?_);subst H;generalize hn:Vh l k=n at u V i e p⊢;refine Tt.loop (λm s=>∃(j:Nat),j<=(yr t.2.1).length/\m=(yr t.2.1).length-j/\s=(l,(k:Int),(n.1.length:Int),yr t.2.1,q8 (ql t.2.1) 0,(j:Int),y,z,A,B,C,(Vk n k t.2.1 j).1,(Vk n k t.2.1 j).2.1,(Vk n k t.2.1 j).2.2.1,(Vk n k t.2.1 j).2.2.2.1,n.2.2.2.2.1)) (yr t.2.1).length waa.fst ⟨0,by omega,by omega,by rw[jhf];rfl⟩ λm s⟨j,S,Z,N⟩ ny M=>?_;subst N;dsimp only;have a1:=zws (n:=n) (t:=k) S;have a2:(Vk n k t.2.1 j).2.1.length=n.1.length+j:=by simp[Vk,u.o]
  have a3:(Vk n k t.2.1 j).2.2.1.length=n.1.length+j:=by simp[Vk,u.l]
  have a4:(Vk n k t.2.1 j).2.2.2.1.length=n.1.length+j:=by simp[Vk,u.f]
  refine wab (λc=>?_) (λc=>?_)
  ·have c:=wcd c;have d:j<(yr t.2.1).length:=by omega
   have I:=zh1 (ql t.2.1) 0 (jx (ql t.2.1)) (by omega);have Y:=I.len;have h:=z35 (ql t.2.1) j;have v:=h.len;refine wac _ (atN d) (wac _ (yf (by simp;omega) (by omega)) (wac _ (yf (by simp;omega) (by omega)) ?_));refine Waa (zbm _ _ (by simpa using(show(q8 (ql t.2.1) (0:Nat)).length<=1000000 by omega))) waa.fst.fst λr hr=>?_;subst hr;refine wac _ (yf (by simp;omega) (by omega)) (wac _ g ?_);refine Waa (zvp _ a j (by omega)) waa.fst.fst λf E=>?_;subst E;refine Waa (z6o _ n.1.length (by omega) (by omega) λx P=>by have:=h.b x P;omega) waa.fst.fst λU q=>?_;subst q;refine wac _ (yf (by simp;omega) (by omega)) (wad ?_);rw[wI (by omega) (by omega)];exact M ((yr t.2.1).length-(j+1)) _ (by omega) ⟨j+1,by omega,rfl,by rw[z2k d];rfl⟩
  ·have c:=wce c;have F:j=jx (ql t.2.1):=by omega
   have h:=zcz (ql t.2.1) 0 (jx (ql t.2.1)) (by omega);have v:=h.len;have J:=u.fi.len;refine wac _ g (Waa (zzf _ a) waa.fst.fst λf E=>?_);subst E;refine Waa (z6o _ n.1.length (by simpa using(show(qj (ql t.2.1) (0:Nat)).length<=1000000 by omega)) (by omega) λx P=>by have:=h.b x P;omega) waa.fst.fst λU q=>?_;subst q;have R:(qj (ql t.2.1) 0).length<=512:=by simpa using wdk v K
   refine wac _ (yf (by simp;omega) (by omega)) (wad ?_);rw[wI (by omega) (by omega)];exact(L (l.length-(k+1)) _ (by omega) ⟨k+1,_,_,_,_,_,by omega,rfl,by rw[e,F];rfl⟩).fst
 ·have G:k=l.length:=by have c:=wce c;omega
  rw[G];exact Tt.pure rfl
theorem netK_R{l:List qe}(c:∀t∈l,Vx t.2.1=0)(d:zbd l<=1000):z4d (Vh l l.length)/\ziq (zbd l) 60000 (Vh l l.length)/\∀x∈(Vh l l.length).2.1,0<=x/\x<(l.length:Int):=by
 obtain⟨h,b⟩:=zj6 c l.length (wcq _);rw[wc2]at b;refine⟨?_,⟨b,?_,?_,?_,λx a=>(h.fr x a).2,?_⟩,h.ob⟩
 ·exact⟨⟨h.o,h.l,h.f,h.fi,λx a=>(h.fr x a).1⟩,λx a=>(h.ob x a).1⟩
 ·rw[h.o];omega
 ·rw[h.l];omega
 ·rw[h.f];omega
 ·have:=h.fi.len;omega
theorem ji2{E:Nat->Nat->Bool}(h:Eqv E){k:Nat}(f:k<256):(cls E k<(qm E k).length/\(qm E (k+1)).length=(qm E k).length)\/(cls E k=(qm E k).length/\(qm E (k+1)).length=(qm E k).length+1):=by
 obtain⟨g,i⟩:=zwi h f;cases c:(qm E k).any (E · k)with
 |true=>
  obtain⟨a,b⟩:=g c;left;rw[a,b];obtain⟨x,d,e⟩:=wep.1 c;exact⟨we5 ⟨x,d,e⟩,rfl⟩
 |false=>
  obtain⟨a,b⟩:=i c;right;rw[a,b];exact⟨rfl,by simp⟩
theorem zo8{d:jg}{i:Nat}(hi:i<d.2.2.1.length){c:Nat}(a:c<(d.2.2.1[i]).length):nxt d i (c:Int)=(d.2.2.1[i])[c]:=by
 show at' (at' d.2.2.1 (i:Int)) (c:Int)=_;rw[Jw hi,Jw a]
theorem wrI{z:Int}(a : -9223372036854775808<=z)(b:z<=9223372036854775807):wr .i64 z=z:=Z8 a b
theorem zzp{E:Nat->Nat->Bool}(h:Eqv E){a:Arr 256 Int}(j:ClsAt E a 256):Tn (λp=>zb6 p a) (λr=>r=true):=by
 unfold zb6;refine Tt.loop (λm s=>∃k:Nat,k<=256/\m=256-k/\s=(((qm E k).length:Int),(k:Int),a)) 256 waa ⟨0,by omega,by omega,rfl⟩ λm s⟨k,q,t,i⟩ u g=>?_;subst i;dsimp only;refine wab (λc=>?_) λc=>Tt.pure rfl;have c:=wcd c;have b:k<256:=by omega
 have e:atL a.l (k:Int)=some (cls E k:Int):=Jo (by omega) (by simpa using j.c k b);have o:=zb8 E k;have n:=ji2 h b;refine Tt.J (λs=>s=(((qm E (k+1)).length:Int),(k:Int),a)) (λv f=>?_) λs i=>?_
 ·refine wac _ (qv b) (wac _ e ?_);rw[wrI (by omega) (by omega)];refine wae (wcw (by omega)) (wac _ (qv b) (wac _ e ?_));rw[wrI (by omega) (by omega)];refine wab (λd=>wad (f _ ?_)) λd=>f _ ?_
  ·have d:=wcd d;rw[wI (by omega) (by omega)];rw[show((qm E (k+1)).length:Int)=(qm E k).length+1 by omega]
  ·have d:=wce d;rw[show((qm E (k+1)).length:Int)=(qm E k).length by omega]
 ·subst i;dsimp only;refine wad ?_;rw[wI (by omega) (by omega)];exact g (256-(k+1)) _ (by omega) ⟨k+1,by omega,rfl,rfl⟩
theorem zyu{E:Nat->Nat->Bool}(h:Eqv E){a:Arr 256 Int}(f:ClsAt E a 256):Tn (λn=>zcm n a) (λr=>r=((qm E 256).length:Int)):=by
 unfold zcm;refine Tt.loop (λm s=>∃k:Nat,k<=256/\m=256-k/\s=(((qm E k).length:Int),(k:Int),a)) 256 waa ⟨0,by omega,by omega,rfl⟩ λm s⟨k,o,p,j⟩ q e=>?_;subst j;dsimp only;refine wab (λc=>?_) λc=>Tt.pure ?_
 ·have c:=wcd c;have b:k<256:=by omega
  have d:atL a.l (k:Int)=some (cls E k:Int):=Jo (by omega) (by simpa using f.c k b);have i:=zb8 E k;have g:=ji2 h b;refine wac _ (qv b) (wac _ d (wad (wad ?_)));rw[wrI (by omega) (by omega),wI (by omega) (by omega),wI (by omega) (by omega)];refine e (256-(k+1)) _ (by omega) ⟨k+1,by omega,rfl,?_⟩;rw[show max ((qm E k).length:Int) ((cls E k:Int)+1)=((qm E (k+1)).length:Int) by omega];rfl
 ·have c:=wce c;have:k=256:=by omega
  rw[this]
theorem zzc{d:jg}{E:Nat->Nat->Bool}(h:Eqv E)(p:ClsAt E d.1 256)(L:d.2.1=((qm E 256).length:Int))(y:DSz d)(hm:MOk d)(z:∀x∈d.2.2.2.1, -1<=x):Tn (λC=>yu C d) (λr=>r=true):=by
 have K:=zb8 E 256;have M:0<d.2.2.1.length:=hm.n0;have v:d.2.2.2.1.length=d.2.2.1.length:=hm.lab;have H:=y.n;unfold yu;refine Tt.J (λs=>s=(false,d)) (λD i=>?_) λs b=>?_
 ·refine Waa (zzp h p) waa λr o=>?_;subst o;refine wad (wae rfl (Waa (zyu h p) waa λr o=>?_));subst o;refine wae (wcw (by omega)) (wae (wcw (by omega)) (i _ ?_));rw[wcw (by omega)]
 subst b;refine wae rfl ?_;refine Tt.loop (λm s=>∃k:Nat,k<=d.2.2.1.length/\m=d.2.2.1.length-k/\s=((k:Int),d)) d.2.2.1.length waa ⟨0,by omega,by omega,rfl⟩ λm s⟨k,G,B,b⟩ D i=>?_;subst b;dsimp only;refine wab (λc=>?_) λc=>Tt.pure rfl;have c:=wcd c;have g:k<d.2.2.1.length:=by omega
 have a:=atN g;have q:((d.2.2.1[k]).length:Int)=d.2.1:=by
  have:=hm.row k (by omega) (by show(k:Int)<d.2.2.1.length;omega);rw[Jw (l:=d.2.2.1) g]at this;exact this
 have e:∀(c:Nat)(p:c<(d.2.2.1[k]).length), -1<=(d.2.2.1[k])[c]/\(d.2.2.1[k])[c]<d.2.2.1.length:=λc p=>by
  have : -1<=nxt d k (c:Int)/\nxt d k (c:Int)<d.2.2.1.length:=hm.nx k c (by omega) (by show(k:Int)<d.2.2.1.length;omega) (by omega) (by show(c:Int)<d.2.1;omega);rw[zo8 g p]at this;exact this
 refine Tt.J (λs=>s=((k:Int),false,d)) (λF j=>?_) λs b=>?_
 ·refine wac _ a (wad (wae (wcw (by omega)) (wac _ (atN (show k<d.2.2.2.1.length by omega)) (j _ ?_))));have:=z _ (wcm (show k<d.2.2.2.1.length by omega));rw[wcw (by omega)]
 subst b;refine wae rfl ?_;dsimp only;generalize d.2.2.1[k]=row at a q e;refine Tt.loop (λm s=>∃c:Nat,c<=row.length/\m=row.length-c/\s=((k:Int),(c:Int),d)) row.length waa.fst ⟨0,by omega,by omega,rfl⟩ λm s⟨c,w,A,b⟩ F j=>?_;subst b;dsimp only;refine wab (λt=>?_) λt=>?_
 ·have t:=wcd t;have f:c<row.length:=by omega
  have I:=e c f;refine Tt.J (λs=>s=((k:Int),(c:Int),false,d)) (λN u=>?_) λs b=>?_
  ·refine wac _ a (wac _ (atN f) (wad (wae (wcw (by omega)) (wac _ a (wac _ (atN f) (u _ ?_))))));rw[wcw (by omega)]
  ·subst b;refine wae rfl (wad ?_);dsimp only;rw[wI (by omega) (by omega)];exact j (row.length-(c+1)) _ (by omega) ⟨c+1,by omega,rfl,rfl⟩
 ·refine wad ?_;rw[wI (by omega) (by omega)];exact(i (d.2.2.1.length-(k+1)) _ (by omega) ⟨k+1,by omega,rfl,rfl⟩).fst
theorem zia{d:jg}(hR:Tn (λnn=>yu nn d) (λr=>r=true))(hd:DSz d)(hm:MOk d):Tn (λnn=>J3 nn d) (λr=>r=ze8 d.2.2.1.length (dE d) (λi=>i=0)):=by
 have O:0<d.2.2.1.length:=hm.n0;have hn:=hd.n;have hw:=hm.w;have d1:0<=d.2.1:=hw.1;have d2:d.2.1<=256:=hw.2;unfold J3;refine Waa hR waa λr hr=>?_;subst hr;refine wae rfl (wad (wac _ (mkN (n:=d.2.2.1.length) (by omega) (by omega)) (wac _ (qv (k:=0) (by simpa using O)) (wac _ (zm (k:=0) true (by simpa using O)) ?_))));generalize hN:d.2.2.1.length=N at O hn⊢;have a6:onB ((List.replicate N false).set 0 true) 0:=(J5 (by simpa using O)).2 (.inl rfl);have b6:offs ((List.replicate N false).set 0 true)+1=offs (List.replicate N false):=zw0 (by simp[O]);have W:=z45 (List.replicate N false);rw[wch]at W;have b3:∀i,onB ((List.replicate N false).set 0 true) i->Rch (dE d) (λi=>i=0) i:=λi hi=>by
  rcases(J5 (by simpa using O)).1 hi with h|h
  ·exact .base h.symm
  ·exact absurd h z5g
 refine Tt.loop (λm s=>∃(k:Nat)(a:List Bool),k<=N/\m=N-k/\s=((k:Int),d,a)/\a.length=N/\onB a 0/\(∀i,onB a i->Rch (dE d) (λi=>i=0) i)/\(a=ze8 N (dE d) (λi=>i=0)\/offs a+k<=N-1)) N waa ⟨0,_,by omega,by omega,rfl,by simp,a6,b3,.inr (by omega)⟩ λm s⟨k,a,hk,c8,C,ha,R,a4,S⟩ nx a9=>?_;subst C;dsimp only;rw[ha];refine wab (λc=>?_) λc=>Tt.pure ?_
 rotate_left
 ·have c:=wce c;rcases S with h|h
  ·exact h
  ·omega
 have c:=wcd c;refine Tt.loop (λm s=>∃(i:Nat)(b:List Bool),i<=N/\m=N-i/\s=((k:Int),(i:Int),d,b)/\b.length=N/\LeB a b/\(∀i,onB b i->Rch (dE d) (λi=>i=0) i)/\(a=b->∀p,p<i->∀j,onB a p->dE d p j->onB a j)) N waa.fst ⟨0,a,by omega,by omega,rfl,ha,LeB.refl a,a4,λ_ p h=>by omega⟩ λm s⟨i,b,hi,c7,C,D,o,f,t⟩ ny b0=>?_;subst C;dsimp only;rw[D];refine wab (λP=>?_) λP=>?_
 ·have P:=wcd P;have a8:i<N:=by omega
  have I:i<d.2.2.1.length:=by omega
  have H:=atN I;have Y:((d.2.2.1[i]).length:Int)=d.2.1:=by
   have:=hm.row i (by omega) (by show(i:Int)<d.2.2.1.length;omega);rw[Jw (l:=d.2.2.1) I]at this;exact this
  have x:∀(c:Nat)(M:c<(d.2.2.1[i]).length),nxt d i c=(d.2.2.1[i])[c]:=λc M=>zo8 I M;have E:∀(c:Nat)(M:c<(d.2.2.1[i]).length), -1<=(d.2.2.1[i])[c]/\(d.2.2.1[i])[c]<d.2.2.1.length:=λc M=>by
   have : -1<=nxt d i (c:Int)/\nxt d i (c:Int)<d.2.2.1.length:=hm.nx i c (by omega) (by show(i:Int)<d.2.2.1.length;omega) (by omega) (by show(c:Int)<d.2.1;omega);rw[x c M]at this;exact this
  generalize d.2.2.1[i]=row at H Y E x;refine Tt.loop (λm s=>∃(c:Nat)(b:List Bool),c<=row.length/\m=row.length-c/\s=((k:Int),(i:Int),(c:Int),d,b)/\b.length=N/\LeB a b/\(∀i,onB b i->Rch (dE d) (λi=>i=0) i)/\(a=b->∀p,p<i->∀j,onB a p->dE d p j->onB a j)/\(a=b->∀G:Nat,G<c->∀j:Nat,nxt d i G=j->onB a j)) row.length waa.fst.fst ⟨0,b,by omega,by omega,rfl,D,o,f,t,λ_ G h=>by omega⟩ λm s⟨c,b,M,c6,C,D,o,f,t,U⟩ nz b1=>?_;subst C;dsimp only;have K:i<b.length:=by omega
  refine Tt.J (λs=>s=((k:Int),(i:Int),(c:Int),(b[i] && decide (c<row.length)),d,b)) (λnu v=>?_) λs C=>?_
  ·rw[D];refine wac _ (qv a8) (wac _ (atN K) (wab (λA=>v _ ?_) λA=>v _ ?_))
   ·rw[A,wea];have:decide ((c:Int)<d.2.1)=decide (c<row.length):=by rw[wfo];omega
    rw[this]
   ·rw[A];rfl
  subst C;dsimp only;refine wab (λA=>?_) λA=>wad ?_
  ·simp only[wcl,wcy]at A;obtain⟨b2,B⟩:=A;have hq:=E c B;have L:=x c B;have X:onB b i:=by unfold onB;rw[wcf K,b2]
   refine Tt.J (λs=>∃F,s=((k:Int),(i:Int),(c:Int),d,F)/\F.length=N/\LeB b F/\(∀i,onB F i->Rch (dE d) (λi=>i=0) i)/\∀j:Nat,nxt d i c=j->onB F j) (λnu v=>?_) λs⟨F,C,a5,u,T,V⟩=>?_
   ·refine wac _ H (wac _ (atN B) (wab (λQ=>?_) λQ=>v _ ⟨b,rfl,D,LeB.refl b,f,λj g=>?_⟩))
    ·have Q:=wcd Q;obtain⟨z,hz⟩:∃z:Nat,row[c]=(z:Int):=⟨(row[c]).toNat,by omega⟩
     have y:z<b.length:=by omega
     refine wac _ H (wac _ (atN B) ?_);rw[hz];refine wac _ (qv y) (wac _ (zm true y) (v _ ⟨_,rfl,by simpa using D,LeB.set y,λj g=>?_,λj g=>?_⟩))
     ·rcases(J5 y).1 g with h|h
      ·subst h;exact .step (f i X) ⟨by show i<d.2.2.1.length;omega,c,by omega,by show(c:Int)<d.2.1;omega,by rw[L,hz]⟩
      ·exact f j h
     ·rw[L,hz]at g;exact(J5 y).2 (.inl (by omega))
    ·have Q:=wce Q;rw[L]at g;omega
   ·subst C;dsimp only;refine wad ?_;rw[wI (by omega) (by omega)];refine b1 (row.length-(c+1)) _ (by omega) ⟨c+1,F,by omega,rfl,rfl,a5,o.trans u,T,λe=>?_,λe G c0 j g=>?_⟩
    ·have:a=b:=o.antisymm (e▸u);exact t this
    ·have a3:a=b:=o.antisymm (e▸u);by_cases h:G=c
     ·subst h;rw[e];exact V j g
     ·exact U a3 G (by omega) j g
  ·rw[wI (by omega) (by omega)];refine(b0 (N-(i+1)) _ (by omega) ⟨i+1,b,by omega,rfl,rfl,D,o,f,λe p c5 j g Z=>?_⟩).fst;by_cases h:p=i
   ·subst h;obtain⟨h1,G,h0,h2,h3⟩:=Z;obtain⟨q,rfl⟩:=weh h0;have h2:(q:Int)<d.2.1:=h2;have a7:b[p]=true:=by
     rw[e]at g;unfold onB at g;rw[wcf K]at g;exact wdz g
    rw[a7,wea]at A;have A:=wce A;exact U e q (by omega) j h3
   ·exact t e p (by omega) j g Z
 ·have P:=wce P;refine wad ?_;rw[wI (by omega) (by omega)];have a1:Round (dE d) (λi=>i=0) a b:=⟨o,f,λe=>⟨λi hi=>by rw[hi];exact R,λp j g Z=>t e p (by have:=zwh g;omega) j g Z⟩⟩
  exact(a9 (N-(k+1)) _ (by omega) ⟨k+1,b,by omega,rfl,rfl,D,o.2 0 R,f,a1.next ha S⟩).fst
def LbR(d:jg)(x:Int):Prop:=∃i:Nat,onB (ze8 d.2.2.1.length (dE d) (λi=>i=0)) i/\d.2.2.2.1[i]?=some x/\0<=x
theorem n1{a b c:Nat}(h:a<b-c):c<b:=by omega
theorem n2{o k j:Nat}(h:o<=k)(a:j<=o):j+1+(o-j)<=k+1:=by omega
theorem zvo(l:List Int)(hl:l.length<=1000):Tn (λnn=>zhs nn l) (λr=>jy r/\∀x,x∈r↔x∈l):=by
 unfold zhs;refine Tt.loop (λm s=>∃(k:Nat)(o:List Int),k<=l.length/\m=l.length-k/\s=(l,(k:Int),o)/\o.length<=k/\jy o/\∀x,x∈o↔x∈l.take k) l.length waa ⟨0,_,by omega,by omega,rfl,by simp,List.Pairwise.nil,by simp⟩ λm s⟨k,o,hk,hm,g,O,e,d⟩ nx M=>?_;subst g;dsimp only;refine wab (λc=>?_) λc=>?_
 rotate_left
 ·have c:=wce c;have:k=l.length:=by omega
  rw[this,wc2]at d;exact Tt.pure ⟨e,d⟩
 have c:=wcd c;have E:k<l.length:=by omega
 have z:∀x,x∈l.take (k+1)↔x∈l.take k\/x=l[k]:=λx=>by rw[wcn E,wco,wci]
 refine Tt.J (λs=>∃o,s=(l,(k:Int),o)/\o.length<=k+1/\jy o/\∀x,x∈o↔x∈l.take (k+1)) (λny H=>?_) λs⟨o,g,S,T,W⟩=>?_
 rotate_left
 ·subst g;dsimp only;refine wad ?_;rw[wI (by omega) (by omega)];exact M (l.length-(k+1)) _ (by omega) ⟨k+1,o,by omega,rfl,rfl,S,T,W⟩
 refine wac _ (atN E) ?_;generalize l[k]=v at z;refine Waa (zbm o v (by omega)) waa.fst λr Z=>?_;subst Z;refine wab (λp=>H _ ⟨o,rfl,by omega,e,λx=>?_⟩) λp=>?_
 ·have p:=wcd p;rw[d,z];exact⟨.inl,λh=>h.elim id λh=>h▸(d v).1 p⟩
 have p:=wce p;refine Tt.loop (λm s=>∃(j:Nat),j<=o.length/\m=o.length-j/\s=(v,(j:Int),o,o.take j)/\∀y∈o.take j,y<v) o.length waa.fst ⟨0,by omega,by omega,rfl,by simp⟩ λm s⟨j,K,X,g,u⟩ nz N=>?_;subst g;dsimp only;refine Tt.J (λs=>∃b,s=(v,(j:Int),b,o,o.take j)/\(b=true↔∃h:j<o.length,o[j]<v)) (λnu G=>?_) λs⟨b,g,U⟩=>?_
 ·refine wad (wab (λf=>?_) λf=>G _ ⟨false,rfl,⟨λh=>(by cases h),λh=>?_⟩⟩)
  ·have f:=wcd f;have a:j<o.length:=by omega
   refine wac _ (qv a) (wac _ (atN a) (G _ ⟨_,rfl,?_⟩));rw[wcy];exact⟨λh=>⟨a,h⟩,λ⟨_,h⟩=>h⟩
  ·have f:=wce f;obtain⟨h,_⟩:=h;omega
 subst g;dsimp only;refine wab (λf=>?_) λf=>?_
 ·obtain⟨a,D⟩:=U.1 f;refine wac _ (qv a) (wac _ (atN a) (wac _ (yf (by simp;omega) (by omega)) (wad ?_)));rw[wI (by omega) (by omega)];have I:o.take (j+1)=o.take j++[o[j]]:=wcn a;refine N (o.length-(j+1)) _ (by omega) ⟨j+1,by omega,rfl,by rw[I];rfl,λy B=>?_⟩;rw[I]at B;rcases wco.1 B with h|h
  ·exact u y h
  ·rw[wci.1 h];exact D
 ·have F:∀y∈o.drop j,v<y:=λy B=>by
   obtain⟨q,P,rfl⟩:=wew B;rw[List.getElem_drop];rw[wdw]at P;have a:j<o.length:=n1 P;have S:¬o[j]<v:=λh=>by rw[U.2 ⟨a,h⟩]at f;cases f
   have T:o[j]≠v:=λh=>p (h▸wcm a);by_cases h:q=0
   ·subst h;simp only[wd5];omega
   ·have:=znk e (i:=j) (j:=j+q) (by omega) (by omega);omega
  refine wac _ (yf (by simp;omega) (by omega)) ?_;have n:(o.take j).length=j:=by simp[K]
  refine Tt.loop (λm s=>∃(q:Nat),j<=q/\q<=o.length/\m=o.length-q/\s=((q:Int),o,o.take j++[v]++(o.drop j).take (q-j))) (o.length-j) waa.fst.fst ⟨j,wcq _,K,rfl,by simp[n]⟩ λm s⟨q,t,P,Y,g⟩ nw L=>?_;subst g;dsimp only;refine wab (λC=>?_) λC=>?_
  ·have C:=wcd C;have w:q<o.length:=by omega
   have A:(o.drop j).take (q+1-j)=(o.drop j).take (q-j)++[o[q]]:=by
    rw[show q+1-j=(q-j)+1 from Nat.succ_sub t,wcn (by rw[wdw];exact Nat.sub_lt_sub_right t w),List.getElem_drop];congr 3;exact Nat.add_sub_cancel' t
   refine wac _ (qv w) (wac _ (atN w) (wac _ (yf (by simp;omega) (by omega)) (wad ?_)));rw[wI (by omega) (by omega)];exact L (o.length-(q+1)) _ (by omega) ⟨q+1,by omega,by omega,rfl,by rw[A];simp⟩
  ·have C:=wce C;have:q=o.length:=by omega
   have A:(o.drop j).take (q-j)=o.drop j:=wd4 (by rw[wdw,this];exact wcq _);rw[A];refine(Tt.fst (H _ ⟨_,rfl,by rw[wcu,wcu,wdw,n,wc5];exact n2 O K,?_,λx=>?_⟩)).fst
   ·unfold jy;rw[wc6,wer];have Q:(o.take j).Pairwise (· < ·):=wfe (List.take_sublist _ _) e;have R:(o.drop j).Pairwise (· < ·):=wfe (List.drop_sublist _ _) e;refine⟨Q,wd1.2 ⟨F,R⟩,λx V y B=>?_⟩;rcases wc1.1 B with h|h
    ·rw[h];exact u x V
    ·have:=u x V;have:=F y h;omega
   ·rw[z,<- d]
    conv=>rhs;rw[<- wdq j o]
    simp only[wco,wci];constructor
    ·rintro((h|h)|h)
     ·exact .inl (.inl h)
     ·exact .inr h
     ·exact .inl (.inr h)
    ·rintro((h|h)|h)
     ·exact .inl (.inl h)
     ·exact .inr h
     ·exact .inl (.inr h)
theorem zw4{d:jg}(G:Tn (λA=>yu A d) (λr=>r=true))(C:DSz d)(hm:MOk d):Tn (λA=>ya A d) (λr=>jy r/\∀x,x∈r↔LbR d x):=by
 have R:=C.n;have E:d.2.2.2.1.length=d.2.2.1.length:=hm.lab;unfold ya;refine Waa (zia G C hm) waa λr F=>?_;have K:r.length=d.2.2.1.length:=by rw[F,zez]
 refine Tt.loop (λm s=>∃(k:Nat)(l:List Int),k<=r.length/\m=r.length-k/\s=(r,(k:Int),d,l)/\l.length<=k/\∀x,x∈l↔∃i:Nat,i<k/\onB r i/\d.2.2.2.1[i]?=some x/\0<=x) r.length waa ⟨0,_,by omega,by omega,rfl,by simp,λx=>⟨λh=>by simp at h,λ⟨i,h,_⟩=>by omega⟩⟩ λm s⟨k,l,N,I,t,D,v⟩ O y=>?_;subst t;dsimp only;refine wab (λc=>?_) λc=>?_
 ·have c:=wcd c;have g:k<r.length:=by omega
  have b:k<d.2.2.2.1.length:=by omega
  refine Tt.J (λs=>∃l,s=(r,(k:Int),d,l)/\l.length<=k+1/\∀x,x∈l↔∃i:Nat,i<k+1/\onB r i/\d.2.2.2.1[i]?=some x/\0<=x) (λP o=>?_) λs⟨l,t,D,v⟩=>?_
  ·refine Tt.J (λs=>s=(r,(k:Int),(r[k] && decide (0<=d.2.2.2.1[k])),d,l)) (λQ p=>?_) λs t=>?_
   ·refine wac _ (atN g) (wab (λw=>wac _ (atN b) (p _ ?_)) λw=>p _ ?_)
    ·rw[w,wea]
    ·rw[w];rfl
   ·subst t;dsimp only;have u:∀{z:List Int},(∀x,x∈z↔x∈l\/(onB r k/\d.2.2.2.1[k]?=some x/\0<=x))->∀x,x∈z↔∃i:Nat,i<k+1/\onB r i/\d.2.2.2.1[i]?=some x/\0<=x:=λ{z}h x=>by
     rw[h,v];constructor
     ·rintro(⟨i,f,a⟩|a)
      ·exact⟨i,by omega,a⟩
      ·exact⟨k,by omega,a⟩
     ·rintro⟨i,f,a⟩;by_cases e:i=k
      ·subst e;exact .inr a
      ·exact .inl ⟨i,by omega,a⟩
    refine wab (λj=>?_) λj=>o _ ⟨l,rfl,by omega,u λx=>⟨.inl,λh=>h.elim id λ⟨f,a,B⟩=>?_⟩⟩
    ·simp only[wcl,wcy]at j;refine wac _ (atN b) (wac _ (yf (by simp;omega) (by omega)) (o _ ⟨_,rfl,by simp;omega,u λx=>?_⟩));rw[wco,wci];refine or_congr Iff.rfl ⟨λh=>?_,λ⟨f,a,B⟩=>?_⟩
     ·subst h;exact⟨by unfold onB;rw[wcf g,j.1],wcf b,j.2⟩
     ·rw[wcf b]at a;exact(wdz a).symm
    ·unfold onB at f;rw[wcf g]at f;rw[wcf b]at a;rw[wdz f,wdz a,wea]at j;exact absurd B (wce j)
  ·subst t;dsimp only;refine wad ?_;rw[wI (by omega) (by omega)];exact y (r.length-(k+1)) _ (by omega) ⟨k+1,_,by omega,rfl,rfl,D,v⟩
 ·have c:=wce c;have H:k=r.length:=by omega
  refine Waa (zvo l (by omega)) waa.fst λq⟨L,M⟩=>Tt.pure ⟨L,λx=>?_⟩;rw[M,v];unfold LbR;rw[<- F];constructor
  ·rintro⟨i,f,a⟩;exact⟨i,a⟩
  ·rintro⟨i,a⟩;exact⟨i,by have:=zwh a.1;omega,a⟩
theorem jmj(fd:List (List Int))(x:List Int): -1<=(Jk fd x).1/\(Jk fd x).1<((Jk fd x).2.length:Int):=by
 unfold Jk;split
 ·exact⟨by simp,by simp only;omega⟩
 ·split
  ·exact⟨by simp only;omega,by simp only[wcu,wc5];omega⟩
  ·have:=jdk (x:=x) (l:=fd) (i:=0);exact⟨by simp only;omega,by simp only;omega⟩
theorem jc4(sp:Nat->List Int):∀(cs:List Nat)(fd:List (List Int))(row:List Int),(∀y∈row, -1<=y/\y<(fd.length:Int))->(zsz sp cs fd row).2.length=row.length+cs.length/\∀y∈(zsz sp cs fd row).2, -1<=y/\y<((zsz sp cs fd row).1.length:Int)
 |[],fd,row,h=>⟨rfl,h⟩
 |c::cs,fd,row,h=>by
  have f:=ziw fd (sp c);have b:=jmj fd (sp c);obtain⟨d,e⟩:=jc4 sp cs (Jk fd (sp c)).2 (row++[(Jk fd (sp c)).1]) λy a=>by
   rcases wco.1 a with a|a
   ·have:=h y a;omega
   ·rw[wci.1 a];exact b
  refine⟨?_,e⟩;show(zsz sp cs (Jk fd (sp c)).2 (row++[(Jk fd (sp c)).1])).2.length=_;rw[d];simp;omega
structure RwOk(W:Nat)(n:Nat)(rows:List (List Int)):Prop where
 w:∀x∈rows,x.length=W
 b:∀x∈rows,∀y∈x, -1<=y/\y<(n:Int)
theorem z4u{start:Nat->List Int}{step:List Int->Nat->List Int}{tok:List Int->Int}{W:Nat}{c:Int}{P:Int->Prop}(k:∀l,P (tok l)):∀{f i:Nat}{fd rows:List (List Int)}{labs:List Int}{r:List (List Int)×List (List Int)×List Int},(fd.length:Int)<=c->rows.length=i->labs.length=i->i<=fd.length->RwOk W fd.length rows->(∀x∈labs,P x)->z7v start step tok W c f i fd rows labs=some (some r)->r.2.1.length=r.1.length/\r.2.2.length=r.1.length/\RwOk W r.1.length r.2.1/\∀x∈r.2.2,P x
 |0,_,_,_,_,_,_,_,_,_,_,_,h=>by cases h
 |f+1,i,fd,rows,labs,r,p,n,o,t,d,j,h=>by
  unfold z7v at h;by_cases m:i<fd.length
  ·rw[if_pos m,z3o _ _ _ _ _ p]at h;have u:=zno (zik start step fd i) (List.range W) fd [];obtain⟨q,s⟩:=jc4 (zik start step fd i) (List.range W) fd [] (by simp);by_cases e:((zsz (zik start step fd i) (List.range W) fd []).1.length:Int)<=c
   ·rw[if_pos e]at h;refine z4u k e (by simp[n]) (by simp[o]) (by omega) ⟨λx a=>?_,λx a y g=>?_⟩ (λx a=>?_) h
    ·rcases wco.1 a with a|a
     ·exact d.w x a
     ·rw[wci.1 a,q];simp
    ·rcases wco.1 a with a|a
     ·have:=d.b x a y g;omega
     ·rw[wci.1 a]at g;exact s y g
    ·rcases wco.1 a with a|a
     ·exact j x a
     ·rw[wci.1 a];exact k _
   ·rw[if_neg e]at h;cases h
  ·rw[if_neg m]at h;cases h;have:i=fd.length:=by omega
   exact⟨by simp only;omega,by simp only;omega,d,j⟩
theorem tokF_b{n:jk}{m t i:Int}(hm:0<=m)(b:∀x∈n.2.1,0<=x/\x<m)(d:n.2.1.length=n.1.length)(c : -1<=t/\t<m): -1<=ze9 n t i/\ze9 n t i<m:=by
 unfold ze9;split
 ·rename_i h;have a:i.toNat<n.2.1.length:=by omega
  have f:=b _ (wcm a);have e:n.2.1.getD i.toNat 0=n.2.1[i.toNat]:=by simp[List.getD,a]
  rw[e];split<;>omega
 ·exact c
theorem tokS_b{n:jk}{m:Int}(hm:0<=m)(c:∀x∈n.2.1,0<=x/\x<m)(b:n.2.1.length=n.1.length)(l:List Int): -1<=zkz n l/\zkz n l<m:=by
 unfold zkz;split
 ·have a:∀(l:List Int)(t:Int), -1<=t/\t<m -> -1<=l.foldl (ze9 n) t/\l.foldl (ze9 n) t<m:=by
   intro l;induction l with
   |nil=>intro t h;exact h
   |cons x l d=>intro t h;exact d _ (tokF_b hm c b h)
  exact a l (-1) ⟨by omega,by omega⟩
 ·exact⟨by omega,by omega⟩
theorem jhn{n:jk}{a:Arr 256 Int}{W:Nat}(y:W<=256){z:Int}(hz:1<=z){m:Int}(hm:0<=m)(u:∀x∈n.2.1,0<=x/\x<m)(t:n.2.1.length=n.1.length){r:List (List Int)×List (List Int)×List Int}(e:zly n a W z 202 0 [[]] [] []=some (some r)):MOk (a,(W:Int),r.2.1,r.2.2,())/\∀x∈r.2.2, -1<=x/\x<m:=by
 have e:z7v (λc=>zby n (zhd a c)) (λl c=>zgs n l (zhd a c)) (zkz n) W z 202 0 [[]] [] []=some (some r):=e;obtain⟨p,v,j,q⟩:=z4u (f:=202) (i:=0) (fd:=[[]]) (rows:=[]) (labs:=[]) (P:=λx=> -1<=x/\x<m) (tokS_b hm u t) (by simpa using hz) rfl rfl (by simp) ⟨λx g=>by simp at g,λx g=>by simp at g⟩ (λx g=>by simp at g) e;obtain⟨k,_⟩:=zwk (by simpa using hz) e;have k:1<=r.1.length:=k;refine⟨⟨?_,?_,?_,λi h0 h=>?_,λi c h0 h s d=>?_⟩,q⟩
 ·show 0<r.2.1.length;omega
 ·show r.2.2.length=r.2.1.length;omega
 ·show 0<=(W:Int)/\(W:Int)<=256;omega
 ·have:=j.w _ (zga h0 h);show(((at' r.2.1 i).length:Nat):Int)=(W:Int);have:(at' r.2.1 i).length=W:=this;omega
 ·have o:=j.w _ (zga h0 h);have o:(at' r.2.1 i).length=W:=o;have d:c<(W:Int):=d;have:=j.b _ (zga h0 h) _ (zga (l:=at' r.2.1 i) (z:=c) s (by omega));show -1<=at' (at' r.2.1 i) c/\at' (at' r.2.1 i) c<(r.2.1.length:Int);rw[p];exact this
theorem jln{n:jk}{a:Arr 256 Int}{W:Nat}(g:∃n,ClsN a n)(p:W<=256){z:Int}(hz:1<=z)(h:z<=200):DSz (jeb a (W:Int) (zly n a W z 202 0 [[]] [] [])).1:=by
 cases e:zly n a W z 202 0 [[]] [] []with
 |none=>exact DSz.zero
 |some o=>
  cases o with
  |none=>exact DSz.zero
  |some r=>
   have e:z7v (λc=>zby n (zhd a c)) (λl c=>zgs n l (zhd a c)) (zkz n) W z 202 0 [[]] [] []=some (some r):=e;obtain⟨j,k,d,_⟩:=z4u (f:=202) (i:=0) (fd:=[[]]) (rows:=[]) (labs:=[]) (P:=λ_=>True) (λ_=>trivial) (by simpa using hz) rfl rfl (by simp) ⟨λx b=>by simp at b,λx b=>by simp at b⟩ (λx b=>by simp at b) e;obtain⟨_,m⟩:=zwk (by simpa using hz) e;exact⟨g,⟨by show 0<=(W:Int);omega,by show(W:Int)<=256;omega⟩,by show r.2.1.length<=300;omega,by show r.2.2.length<=300;omega,λx b=>by have:=d.w x b;omega⟩
theorem zhj{L:List jd}(h:(jz L).1=0):∀d∈L,d.1=0:=by
 induction L with
 |nil=>simp
 |cons d l b=>
  unfold jz at h;by_cases c:d.1=0
  ·rw[if_pos c]at h;intro x a;rcases wc1.1 a with e|e
   ·rw[e];exact c
   ·exact b h x e
  ·rw[if_neg c]at h;exact absurd h c
theorem z5a{g:jb}(h:gFd g=zd):∀t∈g.1,Vx t.2.1=0:=λt f=>by
 have b:(gFd g).1=0:=by rw[h]
 unfold gFd at b;have c:=zhj b;obtain⟨i,e⟩:=wdc f;have a:=c (zlp g i t) (wco.2 (.inr (wco.2 (.inr (wco.2 (.inl (wck (i:=i) (by rw[zp1,wet,e];rfl))))))));unfold zlp at a;split at a
 ·simp at a
 split at a
 ·simp at a
 split at a
 ·simp at a
 ·rename_i d;exact wek.1 d
theorem jan{g:jb}(h:gFd g=zd):1<=g.2.2.2.2.1:=by
 have a:(gFd g).1=0:=by rw[h]
 unfold gFd at a;have d:=zhj a;have b:=d (if g.2.2.2.2.1<1\/4096<g.2.2.2.2.1 then(2,0,0,())else zd) (wco.2 (.inr (wco.2 (.inl (by
  have:szB g=(if g.2.2.2.2.1<1\/4096<g.2.2.2.2.1 then(2,0,0,())else zd)::(szB g).tail:=rfl;rw[this];simp)))))
 by_cases c:g.2.2.2.2.1<1\/4096<g.2.2.2.2.1
 ·rw[if_pos c]at b;cases b
 ·omega
theorem zry(g:jb)(l:List ji)(r:l.length<=1000000)(i:∀x∈l,zao g x):Tn (λp=>Zr p g l) (λb=>b=true):=by
 unfold Zr;refine Tt.loop (λm s=>∃d:Nat,d<=l.length/\m=l.length-d/\s=(l,(d:Int),g)) l.length waa ⟨0,by omega,by omega,rfl⟩ λm s⟨d,q,t,k⟩ u j=>?_;subst k;dsimp only;refine wab (λc=>?_) λc=>Tt.pure rfl;have c:=wcd c;have f:d<l.length:=by omega
 have a:=atN f;obtain⟨o,n⟩:=i _ (wcm f);generalize l[d]=x at a o n;refine Tt.J (λs=>s=(l,(d:Int),false,g)) (λv h=>?_) λs k=>?_
 ·refine wac _ a (wad (wae (wcw (by omega)) (wac _ a (wab (λe=>?_) λe=>?_))))
  ·rw[if_pos e]at n;refine wac _ a (wae (wcw (by omega)) (wac _ a (wad (wae (by rw[e];rfl) (h _ rfl)))))
  ·rw[if_neg (by rw[e];simp)]at n;refine wac _ a (wad (wah (by rw[e];rfl) (wac _ a (h _ ?_))));rw[wcw (by omega)]
 ·subst k;refine wae rfl (wad ?_);dsimp only;rw[wI (by omega) (by omega)];exact j (l.length-(d+1)) _ (by omega) ⟨d+1,by omega,rfl,rfl⟩
theorem jjc{g:jb}{em:List Bool}{al:List (List Int)}(a:FSn g em al){t:Int}:∀{l:List ji},inF em al t l->FiL em g.2.2.1 t l
 |[],h=>h.elim
 |x::l,h=>by
  unfold inF at h;by_cases c:x.1=true
  ·rw[if_pos c]at h;rcases h with h|⟨b,d⟩
   ·obtain⟨p,i,e,f⟩:=a _ t h;exact .rule c i e f
   ·exact .skip c b (jjc a d)
  ·rw[if_neg c]at h;exact .tok (by simpa using c) h
theorem zul{g:jb}{em:List Bool}{al:List (List Int)}(d:∀l∈al,RN g.1.length l){t:Int}:∀{l:List ji},(∀x∈l,zao g x)->inF em al t l->0<=t/\t<(g.1.length:Int)
 |[],_,h=>h.elim
 |x::l,a,h=>by
  unfold inF at h;by_cases c:x.1=true
  ·rw[if_pos c]at h;rcases h with h|⟨_,e⟩
   ·by_cases hz:x.2.1.toNat<al.length
    ·have:al.getD x.2.1.toNat []=al[x.2.1.toNat]:=by simp[List.getD,hz]
     rw[this]at h;exact(d _ (wcm hz)).b t h
    ·have:al.getD x.2.1.toNat []=[]:=by simp[List.getD,hz]
     rw[this]at h;cases h
   ·exact zul d (λy f=>a y (by simp[f])) e
  ·rw[if_neg c]at h;obtain⟨j,i⟩:=a x (by simp);rw[if_neg c]at i;omega
theorem zvg(g:jb)(P:zc4 g)(hz:gFd g=zd)(n:GOk g)(em:List Bool)(al:List (List Int))(N:Tn (λd=>zz d g) (λr=>r=em))(y:em.length=g.2.1.length)(G:∀p∈g.2.2.1,fiC em al p)(H:FRn g em al)(l:List ji)(L:l.length<=1000000)(f:∀x∈l,zao g x):Tn (λd=>zbv d g l) (λr=>RN g.1.length r/\∀t,t∈r↔inF em al t l):=by
 have ht:=n.t;have hr:=n.r;have M:∀i:Nat,Tn (λd=>q9 d d (g,em,l,(i:Int),List.replicate g.2.1.length false)) (λw=>w.1=true↔inF em al (i:Int) l):=λi=>by
  have a:Tn (λd=>q9 d d (g,em,l,(i:Int),List.replicate g.2.1.length false)) (StQ g em al (i:Int) l (List.replicate g.2.1.length false)):=zi0 (zxz g n em al y G (i:Int) (yd (List.replicate g.2.1.length false)+1) l (List.replicate g.2.1.length false) (wfd _) (by simp) f L);have q:Tn (λd=>q9 d d (g,em,l,(i:Int),List.replicate g.2.1.length false)) (StX g em (i:Int) l (List.replicate g.2.1.length false)):=zi0 (zrv g n em y (i:Int) (yd (List.replicate g.2.1.length false)+1) l (List.replicate g.2.1.length false) (wfd _) (by simp) f L);refine Tt.mono (wbt a q) λw⟨⟨_,_,U⟩,V⟩=>⟨U,λh=>weu λE=>?_⟩
  obtain⟨W,X⟩:=V.s (by simpa using E);refine jop (λp S=>(n.left p S).1) (λj Q=>?_) (jjc H.s h) W;rcases X j Q with v|v
  ·rw[wdf]at v;split at v<;>cases v
  ·exact v
 unfold zbv;refine Tt.J (λs=>s=(l,false,g,[])) (λY u=>?_) λs A=>?_
 ·refine Waa (Z7 g P) waa λb I=>?_;have K:=I.2 hz;subst K;refine wad (wae rfl (Waa (zry g l L f) waa λb I=>u _ ?_));subst I;rfl
 ·subst A;refine wae rfl (Waa N waa λe O=>?_);subst O;refine Tt.loop (λm s=>∃(i:Nat)(k:List Int),i<=g.1.length/\m=g.1.length-i/\s=(l,e,(i:Int),g,k)/\RN g.1.length k/\∀t,t∈k↔inF e al t l/\t<(i:Int)) g.1.length waa ⟨0,[],by omega,by omega,rfl,RN.nil _,λt=>⟨λh=>(by cases h),λ⟨a,q⟩=>by have:=zul H.r f a;omega⟩⟩ λm s⟨i,k,Z,hm,A,D,o⟩ Y u=>?_;subst A;dsimp only;refine wab (λc=>?_) λc=>Tt.pure ⟨D,λt=>?_⟩
  ·have c:=wcd c;refine Tt.J (λs=>∃B,s=(l,e,(i:Int),g,B)/\RN g.1.length B/\∀t,t∈B↔inF e al t l/\t<(i:Int)+1) (λny z=>?_) λs⟨B,A,a,q⟩=>?_
   ·refine wad (wac _ (mkN (by omega) (by omega)) ?_);refine Waa (M i) waa.fst λw E=>?_;have R:=D.len;refine wab (λC=>wac _ (yf (by simp;omega) (by omega)) (z _ ⟨_,rfl,D.snoc (by omega) λx T=>((o x).1 T).2,λt=>?_⟩)) λC=>z _ ⟨_,rfl,D,λt=>?_⟩
    ·rw[wco,wci,o];constructor
     ·rintro(⟨a,q⟩|rfl)
      ·exact⟨a,by omega⟩
      ·exact⟨E.1 C,by omega⟩
     ·rintro⟨a,q⟩;by_cases F:t=(i:Int)
      ·exact .inr F
      ·exact .inl ⟨a,by omega⟩
    ·rw[o];constructor
     ·rintro⟨a,q⟩;exact⟨a,by omega⟩
     ·rintro⟨a,q⟩;refine⟨a,?_⟩;by_cases F:t=(i:Int)
      ·subst F;rw[E.2 a]at C;cases C
      ·omega
   ·subst A;dsimp only;refine wad ?_;rw[wI (by omega) (by omega)];exact u (g.1.length-(i+1)) _ (by omega) ⟨i+1,B,by omega,rfl,rfl,a,λt=>by rw[q];rfl⟩
  ·have c:=wce c;rw[o];exact⟨λh=>h.1,λh=>⟨h,by have:=zul H.r f h;omega⟩⟩
theorem n3{o k j n:Nat}(h:o<=k+n)(a:j<=o):j+1+(o-j)<=k+1+n:=by omega
theorem zjq{n:Nat}(hn:n<=1000){P l:List Int}(h0:RN n P)(C:RN n l):Tn (λnn=>Qh nn P l) (λr=>RN n r/\∀x,x∈r↔x∈P\/x∈l):=by
 have hl:=C.len;have a7:=h0.len;unfold Qh;refine Tt.bind (R:=λr=>(jy r/\∀x,x∈r↔x∈P)/\r.length<=1000) ?_ λS⟨⟨a0,I⟩,a5⟩=>?_
 ·refine Tt.mono (Tt.call (zvo P (by omega)) waa) λr⟨T,O⟩=>⟨⟨T,O⟩,?_⟩
  have:=(RN.len (n:=n) ⟨T,λx D=>h0.b x ((O x).1 D)⟩)
  omega
 refine Tt.mono (Q:=λr=>jy r/\∀x,x∈r↔x∈S\/x∈l) ?_ λr⟨T,O⟩=>⟨⟨T,λx D=>?_⟩,λx=>by rw[O,I]⟩
 rotate_left
 ·rcases(O x).1 D with h|h
  ·exact h0.b x ((I x).1 h)
  ·exact C.b x h
 clear C;refine Tt.loop (λm s=>∃(k:Nat)(o:List Int),k<=l.length/\m=l.length-k/\s=(l,(k:Int),o)/\o.length<=k+S.length/\jy o/\∀x,x∈o↔x∈S\/x∈l.take k) l.length waa ⟨0,_,by omega,by omega,rfl,by omega,a0,by simp⟩ λm s⟨k,o,hk,hm,g,Y,d,f⟩ nx W=>?_;subst g;dsimp only;refine wab (λc=>?_) λc=>?_
 rotate_left
 ·have c:=wce c;have:k=l.length:=by omega
  rw[this,wc2]at f;exact Tt.pure ⟨d,f⟩
 have c:=wcd c;have H:k<l.length:=by omega
 have A:∀x,x∈l.take (k+1)↔x∈l.take k\/x=l[k]:=λx=>by rw[wcn H,wco,wci]
 refine Tt.J (λs=>∃o,s=(l,(k:Int),o)/\o.length<=k+1+S.length/\jy o/\∀x,x∈o↔x∈S\/x∈l.take (k+1)) (λny M=>?_) λs⟨o,g,C,h2,h3⟩=>?_
 rotate_left
 ·subst g;dsimp only;refine wad ?_;rw[wI (by omega) (by omega)];exact W (l.length-(k+1)) _ (by omega) ⟨k+1,o,by omega,rfl,rfl,C,h2,h3⟩
 refine wac _ (atN H) ?_;generalize l[k]=v at A;refine Waa (zbm o v (by omega)) waa.fst λr hr=>?_;subst hr;refine wab (λt=>M _ ⟨o,rfl,by omega,d,λx=>?_⟩) λt=>?_
 ·have t:=wcd t;rw[A,<- or_assoc,<- f];exact⟨.inl,λh=>h.elim id λh=>h▸t⟩
 have t:=wce t;refine Tt.loop (λm s=>∃(j:Nat),j<=o.length/\m=o.length-j/\s=(v,(j:Int),o,o.take j)/\∀y∈o.take j,y<v) o.length waa.fst ⟨0,by omega,by omega,rfl,by simp⟩ λm s⟨j,U,a8,g,w⟩ nz X=>?_;subst g;dsimp only;refine Tt.J (λs=>∃b,s=(v,(j:Int),b,o,o.take j)/\(b=true↔∃h:j<o.length,o[j]<v)) (λnu L=>?_) λs⟨b,g,hb⟩=>?_
 ·refine wad (wab (λe=>?_) λe=>L _ ⟨false,rfl,⟨λh=>(by cases h),λh=>?_⟩⟩)
  ·have e:=wcd e;have a:j<o.length:=by omega
   refine wac _ (qv a) (wac _ (atN a) (L _ ⟨_,rfl,?_⟩));rw[wcy];exact⟨λh=>⟨a,h⟩,λ⟨_,h⟩=>h⟩
  ·have e:=wce e;obtain⟨h,_⟩:=h;omega
 subst g;dsimp only;refine wab (λe=>?_) λe=>?_
 ·obtain⟨a,G⟩:=hb.1 e;refine wac _ (qv a) (wac _ (atN a) (wac _ (yf (by simp;omega) (by omega)) (wad ?_)));rw[wI (by omega) (by omega)];have N:o.take (j+1)=o.take j++[o[j]]:=wcn a;refine X (o.length-(j+1)) _ (by omega) ⟨j+1,by omega,rfl,by rw[N];rfl,λy E=>?_⟩;rw[N]at E;rcases wco.1 E with h|h
  ·exact w y h
  ·rw[wci.1 h];exact G
 ·have K:∀y∈o.drop j,v<y:=λy E=>by
   obtain⟨q,Z,rfl⟩:=wew E;rw[List.getElem_drop];rw[wdw]at Z;have a:j<o.length:=n1 Z;have C:¬o[j]<v:=λh=>by rw[hb.2 ⟨a,h⟩]at e;cases e
   have h2:o[j]≠v:=λh=>t (h▸wcm a);by_cases h:q=0
   ·subst h;simp only[wd5];omega
   ·have:=znk d (i:=j) (j:=j+q) (by omega) (by omega);omega
  refine wac _ (yf (by simp;omega) (by omega)) ?_;have p:(o.take j).length=j:=by simp[U]
  refine Tt.loop (λm s=>∃(q:Nat),j<=q/\q<=o.length/\m=o.length-q/\s=((q:Int),o,o.take j++[v]++(o.drop j).take (q-j))) (o.length-j) waa.fst.fst ⟨j,wcq _,U,rfl,by simp[p]⟩ λm s⟨q,u,Z,a9,g⟩ nw V=>?_;subst g;dsimp only;refine wab (λF=>?_) λF=>?_
  ·have F:=wcd F;have z:q<o.length:=by omega
   have B:(o.drop j).take (q+1-j)=(o.drop j).take (q-j)++[o[q]]:=by
    rw[show q+1-j=(q-j)+1 from Nat.succ_sub u,wcn (by rw[wdw];exact Nat.sub_lt_sub_right u z),List.getElem_drop];congr 3;exact Nat.add_sub_cancel' u
   refine wac _ (qv z) (wac _ (atN z) (wac _ (yf (by simp;omega) (by omega)) (wad ?_)));rw[wI (by omega) (by omega)];exact V (o.length-(q+1)) _ (by omega) ⟨q+1,by omega,by omega,rfl,by rw[B];simp⟩
  ·have F:=wce F;have:q=o.length:=by omega
   have B:(o.drop j).take (q-j)=o.drop j:=wd4 (by rw[wdw,this];exact wcq _);rw[B];refine(Tt.fst (M _ ⟨_,rfl,by rw[wcu,wcu,wdw,p,wc5];exact n3 Y U,?_,λx=>?_⟩)).fst
   ·unfold jy;rw[wc6,wer];have a1:(o.take j).Pairwise (· < ·):=wfe (List.take_sublist _ _) d;have a2:(o.drop j).Pairwise (· < ·):=wfe (List.drop_sublist _ _) d;refine⟨a1,wd1.2 ⟨K,a2⟩,λx D y E=>?_⟩;rcases wc1.1 E with h|h
    ·rw[h];exact w x D
    ·have:=w x D;have:=K y h;omega
   ·rw[A,<- or_assoc,<- f]
    conv=>rhs;rw[<- wdq j o]
    simp only[wco,wci];constructor
    ·rintro((h|h)|h)
     ·exact .inl (.inl h)
     ·exact .inr h
     ·exact .inl (.inr h)
    ·rintro((h|h)|h)
     ·exact .inl (.inl h)
     ·exact .inr h
     ·exact .inl (.inr h)
theorem sliD'{α:Type}{l:List α}{k:Nat}(h:k<=l.length):zk0 l (some (k:Int)) none=some (l.drop k):=by
 unfold zk0 bdN;simp[h]
structure EmA(g:jb)(em:List Bool)(al:List (List Int)):Prop where
 e:Tn (λnn=>zz nn g) (λr=>r=em)
 l:em.length=g.2.1.length
 f:∀p∈g.2.2.1,fiC em al p
structure FoS(g:jb)(B out:List (List Int)):Prop where
 l:out.length=g.2.1.length
 n:∀r∈out,RN (g.1.length+1) r
 s:∀i:Nat,∀t∈out.getD i [],t∈B.getD i []
theorem FoS.at{g:jb}{B out:List (List Int)}(h:FoS g B out){i:Nat}(hi:i<out.length):RN (g.1.length+1) out[i]/\∀t∈out[i],t∈B.getD i []:=by
 refine⟨h.n _ (wcm hi),λt a=>h.s i t ?_⟩;simpa [List.getD,hi]using a
theorem FoS.set{g:jb}{B out:List (List Int)}(h:FoS g B out){i:Nat}{r:List Int}(c:RN (g.1.length+1) r)(d:∀t∈r,t∈B.getD i []):FoS g B (out.set i r):=by
 refine⟨by rw[web];exact h.l,λx f=>?_,λj t a=>?_⟩
 ·rcases wd9 f with b|b
  ·exact h.n x b
  ·rw[b];exact c
 ·simp only[List.getD,wc8]at a;split at a
  ·rename_i e;subst e;split at a
   ·exact d t a
   ·cases a
  ·exact h.s j t a
theorem z7c(g:jb)(u:zc4 g)(hz:gFd g=zd)(em:List Bool)(q:Tn (λo=>zz o g) (λr=>r=em))(k:em.length=g.2.1.length)(l:List ji)(p:l.length<=1000000)(d:∀x∈l,zao g x):Tn (λo=>zah o g l) (λb=>b=true↔∀x∈l,x.1=true/\em[x.2.1.toNat]?=some true):=by
 unfold zah;refine Tt.J (λb=>b=true↔∀x∈l,x.1=true/\em[x.2.1.toNat]?=some true) (λy m=>?_) λs w=>Tt.pure w;refine Waa (Z7 g u) waa λb c=>?_;have j:=c.2 hz;subst j;refine wah rfl (Waa (zry g l p d) waa λb c=>?_);subst c;refine wah rfl (Waa q waa λe t=>?_);subst t;refine Waa (jcq g l e false p k d) waa λb c=>m _ (Iff.trans c ?_);constructor
 ·intro h x n;obtain⟨f,i⟩:=h x n;have a:x.1=true:=by
   cases v:x.1 with
   |true=>rfl
   |false=>exact absurd (i v) (by simp)
  exact⟨a,f a⟩
 ·intro h x n;obtain⟨f,i⟩:=h x n;exact⟨λ_=>i,λa=>by rw[f]at a;cases a⟩
structure EmX(g:jb)(em:List Bool)(al:List (List Int)):Prop extends EmA g em al where
 x:FRn g em al
theorem jag(g:jb)(i:zc4 g)(hz:gFd g=zd)(a:GOk g){em:List Bool}{al:List (List Int)}(c:EmX g em al){p:jh}(j:p∈g.2.2.1){k:Nat}(u:k<p.2.1.length):Tn (λo=>zag o g p (k:Int)) (λr=>RN g.1.length r.1/\(∀t,t∈r.1↔inF em al t (p.2.1.drop (k+1)))/\(r.2.1=true↔∀x∈p.2.1.drop (k+1),x.1=true/\em[x.2.1.toNat]?=some true)):=by
 have v:=a.len p j;have d:∀x∈p.2.1.drop (k+1),zao g x:=λx n=>a.items p j x (we9 n);have h:(p.2.1.drop (k+1)).length<=1000000:=by rw[wdw];omega
 unfold zag;rw[wI (by omega) (by omega)];refine wac _ (sliD' (k:=k+1) (by omega)) ?_;refine Waa (zvg g i hz a em al c.e c.l c.f c.x _ h d) waa λr⟨q,s⟩=>?_;exact Waa (z7c g i hz em c.e c.l _ h d) waa λb m=>Tt.pure ⟨q,s,m⟩
theorem jc3(T:Nat):∀l:List (List Int),J4 T l<=l.length*T
 |[]=>by simp[J4]
 |a::l=>by
  have:=jc3 T l;simp only[J4,wdy,wfw];omega
theorem jba(g:jb)(hg:zc4 g)(hz:gFd g=zd)(F:GOk g){em re:List Bool}{al B:List (List Int)}(hA:EmX g em al)(d3:Tn (λnn=>yn nn g) (λr=>r=re))(k0:re.length=g.2.1.length)(Y:(g.1.length:Int)∈B.getD g.2.2.2.1.toNat [])(c7:∀p∈g.2.2.1,re[p.1.toNat]?=some true->foC em al B p):Tn (λnn=>Q5 nn g) (λo=>FoS g B o/\(g.1.length:Int)∈o.getD g.2.2.2.1.toNat []/\∀p∈g.2.2.1,re[p.1.toNat]?=some true->foC em al o p):=by
 have ht:=F.t;have hr:=F.r;have hp:=F.p;unfold Q5;refine Waa (Z7 g hg) waa λb hb=>?_;have d4:=hb.2 hz;subst d4;refine wae rfl (Waa d3 waa λw hw=>?_);subst hw;refine Tt.loop (λm s=>∃(d:Nat),d<=g.2.1.length/\m=g.2.1.length-d/\s=(w,(d:Int),g,List.replicate d ([]:List Int))) g.2.1.length waa ⟨0,by omega,by omega,rfl⟩ λm s⟨d,hd,hm,G⟩ nx f6=>?_;subst G;dsimp only;refine wab (λc=>?_) λc=>?_
 ·have c:=wcd c;refine wac _ (yf (by simp;omega) (by omega)) (wad ?_);rw[wI (by omega) (by omega)];exact f6 (g.2.1.length-(d+1)) _ (by omega) ⟨d+1,by omega,rfl,by rw[List.replicate_succ'];rfl⟩
 have c:=wce c;have d6:d=g.2.1.length:=by omega
 subst d6;obtain⟨st,g2⟩:∃st:Nat,g.2.2.2.1=st:=⟨g.2.2.2.1.toNat,by have:=F.start;omega⟩
 have g1:=F.start.2;rw[g2]at g1 Y⊢;rw[wcx]at Y⊢;have R:st<(List.replicate g.2.1.length ([]:List Int)).length:=by simp;omega
 refine wac _ (qv R) (wac _ (zm _ R) ?_);have h0:FoS g B (List.replicate g.2.1.length []):=⟨by simp,λr h=>by rw[List.eq_of_mem_replicate h];exact RN.nil _,λi t h=>by
  simp only[List.getD,wdf]at h;split at h<;>cases h⟩
 have h0:=h0.set (i:=st) (r:=[(g.1.length:Int)]) (RN.one (by omega) (by omega)) λt h=>by rw[wci.1 h];exact Y
 have h1:(g.1.length:Int)∈((List.replicate g.2.1.length ([]:List Int)).set st [(g.1.length:Int)]).getD st []:=by
  simp only[List.getD,wc8];simp at R;simp[R]
 generalize (List.replicate g.2.1.length ([]:List Int)).set st [(g.1.length:Int)]=o0 at h0 h1⊢;refine Tt.J (λo=>FoS g B o/\(g.1.length:Int)∈o.getD st []/\∀p∈g.2.2.1,w[p.1.toNat]?=some true->foC em al o p) (λnf f0=>?_) λs G=>Tt.pure G;obtain⟨M,hM⟩:∃M:Nat,M=g.2.1.length*(g.1.length+1):=⟨_,rfl⟩
 have g9:M<=5000:=by
  rw[hM];exact wdk (Nat.mul_le_mul hr (Nat.succ_le_succ ht)) (by decide)
 have a2:∀o,FoS g B o->J4 (g.1.length+1) o<=M:=λo H=>by
  have:=jc3 (g.1.length+1) o;rwa [H.l,<- hM]at this
 have d2:T.w64 ((g.2.1.length:Int)*T.w64 ((g.1.length:Int)+1))=(M:Int):=by
  have e:(g.2.1.length:Int)*((g.1.length:Int)+1)=(M:Int):=by rw[hM];simp
  rw[wI (z:=(g.1.length:Int)+1) (by omega) (by omega),e,wI (by omega) (by omega)]
 refine Tt.loop (λm s=>∃(n:Nat)(o:List (List Int)),m=M+1-n/\s=(w,(n:Int),g,o)/\FoS g B o/\(g.1.length:Int)∈o.getD st []/\n+J4 (g.1.length+1) o<=M) (M+1) waa.fst ⟨0,o0,by omega,rfl,h0,h1,by have:=a2 o0 h0;omega⟩ λm s⟨n,C,hm,G,g0,d7,j7⟩ ny f7=>?_;subst G;dsimp only;rw[d2];refine wah (wc9 (by omega)) ?_;refine Tt.loop (λm s=>∃(fr:Bool)(i:Nat)(o:List (List Int)),i<=g.2.2.1.length/\m=g.2.2.1.length-i/\s=(w,(n:Int),fr,(i:Int),g,o)/\FoS g B o/\(g.1.length:Int)∈o.getD st []/\(fr=true->J4 (g.1.length+1) o<J4 (g.1.length+1) C)/\(fr=false->o=C/\∀(j:Nat)(p:jh),j<i->g.2.2.1[j]?=some p->w[p.1.toNat]?=some true->foC em al C p)) g.2.2.1.length waa.fst.fst ⟨false,0,C,by omega,by omega,rfl,g0,d7,λh=>(by cases h),λ_=>⟨rfl,λj p h=>by omega⟩⟩ λm s⟨fr,i,o,hi,hm,G,H,D,E,a⟩ nz f8=>?_;subst G;dsimp only;refine wab (λc2=>?_) λc2=>wab (λI=>?_) λI=>wad ?_
 rotate_left
 ·have c2:=wce c2;have hf:fr=false:=by simpa using I
  obtain⟨rfl,d5⟩:=a hf;refine(f0 _ ⟨H,D,λp N hw=>?_⟩).fst.fst;obtain⟨j,hj⟩:=wdc N;exact d5 j p (by have:=(wcg.1 hj).1;omega) hj hw
 ·have hf:fr=true:=by simpa using I
  have:=E hf;rw[wI (by omega) (by omega)];exact(f7 (M+1-(n+1)) _ (by omega) ⟨n+1,o,rfl,rfl,H,D,by omega⟩).fst
 have c2:=wcd c2;have a0:i<g.2.2.1.length:=by omega
 have A:g.2.2.1[i]∈g.2.2.1:=wcm a0;have b0:g.2.2.1[i]?=some g.2.2.1[i]:=wcf a0;refine wac _ (atN a0) ?_;generalize g.2.2.1[i]=p at A b0⊢;obtain⟨l0,l1⟩:=F.left p A;have j8:=F.len p A;obtain⟨q,hq⟩:∃q:Nat,p.1=q:=⟨p.1.toNat,by omega⟩
 have a1:q<w.length:=by omega
 refine Tt.loop (λm s=>∃(fr:Bool)(k:Nat)(o:List (List Int)),k<=p.2.1.length/\m=p.2.1.length-k/\s=(w,(n:Int),fr,(i:Int),(k:Int),g,o,p)/\FoS g B o/\(g.1.length:Int)∈o.getD st []/\(fr=true->J4 (g.1.length+1) o<J4 (g.1.length+1) C)/\(fr=false->o=C/\(∀(j:Nat)(p:jh),j<i->g.2.2.1[j]?=some p->w[p.1.toNat]?=some true->foC em al C p)/\∀(j:Nat)(x:ji),j<k->p.2.1[j]?=some x->x.1=true->∀t,inT em al (C.getD p.1.toNat []) t (p.2.1.drop (j+1))->t∈C.getD x.2.1.toNat [])) p.2.1.length waa.fst.fst.fst ⟨fr,0,o,by omega,by omega,rfl,H,D,E,λh=>⟨(a h).1,(a h).2,λj x h=>by omega⟩⟩ λm s⟨fr,k,o,hk,hm,G,H,D,E,a⟩ nw f1=>?_;subst G;dsimp only;refine Tt.J (λs=>∃b,s=(w,(n:Int),fr,(i:Int),(k:Int),b,g,o,p)/\(b=true↔k<p.2.1.length/\w[q]?=some true)) (λnu b3=>?_) λs⟨b,G,hb⟩=>?_
 ·rw[hq];refine wac _ (atN a1) (wab (λI=>b3 _ ⟨_,rfl,?_⟩) λI=>b3 _ ⟨_,rfl,?_⟩)
  ·rw[wcf a1,I,wcy];simp
  ·rw[wcf a1,I];simp
 subst G;dsimp only;refine wab (λI=>?_) λI=>wad ?_
 rotate_left
 ·rw[wI (by omega) (by omega)];refine(f8 (g.2.2.1.length-(i+1)) _ (by omega) ⟨fr,i+1,o,by omega,rfl,rfl,H,D,E,λh=>⟨(a h).1,λj p2 hj N hw=>?_⟩⟩).fst;obtain⟨_,f2,f3⟩:=a h;by_cases e6:j<i
  ·exact f2 j p2 e6 N hw
  ·have:j=i:=by omega
   subst this;rw[b0]at N;cases N;rw[hq,wcx]at hw;have K:¬k<p.2.1.length:=λe8=>by rw[hb.2 ⟨e8,hw⟩]at I;cases I
   exact λj2 x hx=>f3 j2 x (by have:=(wcg.1 hx).1;omega) hx
 obtain⟨K,g4⟩:=hb.1 I;have d9:=c7 p A (by rw[hq,wcx];exact g4);have Z:p.2.1[k]?=some p.2.1[k]:=wcf K;have b6:=F.items p A _ (wcm K);have a7:=atN K;generalize p.2.1[k]=x at Z b6 a7;refine Tt.J (λs=>∃(fr:Bool)(o:List (List Int)),s=(w,(n:Int),fr,(i:Int),(k:Int),g,o,p)/\FoS g B o/\(g.1.length:Int)∈o.getD st []/\(fr=true->J4 (g.1.length+1) o<J4 (g.1.length+1) C)/\(fr=false->o=C/\(∀(j:Nat)(p:jh),j<i->g.2.2.1[j]?=some p->w[p.1.toNat]?=some true->foC em al C p)/\∀(j:Nat)(x:ji),j<k+1->p.2.1[j]?=some x->x.1=true->∀t,inT em al (C.getD p.1.toNat []) t (p.2.1.drop (j+1))->t∈C.getD x.2.1.toNat [])) (λnv b4=>?_) λs⟨fr,o,G,H,D,E,a⟩=>?_
 rotate_left
 ·subst G;dsimp only;refine wad ?_;rw[wI (by omega) (by omega)];exact f1 (p.2.1.length-(k+1)) _ (by omega) ⟨fr,k+1,o,by omega,rfl,rfl,H,D,E,a⟩
 have U:(x.1=true->∀t,inT em al (C.getD p.1.toNat []) t (p.2.1.drop (k+1))->t∈C.getD x.2.1.toNat [])->(∀(j:Nat)(x:ji),j<k->p.2.1[j]?=some x->x.1=true->∀t,inT em al (C.getD p.1.toNat []) t (p.2.1.drop (j+1))->t∈C.getD x.2.1.toNat [])->∀(j:Nat)(x:ji),j<k+1->p.2.1[j]?=some x->x.1=true->∀t,inT em al (C.getD p.1.toNat []) t (p.2.1.drop (j+1))->t∈C.getD x.2.1.toNat []:=λh1 X j y hj hy=>by
  by_cases e7:j<k
  ·exact X j y e7 hy
  ·have:j=k:=by omega
   subst this;rw[Z]at hy;cases hy;exact h1
 refine wac _ a7 (wab (λW=>b4 _ ⟨_,_,rfl,H,D,E,λh=>⟨(a h).1,(a h).2.1,U (λX=>by rw[X]at W;cases W) (a h).2.2⟩⟩) λW=>?_);have W:x.1=true:=by simpa using W
 obtain⟨i1,i2⟩:=b6;rw[if_pos W]at i2;obtain⟨z,S⟩:∃z:Nat,x.2.1=z:=⟨x.2.1.toNat,by omega⟩
 have f:z<o.length:=by rw[H.l];omega
 have Q:q<o.length:=by rw[H.l];omega
 have e0:∀t,inT em al (B.getD q []) t (p.2.1.drop (k+1))->t∈B.getD z []:=λt h=>by
  have:=d9 k x Z W t (by rw[hq,wcx];exact h);rwa [S,wcx]at this
 refine Waa (jag g hg hz F hA A K) waa.fst.fst.fst.fst λr⟨r1,r2,r3⟩=>?_;obtain⟨g6,g7⟩:=H.at Q;refine Tt.J (λs=>∃u:List Int,s=(w,(n:Int),fr,(i:Int),(k:Int),u,g,o,p,x)/\RN (g.1.length+1) u/\∀t,t∈u↔inT em al o[q] t (p.2.1.drop (k+1))) (λna b1=>?_) λs⟨u,G,hu,b5⟩=>?_
 ·refine wab (λcv=>?_) λcv=>b1 _ ⟨_,rfl,r1.up (by omega),λt=>by
   rw[zfq,r2];exact⟨.inl,λh=>h.elim id λh=>by rw[r3.2 h.1]at cv;cases cv⟩⟩
  rw[hq];refine wac _ (qv Q) (wac _ (atN Q) ?_);refine Waa (zjq (n:=g.1.length+1) (by omega) (r1.up (by omega)) g6) waa.fst.fst.fst.fst λv⟨v1,v2⟩=>b1 _ ⟨_,rfl,v1,λt=>?_⟩;rw[v2,zfq,r2];exact⟨λh=>h.imp id λh=>⟨r3.1 cv,h⟩,λh=>h.imp id λh=>h.2⟩
 ·subst G;dsimp only;rw[S];obtain⟨o1,o2⟩:=H.at f;refine wac _ (qv f) (wac _ (atN f) ?_);refine Waa (zjq (n:=g.1.length+1) (by omega) hu o1) waa.fst.fst.fst.fst λv⟨v1,v2⟩=>?_;have d0:∀t∈u,t∈B.getD z []:=λt h=>e0 t (zv4 (λy hy=>g7 y hy) ((b5 t).1 h));have f9:FoS g B (o.set z v):=H.set v1 λt h=>((v2 t).1 h).elim (d0 t) (o2 t);have V:∀t∈o[z],t∈v:=λt h=>(v2 t).2 (.inr h);have a8:(g.1.length:Int)∈(o.set z v).getD st []:=z6n f V D;obtain⟨s1,s2⟩:=zhl o1.r v1.r V;have O:v.length<=o[z].length->o.set z v=o/\∀t∈u,t∈o[z]:=λh=>by
   have e:=s2 h;refine⟨?_,λt g3=>by rw[e];exact(v2 t).2 (.inl g3)⟩;rw[<- e];exact List.set_getElem_self f
  have L:o[z].length<v.length->J4 (g.1.length+1) (o.set z v)<J4 (g.1.length+1) o:=λh=>zjb (wcf f) h v1.len;have j6:J4 (g.1.length+1) (o.set z v)<=J4 (g.1.length+1) o:=by
   by_cases h:o[z].length<v.length
   ·exact Nat.le_of_lt (L h)
   ·rw[(O (by omega)).1];exact wcq _
  refine Tt.J (λs=>∃f2:Bool,s=(w,(n:Int),f2,(i:Int),(k:Int),v,g,o,p,x)/\(f2=true↔fr=true\/o[z].length<v.length)) (λnb b2=>wab (λc4=>b2 _ ⟨_,rfl,by simp[c4]⟩) λc4=>?_) λs⟨f2,G,a9⟩=>?_
  ·refine wac _ (qv f) (wac _ (atN f) (b2 _ ⟨_,rfl,?_⟩));rw[wcy,c4];simp
  ·subst G;dsimp only;rw[S];refine wac _ (qv f) (wac _ (zm _ f) (b4 _ ⟨_,_,rfl,f9,a8,λh=>?_,λh=>?_⟩))
   ·rcases a9.1 h with X|X
    ·have:=E X;omega
    ·have:=L X;cases P:fr with
     |true=>have:=E P;omega
     |false=>rw[(a P).1]at this⊢;exact this
   ·have h3:¬(fr=true\/o[z].length<v.length):=λh4=>by rw[a9.2 h4]at h;cases h
    have P:fr=false:=by
     cases hh:fr with
     |false=>rfl
     |true=>exact absurd (.inl hh) h3
    obtain⟨e1,f4,f5⟩:=a P;obtain⟨e2,e3⟩:=O (Nat.le_of_not_lt λh4=>h3 (.inr h4));subst e1;refine⟨e2,f4,U (λ_ t h5=>?_) f5⟩;rw[S,wcx];rw[hq,wcx]at h5;have e4:o.getD q []=o[q]:=by simp[List.getD,Q]
    have e5:o.getD z []=o[z]:=by simp[List.getD,f]
    rw[e4]at h5;rw[e5];exact e3 t ((b5 t).2 h5)
theorem job{ps:List jh}{st:Nat}{en:Int}{em re:List Bool}{al o:List (List Int)}(h0:en∈o.getD st [])(c:∀p∈ps,re[p.1.toNat]?=some true->foC em al o p){i:Nat}{t:Int}(h:FoL ps st en em re al i t):t∈o.getD i []:=by
 induction h with
 |fin=>exact h0
 |step B d e f a _ b g=>exact c _ d e _ _ f a _ (zv4 g b)
theorem z26(g:jb)(w:zc4 g)(hz:gFd g=zd)(f:GOk g){em re:List Bool}{al B:List (List Int)}(v:EmX g em al)(e:Tn (λk=>yn k g) (λr=>r=re))(j:re.length=g.2.1.length)(d:B.length=g.2.1.length)(m:FoR g em re al (g.1.length+1) B)(c:(g.1.length:Int)∈B.getD g.2.2.2.1.toNat [])(a:∀p∈g.2.2.1,re[p.1.toNat]?=some true->foC em al B p):Tn (λk=>Q5 k g) (λo=>o=B):=
 Tt.mono (jba g w hz f v e j c a) λo⟨b,q,u⟩=>jki b.l d b.n m.r λi t=>⟨b.s i t,λh=>job q u (m.s i t h)⟩
def PrE(g:jb)(em:List Bool)(al B:List (List Int))(p:jh)(r:List Int):Prop:=RN (g.1.length+1) r/\∀t,t∈r↔inT em al (B.getD p.1.toNat []) t p.2.1
section
variable{g:jb}(hg:zc4 g)(hz:gFd g=zd)(hok:GOk g){em:List Bool}{al B:List (List Int)}(hA:EmX g em al)(hF:Tn (fun nn => Q5 nn g) (fun o => o=B))(hBl:B.length=g.2.1.length)(hBr:∀l ∈ B, RN (g.1.length + 1) l)
include hg hz hok hA hF hBl hBr
theorem z8l{k:Nat}(A:k<g.2.2.1.length):Tn (λm=>Vj m g (k:Int)) (PrE g em al B g.2.2.1[k]):=by
 have N:=hok.t;have c:=atN A;have a:g.2.2.1[k]∈g.2.2.1:=wcm A;unfold Vj;generalize g.2.2.1[k]=p at c a;have i:=hok.items p a;have H:=hok.len p a;obtain⟨O,P⟩:=hok.left p a;obtain⟨q,C⟩:∃q:Nat,p.1=q:=⟨p.1.toNat,by omega⟩
 refine Tt.J (λs=>s=((k:Int),false,g)) (λQ y=>?_) λs z=>?_
 ·refine Waa (Z7 g hg) waa λb n=>?_;have w:=n.2 hz;subst w;refine wad (wae rfl (wae (wcw (by omega)) (y _ ?_)));rw[wcw (by omega)]
 ·subst z;refine wae rfl ?_;refine wac _ c ?_;have u:Tn (λm=>zym m g p.2.1) (λr=>RN g.1.length r/\∀t,t∈r↔inF em al t p.2.1):=zvg g hg hz hok em al hA.e hA.l hA.f hA.x _ (by omega) i;refine Waa u waa λr⟨D,E⟩=>?_;refine Tt.J (PrE g em al B p) (λR j=>?_) λs z=>Tt.pure z;refine wac _ c (Waa (z7c g hg hz em hA.e hA.l _ (by omega) i) waa λb n=>wab (λcv=>?_) λcv=>j _ ⟨D.up (by omega),λt=>?_⟩)
  rotate_left
  ·rw[zfq,E];exact⟨.inl,λh=>h.elim id λh=>by rw[n.2 h.1]at cv;cases cv⟩
  refine Waa hF waa λo I=>wac _ c ?_;subst I;have d:q<o.length:=by omega
  rw[C];refine wac _ (atN d) ?_;have K:=hBr _ (wcm d);have G:Tn (λm=>zlh m r o[q]) (λv=>RN (g.1.length+1) v/\∀x,x∈v↔x∈r\/x∈o[q]):=zjq (by omega) (D.up (by omega)) K;refine Waa G waa λv⟨L,M⟩=>j _ ⟨L,λt=>?_⟩;have F:o.getD q []=o[q]:=by simp[List.getD,d]
  rw[M,zfq,E,C,wcx,F];exact⟨λh=>h.imp id λh=>⟨n.1 cv,h⟩,λh=>h.imp id λh=>h.2⟩
theorem zlg:Tn (λu=>J8 u g) (λr=>r.length=g.2.2.1.length/\∀(k:Nat)(p:jh)(l:List Int),g.2.2.1[k]?=some p->r[k]?=some l->PrE g em al B p l):=by
 have x:=hok.p;unfold J8;refine Tt.loop (λm s=>∃(d:Nat)(o:List (List Int)),d<=g.2.2.1.length/\m=g.2.2.1.length-d/\s=((d:Int),g,o)/\o.length=d/\∀(k:Nat)(p:jh)(l:List Int),g.2.2.1[k]?=some p->o[k]?=some l->PrE g em al B p l) g.2.2.1.length waa ⟨0,[],by omega,by omega,rfl,rfl,λk p l _ h=>by simp at h⟩ λm s⟨d,o,v,w,t,e,j⟩ y i=>?_;subst t;dsimp only;refine wab (λc=>?_) λc=>Tt.pure ⟨by have:=wce c;omega,j⟩;have c:=wcd c;have b:d<g.2.2.1.length:=by omega
 refine Waa (z8l hg hz hok hA hF hBl hBr b) waa.fst λr q=>wac _ (yf (by simp;omega) (by omega)) (wad ?_);rw[wI (by omega) (by omega)];refine i (g.2.2.1.length-(d+1)) _ (by omega) ⟨d+1,_,by omega,rfl,rfl,by simp[e],λk p l f a=>?_⟩;by_cases n:k<o.length
 ·rw[wcr n]at a;exact j k p l f a
 ·rw[wct (by omega)]at a;have:k=d:=by
   have:=(wcg.1 a).1;simp at this;omega
  subst this;rw[wcf b]at f;rw[e,wfy]at a;cases f;simp at a;subst a;exact q
end
structure PdL(g:jb)(em:List Bool)(al B:List (List Int))(r t:Int)(d:Nat)(f:List Int):Prop where
 rs:jy f
 i:∀x,x∈f↔∃(k:Nat)(p:jh),x=(k:Int)/\k<d/\g.2.2.1[k]?=some p/\p.1=r/\inT em al (B.getD p.1.toNat []) t p.2.1
theorem zow{g:jb}(hok:GOk g){em:List Bool}{al B:List (List Int)}{a:List (List Int)}(R:a.length=g.2.2.1.length)(K:∀(k:Nat)(p:jh)(l:List Int),g.2.2.1[k]?=some p->a[k]?=some l->PrE g em al B p l)(r t:Int):Tn (λO=>Js O g a r t) (PdL g em al B r t g.2.2.1.length):=by
 have X:=hok.t;have W:=hok.p;unfold Js;refine Tt.loop (λm s=>∃(d:Nat)(f:List Int),d<=g.2.2.1.length/\m=g.2.2.1.length-d/\s=(a,r,t,(d:Int),g,f)/\PdL g em al B r t d f/\f.length<=d) g.2.2.1.length waa ⟨0,[],by omega,by omega,rfl,⟨by simp[jy],λx=>⟨λh=>(by cases h),λ⟨k,_,_,h,_⟩=>by omega⟩⟩,by simp⟩ λm s⟨d,f,S,V,F,v,M⟩ Y I=>?_;subst F;dsimp only;refine wab (λc=>?_) λc=>Tt.pure ?_
 rotate_left
 ·have c:=wce c;have:d=g.2.2.1.length:=by omega
  rwa [this]at v
 have c:=wcd c;have C:d<g.2.2.1.length:=by omega
 have A:d<a.length:=by omega
 have z:=atN C;have o:g.2.2.1[d]?=some g.2.2.1[d]:=wcf C;generalize g.2.2.1[d]=p at z o;obtain⟨P,Q⟩:=K d p _ o (wcf A);refine Tt.J (λs=>∃f:List Int,s=(a,r,t,(d:Int),g,f)/\PdL g em al B r t (d+1) f/\f.length<=d+1) (λZ D=>?_) λs⟨f,F,j,w⟩=>?_
 ·refine Tt.J (λs=>∃b,s=(a,r,t,(d:Int),b,g,f)/\(b=true↔p.1=r/\inT em al (B.getD p.1.toNat []) t p.2.1)) (λnz E=>?_) λs⟨b,F,G⟩=>?_
  ·refine wac _ z (wad (wab (λq=>wac _ (atN A) ?_) λq=>E _ ⟨_,rfl,⟨λh=>(by cases h),λh=>absurd h.1 (wce q)⟩⟩));have U:=P.len;refine Waa (zbm _ t (by omega)) waa.fst λb G=>E _ ⟨_,rfl,?_⟩;subst G;rw[wcy,Q];exact⟨λh=>⟨wcd q,h⟩,λh=>h.2⟩
  ·subst F;dsimp only;refine wab (λq=>?_) λq=>D _ ⟨f,rfl,⟨v.rs,λx=>?_⟩,by omega⟩
   ·refine wac _ (yf (by simp;omega) (by omega)) (D _ ⟨_,rfl,⟨?_,λx=>?_⟩,by simp;omega⟩)
    ·unfold jy;rw[wer];refine⟨v.rs,by simp,λy N b H=>?_⟩;obtain⟨k,_,rfl,T,_⟩:=(v.i y).1 N;simp at H;omega
    ·rw[wco,wci,v.i];constructor
     ·rintro(⟨k,u,j,w,n⟩|rfl)
      ·exact⟨k,u,j,by omega,n⟩
      ·exact⟨d,p,rfl,by omega,o,G.1 q⟩
     ·rintro⟨k,u,j,w,n⟩;by_cases e:k=d
      ·exact .inr (by rw[j,e])
      ·exact .inl ⟨k,u,j,by omega,n⟩
   ·rw[v.i];constructor
    ·rintro⟨k,u,j,w,n⟩;exact⟨k,u,j,by omega,n⟩
    ·rintro⟨k,u,j,w,n,L⟩;refine⟨k,u,j,?_,n,L⟩;by_cases e:k=d
     ·subst e;rw[o]at n;cases n;rw[G.2 L]at q;cases q
     ·omega
 ·subst F;dsimp only;refine wad ?_;rw[wI (by omega) (by omega)];exact I (g.2.2.1.length-(d+1)) _ (by omega) ⟨d+1,f,by omega,rfl,rfl,j,w⟩
theorem PdL.two{g:jb}{em:List Bool}{al B:List (List Int)}{r t:Int}{l:List Int}(h:PdL g em al B r t g.2.2.1.length l):1<l.length↔Two g em al B (r,t):=by
 constructor
 ·intro u
  match l,u,h with
  |a::b::l,_,h=>
   obtain⟨k,p,w,_,c,d,f⟩:=(h.i a).1 (by simp);obtain⟨e,s,x,_,j,m,n⟩:=(h.i b).1 (by simp);have:=(wd1.1 h.rs).1 b (by simp);exact⟨k,e,p,s,by omega,c,j,d.symm,m.symm,f,n⟩
 ·rintro⟨k,e,p,s,v,c,d,f,j,m,n⟩;have o:=(h.i (k:Int)).2 ⟨k,p,rfl,(wcg.1 c).1,c,f.symm,m⟩;have q:=(h.i (e:Int)).2 ⟨e,s,rfl,(wcg.1 d).1,d,j.symm,n⟩
  match l,o,q with
  |[a],o,q=>
   rw[wci]at o q;omega
  |a::b::l,_,_=>simp
theorem wa6{g:jb}(d:GOk g){em:List Bool}{al B:List (List Int)}(o:∀l∈al,RN g.1.length l)(f:∀l∈B,RN (g.1.length+1) l){c:Int×Int}(h:Two g em al B c):(0<=c.1/\c.1<(g.2.1.length:Int))/\0<=c.2/\c.2<=(g.1.length:Int):=by
 obtain⟨k,_,p,_,_,m,_,q,_,n,_⟩:=h;have j:=wck m;obtain⟨r,s⟩:=d.left p j;refine⟨by omega,?_⟩;rcases zfq.1 n with a|⟨_,a⟩
 ·have:=zul o (d.items p j) a;omega
 ·by_cases i:p.1.toNat<B.length
  ·have e:B.getD p.1.toNat []=B[p.1.toNat]:=by simp[List.getD,i]
   rw[e]at a;have:=(f _ (wcm i)).b _ a;omega
  ·have e:B.getD p.1.toNat []=[]:=by simp[List.getD,i]
   rw[e]at a;cases a
theorem z14{g:jb}(M:zc4 g)(hz:gFd g=zd)(f:GOk g){em:List Bool}{al B:List (List Int)}(y:EmX g em al)(O:Tn (λH=>Q5 H g) (λo=>o=B))(z:B.length=g.2.1.length)(i:∀l∈B,RN (g.1.length+1) l):Tn (λH=>Qn H g) (λr=>∃d,r.1=(d.1,d.2.1,d.2.2,())/\CdS g em al B d):=by
 have V:=f.t;have U:=f.r;unfold Qn;refine Waa (Z7 g M) waa λb Q=>?_;have A:=Q.2 hz;subst A;refine wae rfl (Waa (zlg M hz f y O z i) waa λa⟨P,G⟩=>?_);refine Tt.loop (λm s=>∃d:Nat,d<=g.2.1.length/\m=g.2.1.length-d/\s=(a,(d:Int),g,(0,0,0,()))/\∀c,Two g em al B c->(d:Int)<=c.1) g.2.1.length waa ⟨0,by omega,by omega,rfl,λc h=>(wa6 f y.x.r i h).1.1⟩ λm s⟨d,S,R,F,v⟩ W D=>?_;subst F;dsimp only;refine wab (λc=>?_) λc=>Tt.pure ⟨(0,0,0),rfl,.inl ⟨rfl,λp h=>?_⟩⟩
 rotate_left
 ·have c:=wce c;have K:=v p h;have q:=(wa6 f y.x.r i h).1.2;omega
 have c:=wcd c;refine Tt.loop (λm s=>∃j:Nat,j<=g.1.length+1/\m=g.1.length+1-j/\s=(a,(d:Int),(j:Int),g,(0,0,0,()))/\∀c,Two g em al B c->c.1=(d:Int)->(j:Int)<=c.2) (g.1.length+1) waa.fst ⟨0,by omega,by omega,rfl,λc h _=>(wa6 f y.x.r i h).2.1⟩ λm s⟨j,T,R,F,u⟩ X E=>?_;subst F;dsimp only;refine wab (λw=>?_) λw=>wad ?_
 ·have w:=wcd w;refine Waa (zow f P G _ _) waa.fst.fst λl N=>wab (λp=>?_) λp=>wad ?_
  ·have p:=wcd p;have I:1<l.length:=by omega
   refine wac _ (atN (k:=1) I) (Tt.pure ⟨(15,(d:Int),(j:Int)),rfl,.inr ⟨((d:Int),(j:Int)),rfl,N.two.1 I,λn h C=>?_⟩⟩);have K:=v n h;rcases C with q|⟨q,L⟩
   ·omega
   ·have:=u n h q;omega
  ·have p:=wce p;rw[wI (by omega) (by omega)];refine E (g.1.length+1-(j+1)) _ (by omega) ⟨j+1,by omega,rfl,rfl,λn h q=>?_⟩;have L:=u n h q;by_cases e:n.2=(j:Int)
   ·exfalso;have:n=((d:Int),(j:Int)):=Prod.ext q e;rw[this]at h;have:=N.two.2 h;omega
   ·omega
 ·have w:=wce w;rw[wI (by omega) (by omega)];refine(D (g.2.1.length-(d+1)) _ (by omega) ⟨d+1,by omega,rfl,rfl,λn h=>?_⟩).fst;have K:=v n h;by_cases e:n.1=(d:Int)
  ·have q:=u n h e;have L:=(wa6 f y.x.r i h).2.2;omega
  ·omega
def AtS(g:jb)(em:List Bool)(al B:List (List Int))(r t:Nat)(z:Int):Prop:=(∃(k:Nat)(p:jh),z=(k:Int)/\g.2.2.1[k]?=some p/\p.1=(r:Int)/\inT em al (B.getD p.1.toNat []) (t:Int) p.2.1)\/(z=-1/\∀(k:Nat)(p:jh),g.2.2.1[k]?=some p->p.1=(r:Int)->¬inT em al (B.getD p.1.toNat []) (t:Int) p.2.1)
theorem AtS.one{g:jb}{em:List Bool}{al B:List (List Int)}{r t:Nat}{z l:Int}(n:NC g em al B)(h:AtS g em al B r t z)(a:AtS g em al B r t l):z=l:=by
 rcases h with⟨k,p,rfl,f,m,i⟩|⟨rfl,h⟩
 ·rcases a with⟨d,e,rfl,b,j,c⟩|⟨_,a⟩
  ·rw[n k d p e f b (by omega) t i c]
  ·exact absurd i (a k p f m)
 ·rcases a with⟨d,e,rfl,b,j,c⟩|⟨rfl,_⟩
  ·exact absurd c (h d e b j)
  ·rfl
structure TbS(g:jb)(em:List Bool)(al B:List (List Int))(ll:List (List Int)):Prop where
 n:ll.length=g.2.1.length
 w:∀(r:Nat)(row:List Int),ll[r]?=some row->row.length=g.1.length+1
 c:∀(r t:Nat)(row:List Int)(z:Int),ll[r]?=some row->row[t]?=some z->AtS g em al B r t z
theorem TbS.one{g:jb}{em:List Bool}{al B:List (List Int)}{a b:List (List Int)}(m:NC g em al B)(d:TbS g em al B a)(e:TbS g em al B b):a=b:=by
 apply wfp (by rw[d.n,e.n]);intro r i j;have f:=wcf i;have h:=wcf j;apply wfp (by rw[d.w _ _ f,e.w _ _ h]);intro t k l;exact(d.c r t _ _ f (wcf k)).one m (e.c r t _ _ h (wcf l))
def BdS(g:jb)(em:List Bool)(al B:List (List Int))(x:List (List Int)×Int×Unit):Prop:=∃d,CdS g em al B d/\(d.1≠0->x=([],15,()))/\(d.1=0->∃a,x=(a,0,())/\TbS g em al B a)
theorem BdS.one{g:jb}{em:List Bool}{al B:List (List Int)}{x y:List (List Int)×Int×Unit}(h:BdS g em al B x)(k:BdS g em al B y):x=y:=by
 obtain⟨d,b,c,f⟩:=h;obtain⟨o,j,m,n⟩:=k;have:=b.one j;subst this;by_cases e:d.1=0
 ·obtain⟨l,rfl,i⟩:=f e;obtain⟨p,rfl,a⟩:=n e;rw[i.one (b.nc e) a]
 ·rw[c e,m e]
theorem tbl_of{g:jb}{em:List Bool}{al B:List (List Int)}{m:PM}(j:GOk g)(h:z67 g em al B m):TbS g em al B (jev g.2.1.length (g.1.length+1) m):=by
 have G:=z2e j h;have a:=jgn G;refine⟨a.n,a.w,λr t row z s u=>?_⟩;have q:=(wcg.1 u).1;rw[a.w r row s]at q;rcases a.c r t row z s u with⟨e,A,D,b⟩|⟨f,b⟩
 ·obtain⟨i,l,C⟩:∃i l,e.2=i::l:=by
   cases E:e.2 with
   |nil=>exact absurd E (h.pm.ne e A)
   |cons i l=>exact⟨i,l,rfl⟩
  obtain⟨k,p,rfl,o,v,_,_,y⟩:=h.pm.says e A i (by simp[C]);rw[D]at v y;exact .inl ⟨k,p,by rw[b,C];rfl,o,v.symm,y⟩
 ·refine .inr ⟨b,λk p o F d=>?_⟩;obtain⟨x,H,I,_⟩:=h.has k p o _ d;exact f x H (by rw[I,F])
theorem jdv{g:jb}{em re:List Bool}{al B:List (List Int)}(k:Y1 g)(j:GR g)(a:GOk g)(l:Kn g em re al B):Tn (λn=>zx n g) (BdS g em al B):=by
 obtain⟨rows,m,f,c,d⟩:=z6j k a l;obtain⟨r,b,i⟩:=z2b d (z7h f c);refine(jle j a f d.pm.nd (z2e a d)).mono λx h=>⟨r.1,i,λh0=>?_,λh0=>?_⟩
 ·rw[h,if_pos];unfold zjs at b;cases e:(Jd m).2 with
  |false=>rw[e]at b;cases b;exact absurd rfl h0
  |true=>rfl
 ·refine⟨_,?_,tbl_of a d⟩;rw[h,if_neg];intro e;unfold zjs at b;rw[e]at b;obtain⟨z,_,rfl⟩:=wcs.1 b;cases h0
theorem PdL.at{g:jb}{em:List Bool}{al B:List (List Int)}{r t:Nat}{l:List Int}(h:PdL g em al B (r:Int) (t:Int) g.2.2.1.length l):(l=[]->AtS g em al B r t (-1))/\∀a,a∈l->AtS g em al B r t a:=by
 refine⟨λe=> .inr ⟨rfl,λk p b c d=>?_⟩,λa j=>?_⟩
 ·have:=(h.i (k:Int)).2 ⟨k,p,rfl,(wcg.1 b).1,b,c,d⟩;rw[e]at this;cases this
 ·obtain⟨k,p,f,_,b,c,d⟩:=(h.i a).1 j;exact .inl ⟨k,p,f,b,c,d⟩
theorem z94{g:jb}(N:zc4 g)(hz:gFd g=zd)(f:GOk g){em:List Bool}{al B:List (List Int)}(X:EmX g em al)(Y:Tn (λV=>Q5 V g) (λo=>o=B))(w:B.length=g.2.1.length)(x:∀l∈B,RN (g.1.length+1) l):Tn (λV=>Vn V g) (BdS g em al B):=by
 have ht:=f.t;have hr:=f.r;unfold Vn;refine Waa (Z7 g N) waa λb hb=>?_;have L:=hb.2 hz;subst L;refine wae rfl (Waa (z14 N hz f X Y w x) waa λcd⟨K,M,C⟩=>?_);have A:cd.1.1=K.1:=by rw[M]
 refine wab (λc=>Tt.pure ⟨K,C,λ_=>rfl,λh=>absurd (A.trans h) (wcd c)⟩) λc=>?_;have h0:K.1=0:=by
  have:=wce c;rw[A]at this;exact Decidable.not_not.1 this
 refine Waa (zlg N hz f X Y w x) waa λa⟨ha,S⟩=>?_;refine Tt.loop (λm s=>∃(d:Nat)(o:List (List Int)),d<=g.2.1.length/\m=g.2.1.length-d/\s=(a,(d:Int),g,o)/\o.length=d/\(∀(r:Nat)(row:List Int),o[r]?=some row->row.length=g.1.length+1)/\∀(r t:Nat)(row:List Int)(z:Int),o[r]?=some row->row[t]?=some z->AtS g em al B r t z) g.2.1.length waa ⟨0,[],by omega,by omega,rfl,rfl,λr row h=>by simp at h,λr t row z h=>by simp at h⟩ λm s⟨d,o,hd,hm,I,G,H,F⟩ nx P=>?_;subst I;dsimp only;refine wab (λc=>?_) λc=>Tt.pure ⟨K,C,λh=>absurd h0 h,λ_=>⟨o,rfl,⟨by have:=wce c;omega,H,F⟩⟩⟩;have c:=wcd c;refine Tt.loop (φ:=λp:Nat×Nat=>p.1) (λm s=>∃(j:Nat)(n:List Int),j<=g.1.length+1/\m=g.1.length+1-j/\s=(a,(d:Int),(j:Int),g,o,n)/\n.length=j/\∀(t:Nat)(z:Int),n[t]?=some z->AtS g em al B d t z) (g.1.length+1) waa.fst ⟨0,[],by omega,by omega,rfl,rfl,λt z h=>by simp at h⟩ λm s⟨j,n,hj,hm,I,i,D⟩ ny Q=>?_;subst I;dsimp only;refine wab (λu=>?_) λu=>?_
 ·have u:=wcd u;refine Tt.J (λs=>∃z,s=(a,(d:Int),(j:Int),g,o,n++[z])/\AtS g em al B d j z) (λnz E=>?_) λs⟨z,I,U⟩=>?_
  ·refine Waa (zow f ha S _ _) waa.fst.fst λl Z=>wab (λv=>?_) λv=>?_
   ·have v:=wcd v;have e:l=[]:=wde (by omega);exact wac _ (yf (by simp;omega) (by omega)) (E _ ⟨_,rfl,Z.at.1 e⟩)
   ·have v:=wce v;have W:0<l.length:=by omega
    exact wac _ (atN (k:=0) W) (wac _ (yf (by simp;omega) (by omega)) (E _ ⟨_,rfl,Z.at.2 _ (wcm W)⟩))
  ·subst I;dsimp only;refine wad ?_;rw[wI (by omega) (by omega)];refine Q (g.1.length+1-(j+1)) _ (by omega) ⟨j+1,n++[z],by omega,rfl,rfl,by simp[i],λt y q=>?_⟩;by_cases T:t<n.length
   ·rw[wcr T]at q;exact D t y q
   ·rw[wct (by omega)]at q;have:t=j:=by
     have:=(wcg.1 q).1;simp at this;omega
    subst this;rw[i,wfy]at q;simp at q;subst q;exact U
 ·have u:=wce u;have O:j=g.1.length+1:=by omega
  refine wac _ (yf (by simp;omega) (by omega)) (wad ?_);rw[wI (by omega) (by omega)];refine(P (g.2.1.length-(d+1)) _ (by omega) ⟨d+1,o++[n],by omega,rfl,rfl,by simp[G],λr row h=>?_,λr t row z h=>?_⟩).fst
  all_goals
   by_cases R:r<o.length
   ·rw[wcr R]at h
    first|exact H r row h|exact F r t row z h
   ·rw[wct (by omega)]at h;have:r=d:=by
     have:=(wcg.1 h).1;simp at this;omega
    subst this;rw[G,wfy]at h;simp at h;subst h
    first|exact i.trans O|exact D t z
abbrev aE(d:jg):Nat->Nat->Prop:=λi j=>dE d j i
abbrev aS(d:jg):Nat->Prop:=λi=>i<d.2.2.1.length/\0<=zir d i
theorem jfe{l:List Bool}{i:Nat}(hi:i<l.length)(h:l[i]=false):l.set i false=l:=by
 rw[<- h];simp
theorem zy7{d:jg}(hR:Tn (λnn=>yu nn d) (λr=>r=true))(hd:DSz d)(hm:MOk d):Tn (λnn=>Zf nn d) (λr=>r=ze8 d.2.2.1.length (aE d) (aS d)):=by
 have n0:0<d.2.2.1.length:=hm.n0;have hn:=hd.n;have hw:=hm.w;have e6:0<=d.2.1:=hw.1;have e7:d.2.1<=256:=hw.2;have b4:d.2.2.2.1.length=d.2.2.1.length:=hm.lab;unfold Zf;refine Waa hR waa λr hr=>?_;subst hr;refine wae rfl (wad (wac _ (mkN (n:=d.2.2.1.length) (by omega) (by omega)) ?_));generalize hN:d.2.2.1.length=N at n0 hn b4⊢;have b7:=z45 (List.replicate N false);rw[wch]at b7;refine Tt.loop (λm s=>∃(k:Nat)(a:List Bool),k<=N+1/\m=N+1-k/\s=((k:Int),d,a)/\a.length=N/\(∀i,onB a i->Rch (aE d) (aS d) i)/\(a=ze8 N (aE d) (aS d)\/offs a+k<=N)) (N+1) waa ⟨0,_,by omega,by omega,rfl,by simp,λi hi=>absurd hi z5g,.inr (by omega)⟩ λm s⟨k,a,hk,e3,F,ha,c6,a3⟩ nx d1=>?_;subst F;dsimp only;rw[ha];refine wab (λc=>?_) λc=>Tt.pure ?_
 rotate_left
 ·have c:=wce c;rcases a3 with h|h
  ·exact h
  ·omega
 have c:=wcd c;refine Tt.loop (λm s=>∃(i:Nat)(b:List Bool),i<=N/\m=N-i/\s=((k:Int),(i:Int),d,b)/\b.length=N/\LeB a b/\(∀i,onB b i->Rch (aE d) (aS d) i)/\(a=b->∀M,M<i->(0<=zir d M->onB a M)/\∀j,onB a j->dE d M j->onB a M)) N waa.fst ⟨0,a,by omega,by omega,rfl,ha,LeB.refl a,c6,λ_ M h=>by omega⟩ λm s⟨i,b,hi,e2,F,hb,C,y,W⟩ ny d2=>?_;subst F;dsimp only;rw[hb];refine wab (λc1=>?_) λc1=>?_
 ·have c1:=wcd c1;have X:i<N:=by omega
  have B:i<d.2.2.1.length:=by omega
  have f:i<b.length:=by omega
  have a9:i<d.2.2.2.1.length:=by omega
  have P:zir d i=d.2.2.2.1[i]:=Jw a9;have U:=atN B;have b8:((d.2.2.1[i]).length:Int)=d.2.1:=by
   have:=hm.row i (by omega) (by show(i:Int)<d.2.2.1.length;omega);rw[Jw (l:=d.2.2.1) B]at this;exact this
  have D:∀(c:Nat)(Z:c<(d.2.2.1[i]).length),nxt d i c=(d.2.2.1[i])[c]:=λc Z=>zo8 B Z;have R:∀(c:Nat)(Z:c<(d.2.2.1[i]).length), -1<=(d.2.2.1[i])[c]/\(d.2.2.1[i])[c]<d.2.2.1.length:=λc Z=>by
   have : -1<=nxt d i (c:Int)/\nxt d i (c:Int)<d.2.2.1.length:=hm.nx i c (by omega) (by show(i:Int)<d.2.2.1.length;omega) (by omega) (by show(c:Int)<d.2.1;omega);rw[D c Z]at this;exact this
  generalize d.2.2.1[i]=row at U b8 R D;refine Tt.J (λs=>∃b',s=((k:Int),(i:Int),d,b')/\b'.length=N/\LeB b b'/\(∀i,onB b' i->Rch (aE d) (aS d) i)/\(0<=zir d i->onB b' i)) (λnz E=>?_) λs⟨b1,F,c7,x,a5,d0⟩=>?_
  ·refine wac _ (qv X) (wac _ (atN f) (wab (λH=>?_) λH=>?_))
   ·refine wac _ (qv X) (wac _ (zm true f) (E _ ⟨_,rfl,by simpa using hb,LeB.set f,λj A=>?_,λ_=>(J5 f).2 (.inl rfl)⟩));rcases(J5 f).1 A with h|h
    ·subst h;exact y i (by unfold onB;rw[wcf f,H])
    ·exact y j h
   ·refine wac _ (atN a9) (wac _ (qv X) ?_);by_cases u:0<=d.2.2.2.1[i]
    ·rw[wc9 u];refine wac _ (zm true f) (E _ ⟨_,rfl,by simpa using hb,LeB.set f,λj A=>?_,λ_=>(J5 f).2 (.inl rfl)⟩);rcases(J5 f).1 A with h|h
     ·subst h;exact .base ⟨B,by rw[P];exact u⟩
     ·exact y j h
    ·rw[wcw u];refine wac _ (zm false f) (E _ ⟨b,by rw[jfe f H],hb,LeB.refl b,y,λh=>absurd (by rw[<- P];exact h) u⟩)
  subst F;dsimp only;refine Tt.loop (λm s=>∃(c:Nat)(p:List Bool),c<=row.length/\m=row.length-c/\s=((k:Int),(i:Int),(c:Int),d,p)/\p.length=N/\LeB b1 p/\(∀i,onB p i->Rch (aE d) (aS d) i)/\(a=p->∀T:Nat,T<c->∀j:Nat,nxt d i T=j->onB a j->onB a i)) row.length waa.fst.fst ⟨0,b1,by omega,by omega,rfl,c7,LeB.refl b1,a5,λ_ T h=>by omega⟩ λm s⟨c,p,Z,e1,F,V,o,v,a7⟩ nz E=>?_;subst F;dsimp only;have g:i<p.length:=by omega
  refine wab (λH=>?_) λH=>?_
  ·have H:=wcd H;have K:c<row.length:=by omega
   have hq:=R c K;have Y:=D c K;refine Tt.J (λs=>∃S,s=((k:Int),(i:Int),(c:Int),d,S)/\S.length=N/\LeB p S/\(∀i,onB S i->Rch (aE d) (aS d) i)/\(∀j:Nat,nxt d i c=j->onB p j->onB S i)) (λnu b5=>?_) λs⟨S,F,c8,Q,a6,c9⟩=>?_
   ·refine Tt.J (λs=>∃t,s=((k:Int),(i:Int),(c:Int),t,d,p)/\(t=true↔∃j:Nat,nxt d i c=j/\onB p j)) (λnv b6=>?_) λs⟨t,F,ht⟩=>?_
    ·refine wac _ U (wac _ (atN K) (wad (wab (λu=>?_) λu=>b6 _ ⟨false,rfl,⟨λh=>(by cases h),λ⟨j,O,_⟩=>?_⟩⟩)))
     ·have u:=wcd u;obtain⟨z,hz⟩:∃z:Nat,row[c]=(z:Int):=⟨(row[c]).toNat,by omega⟩
      have L:z<p.length:=by omega
      refine wac _ U (wac _ (atN K) ?_);rw[hz];refine wac _ (qv L) (wac _ (atN L) (b6 _ ⟨_,rfl,⟨λh=>⟨z,by rw[Y,hz],by unfold onB;rw[wcf L,h]⟩,λ⟨j,O,G⟩=>?_⟩⟩));rw[Y,hz]at O;have:z=j:=by omega
      subst this;unfold onB at G;rw[wcf L]at G;exact wdz G
     ·have u:=wce u;rw[Y]at O;omega
    ·subst F;dsimp only;refine wab (λu=>?_) λu=>b5 _ ⟨p,rfl,V,LeB.refl p,v,λj O G=>by rw[ht.2 ⟨j,O,G⟩]at u;cases u⟩;refine wac _ (qv g) (wac _ (zm true g) (b5 _ ⟨_,rfl,by simpa using V,LeB.set g,λj A=>?_,λ_ _ _=>(J5 g).2 (.inl rfl)⟩));rcases(J5 g).1 A with h|h
     ·subst h;obtain⟨j,O,G⟩:=ht.1 u;exact .step (v j G) ⟨B,c,by omega,by show(c:Int)<d.2.1;omega,O⟩
     ·exact v j h
   ·subst F;dsimp only;refine wad ?_;rw[wI (by omega) (by omega)];refine E (row.length-(c+1)) _ (by omega) ⟨c+1,S,by omega,rfl,rfl,c8,o.trans Q,a6,λe T d8 j A b0=>?_⟩;have I:a=p:=((C.trans x).trans o).antisymm (e▸Q);by_cases h:T=c
    ·subst h;have:=c9 j A (I▸b0);rwa [<- e]at this
    ·exact a7 I T (by omega) j A b0
  ·have H:=wce H;refine wad ?_;rw[wI (by omega) (by omega)];refine(d2 (N-(i+1)) _ (by omega) ⟨i+1,p,by omega,rfl,rfl,V,(C.trans x).trans o,v,λe M e0=>?_⟩).fst;have I:a=b:=C.antisymm (e▸x.trans o);have a2:a=b1:=(C.trans x).antisymm (e▸o);by_cases h:M=i
   ·subst h;refine⟨λh=>by have:=d0 h;rwa [<- a2]at this,λj A hE=>?_⟩;obtain⟨O,T,h0,G,h3⟩:=hE;obtain⟨q,rfl⟩:=weh h0;have G:(q:Int)<d.2.1:=G;exact a7 e q (by omega) j h3 A
   ·exact W I M (by omega)
 ·have c1:=wce c1;refine wad ?_;rw[wI (by omega) (by omega)];have c4:Round (aE d) (aS d) a b:=⟨C,y,λe=>⟨λi hi=>(W e i (by have:=hi.1;omega)).1 hi.2,λj i A hE=>(W e i (by have:=hE.1;omega)).2 j A hE⟩⟩
  exact(d1 (N+1-(k+1)) _ (by omega) ⟨k+1,b,by omega,rfl,rfl,hb,y,c4.next ha a3⟩).fst
abbrev zS:Arr 4 Int:=⟨List.replicate 4 0,wch⟩
theorem jmc(b:Nat):zrt zS b=0:=by
 unfold zrt;have h:∀k:Nat,zS.l.getD k 0=0:=λk=>by
  show(List.replicate 4 (0:Int)).getD k 0=0;simp only[List.getD,wdf];split<;>rfl
 simp only[h]
 first|rfl|simp
theorem jhv(b:Nat):zfa zS b=false:=by
 unfold zfa;rw[jmc];rfl
theorem jm8:zdl zS:=λk=>by
 have h:zS.l.getD k 0=0:=by
  show(List.replicate 4 (0:Int)).getD k 0=0;simp only[List.getD,wdf];split<;>rfl
 rw[h];omega
theorem finE_z(E:Nat->Nat->Bool):zsn E zS=E:=by
 funext a b;unfold zsn;rw[jhv,jhv];simp
theorem je5{E:Nat->Nat->Bool}(h:Eqv E){a:Arr 256 Int}(b:ClsAt E a 256):Tn (λd=>Yl d a) (λr=>r=true):=by
 unfold Yl;refine Waa (z84 h a b zS jm8) waa λr c=>Tt.pure ?_;rw[finE_z]at c;rw[c.one b];simp
theorem jdz{d:jg}{E:Nat->Nat->Bool}(h:Eqv E)(p:ClsAt E d.1 256)(M:d.2.1=((qm E 256).length:Int))(u:DSz d)(hm:MOk d)(B:∀x∈d.2.2.2.1, -1<=x):Tn (λF=>ze F d) (λb=>b=true):=by
 have Q:=u.n;have R:=u.l;have N:0<d.2.2.1.length:=hm.n0;have A:d.2.2.2.1.length=d.2.2.1.length:=hm.lab;unfold ze;refine wad ?_;refine Tt.J (λs=>s=((d.2.2.1.length:Int),false,d)) (λG g=>?_) λs a=>?_
 ·refine wad (wae (wcw (by omega)) (wae (wcw (by omega)) ?_));refine Waa (je5 h p) waa λr y=>?_;subst y;refine wae rfl (Waa (z2h _ (znj h p)) waa λr y=>g _ ?_);subst y;rw[wcw (by omega)]
 subst a;refine wae rfl ?_;refine Tt.J (λb=>b=true) (λG g=>?_) λs a=>Tt.pure a;refine Tt.loop (λm s=>∃k:Nat,k<=d.2.2.1.length/\m=d.2.2.1.length-k/\s=((d.2.2.1.length:Int),true,d.2.2.1,(d.2.2.1.length:Int),(k:Int),d)) d.2.2.1.length waa ⟨0,by omega,by omega,rfl⟩ λm s⟨k,K,D,a⟩ P w=>?_;subst a;dsimp only;refine wab (λc=>?_) (λc=>g.fst _ rfl);have c:=wcd c;have e:k<d.2.2.1.length:=by omega
 have o:=atN e;have t:((d.2.2.1[k]).length:Int)=d.2.1:=by
  have:=hm.row k (by omega) (by show(k:Int)<d.2.2.1.length;omega);rw[Jw (l:=d.2.2.1) e]at this;exact this
 have z:=u.r _ (wcm e);have f:∀(c:Nat)(p:c<(d.2.2.1[k]).length), -1<=(d.2.2.1[k])[c]/\(d.2.2.1[k])[c]<d.2.2.1.length:=λc p=>by
  have : -1<=nxt d k (c:Int)/\nxt d k (c:Int)<d.2.2.1.length:=hm.nx k c (by omega) (by show(k:Int)<d.2.2.1.length;omega) (by omega) (by show(c:Int)<d.2.1;omega);rw[zo8 e p]at this;exact this
 refine wac _ o ?_;generalize d.2.2.1[k]=row at o t f z;refine Tt.J (λs=>s=((d.2.2.1.length:Int),true,row,d.2.2.1,(d.2.2.1.length:Int),(k:Int),false,d)) (λH i=>?_) λs a=>?_
 ·refine wad (wae (wcw (by omega)) (wac _ (atN (show k<d.2.2.2.1.length by omega)) (i _ ?_)));have:=B _ (wcm (show k<d.2.2.2.1.length by omega));rw[wcw (by omega)]
 subst a;refine wae rfl ?_;dsimp only;refine Tt.loop (λm s=>∃j:Nat,j<=row.length/\m=row.length-j/\s=((d.2.2.1.length:Int),true,d.2.2.1,(d.2.2.1.length:Int),(k:Int),row,(row.length:Int),(j:Int),d)) row.length waa.fst ⟨0,by omega,by omega,rfl⟩ λm s⟨j,I,C,a⟩ H i=>?_;subst a;dsimp only;refine wab (λc=>?_) (λc=>?_)
 ·have c:=wcd c;have q:j<row.length:=by omega
  have L:=f j q;refine wac _ (atN q) ?_;refine Tt.J (λs=>s=((d.2.2.1.length:Int),true,d.2.2.1,(d.2.2.1.length:Int),(k:Int),row,(row.length:Int),(j:Int),false,d)) (λO v=>?_) λs a=>?_
  ·refine wad (wae (wcw (by omega)) (v _ ?_));rw[wcw (by omega)]
  ·subst a;refine wae rfl (wad ?_);dsimp only;rw[wI (by omega) (by omega)];exact i (row.length-(j+1)) _ (by omega) ⟨j+1,by omega,rfl,rfl⟩
 ·refine wad ?_;rw[wI (by omega) (by omega)];exact(w (d.2.2.1.length-(k+1)) _ (by omega) ⟨k+1,by omega,rfl,rfl⟩).fst
def zc9{α:Type}(f:α->α)(l:List α)(q:Nat):List α:=(l.take q).map f++l.drop q
theorem jef{α:Type}{f:α->α}{l:List α}{q:Nat}:(zc9 f l q).length=l.length:=by
 unfold zc9;simp only[wcu,wcv,wdl,wdw];omega
theorem jgu{α:Type}{f:α->α}{l:List α}{q:Nat}(h:q<l.length):(zc9 f l q)[q]?=some l[q]:=by
 unfold zc9;rw[wct (by simp;omega)];simp only[wcv,wdl,wdv];rw[show q+(q-min q l.length)=q by omega];exact wcf h
theorem jeh{α:Type}{f:α->α}{l:List α}{q:Nat}(h:q<l.length):(zc9 f l q).set q (f l[q])=zc9 f l (q+1):=by
 unfold zc9;rw[List.set_append_right _ _ (by simp;omega),wcn h,wdb,wc6];simp only[wcv,wdl];rw[show q-min q l.length=0 by omega,wc0 h];rfl
theorem z9x{α:Type}{f:α->α}{l:List α}{q:Nat}(h:q<l.length)(e:f l[q]=l[q]):zc9 f l (q+1)=zc9 f l q:=by
 unfold zc9;rw[wcn h,wdb,wc6,wc0 h,wc4,e];rfl
theorem jmp{α:Type}{f:α->α}{l:List α}:zc9 f l 0=l:=by simp[zc9]
theorem jfq{α:Type}{f:α->α}{l:List α}:zc9 f l l.length=l.map f:=by simp[zc9]
def kpB(re al:List Bool)(i:Nat):Bool:=decide (i=0) ||(re.getD i false && al.getD i false)
def keL(a:Nat->Bool)(k:Nat):List Nat:=(List.range k).filter a
def nuI(a:Nat->Bool)(i:Nat):Int:=if a i=true then((keL a i).length:Int)else -1
def trZ(a:Nat->Bool)(z:Int):Int:=if 0<=z then nuI a z.toNat else z
def zn2(d:jg)(a:Nat->Bool):jg:=(d.1,d.2.1,(keL a d.2.2.1.length).map (λ(i:Nat)=>(at' d.2.2.1 (i:Int)).map (trZ a)),(keL a d.2.2.1.length).map (λ(i:Nat)=>zir d i),())
theorem zjl(a:Nat->Bool)(k:Nat):keL a (k+1)=if a k=true then keL a k++[k]else keL a k:=by
 unfold keL;rw[List.range_succ,we7];by_cases h:a k=true
 ·rw[if_pos h];simp[h]
 ·rw[if_neg h];simp[h]
theorem zun(a:Nat->Bool)(k:Nat):(keL a k).length<=k:=by
 have:=wen a (List.range k);simpa [keL]using this
theorem jkm{a:Nat->Bool}{k i:Nat}(h:i∈keL a k):i<k:=by
 have:=(wey.1 h).1;exact wef.1 this
structure NuI(kp:Nat->Bool)(n k:Nat)(nu:List Int):Prop where
 l:nu.length=n
 v:∀i,i<k->nu[i]?=some (nuI kp i)
theorem NuI.next{a:Nat->Bool}{n k:Nat}{b:List Int}(h:NuI a n k b)(d:k<n){z:Int}(hz:z=nuI a k):NuI a n (k+1) (b.set k z):=⟨by simpa using h.l,λi c=>by
 rw[wc8];by_cases e:k=i
 ·subst e;have:=h.l;rw[if_pos rfl,if_pos (by omega),hz]
 ·rw[if_neg e];exact h.v i (by omega)⟩
theorem z4e{a:Nat->Bool}{k:Nat}(h:a k=true):nuI a k=((keL a k).length:Int):=if_pos h
theorem jal{a:Nat->Bool}{k:Nat}(h:a k=false):nuI a k=-1:=if_neg (by rw[h];simp)
theorem zf4{α β:Type}{l:List α}{f:α->β}{i:Nat}(h:i<l.length):(l.take i).map f++[f l[i]]=(l.take (i+1)).map f:=by
 rw[wcn h,wdb];rfl
theorem jl0(d:jg)(R:DSz d)(hm:MOk d)(V:Tn (λnn=>ze nn d) (· = true)):Tn (λnn=>Yj nn d) (λr=>r=zn2 d (kpB (ze8 d.2.2.1.length (dE d) (λi=>i=0)) (ze8 d.2.2.1.length (aE d) (aS d)))):=by
 have s1:=R.n;have s2:=R.w;have b2:d.2.2.2.1.length=d.2.2.1.length:=hm.lab;unfold Yj;refine Waa V waa λb' Y=>?_;subst Y;refine wae rfl ?_;refine Waa (zrx d R V) waa λre x=>?_;refine Waa (jf5 d R V) waa λC g=>?_;have x:re=ze8 d.2.2.1.length (dE d) (λi=>i=0):=by rcases x with⟨h,_⟩|⟨_,_,h⟩;cases h;exact h
 have g:C=ze8 d.2.2.1.length (aE d) (aS d):=by rcases g with⟨h,_⟩|⟨_,_,h⟩;cases h;exact h
 rw[<- x,<- g];have b9:re.length=d.2.2.1.length:=by rw[x,zez]
 have b0:C.length=d.2.2.1.length:=by rw[g,zez]
 clear x g;refine wad (wac _ (mkN (by omega) (by omega)) ?_);simp only[wch];generalize (⟨List.replicate 256 0,wch⟩:Arr 256 Int)=Z;generalize a3:kpB re C=a;refine Tt.loop (λm s=>∃(k:Nat)(B:List Int),k<=d.2.2.1.length/\m=d.2.2.1.length-k/\s=(re,C,(d.2.2.1.length:Int),(k:Int),d,Z,0,B,(keL a k).map (λ(i:Nat)=>(i:Int)),[],[])/\NuI a d.2.2.1.length k B) d.2.2.1.length waa ⟨0,_,by omega,by omega,rfl,⟨by simp,λi h=>by omega⟩⟩ λm s⟨k,B,hk,Q,z,E⟩ nx a5=>?_;subst z;dsimp only;have b7:=E.l;have a2:=zun a k;refine wab (λc=>?_) (λc=>?_)
 ·have c:=wcd c;have e:k<d.2.2.1.length:=by omega
  refine Tt.J (λs=>∃(B:List Int),s=(re,C,(d.2.2.1.length:Int),(k:Int),d,Z,0,B,(keL a (k+1)).map (λ(i:Nat)=>(i:Int)),[],[])/\NuI a d.2.2.1.length (k+1) B) (λny o=>?_) λs⟨B,z,h1⟩=>?_
  ·refine wac _ (qv (by omega)) (wac _ (zm _ (by omega)) ?_);refine Tt.J (λs=>s=(re,C,(k:Int),(d.2.2.1.length:Int),(k:Int),a k,d,Z,0,B.set k (-1),(keL a k).map (λ(i:Nat)=>(i:Int)),[],[])) (λnz p=>?_) λs z=>?_
   ·have D:a k=(decide (k=0) ||(re.getD k false && C.getD k false)):=by rw[<- a3];rfl
    refine wad (wab (λb=>p _ ?_) λb=>?_)
    ·have b:=wcd b;have:k=0:=by omega
     rw[D,wc9 this];rfl
    have b:=wce b;have P:k<re.length:=by omega
    have O:k<C.length:=by omega
    have er:re.getD k false=re[k]:=by simp[List.getD,P]
    have ea:C.getD k false=C[k]:=by simp[List.getD,O]
    rw[er,ea,wcw (by omega),wfz]at D;refine wac _ (atN P) (wab (λS=>wac _ (atN O) (p _ ?_)) λS=>p _ ?_)
    ·rw[D,S];rfl
    ·rw[D,S];rfl
   ·subst z;dsimp only;refine wab (λb=>?_) λb=>o _ ⟨_,by rw[zjl,if_neg (by rw[b];simp)],E.next e (jal b).symm⟩;refine wac _ (qv (by simp;omega)) (wac _ (zm _ (by simp;omega)) (wac _ (yf (by simp;omega) (by omega)) (o _ ⟨_,by rw[zjl,if_pos b,wdb];rfl,?_⟩)));rw[List.set_set];exact E.next e (by rw[z4e b];simp)
  ·subst z;refine wad ?_;dsimp only;rw[wI (by omega) (by omega)];exact a5 (d.2.2.1.length-(k+1)) _ (by omega) ⟨k+1,_,by omega,rfl,rfl,h1⟩
 have c:=wce c;have a1:k=d.2.2.1.length:=by omega
 subst a1;obtain⟨W,hW⟩:∃W:Nat,d.2.1=(W:Int):=⟨d.2.1.toNat,by omega⟩
 unfold zn2;have G:∀j∈keL a d.2.2.1.length,j<d.2.2.1.length:=λj h=>jkm h;generalize keL a d.2.2.1.length=K at a2 G⊢;rw[wcv];refine Tt.loop (λm s=>∃(i:Nat),i<=K.length/\m=K.length-i/\s=((K.length:Int),(i:Int),d,Z,0,B,d.1,d.2.1,K.map (λ(i:Nat)=>(i:Int)),[],[],(K.take i).map (λ(i:Nat)=>(at' d.2.2.1 (i:Int)).map (trZ a)),(K.take i).map (λ(i:Nat)=>zir d i))) K.length waa.fst ⟨0,by omega,by omega,rfl⟩ λm s⟨i,hi,Q,z⟩ ny o=>?_;subst z;dsimp only;refine wab (λc=>?_) (λc=>Tt.pure ?_)
 rotate_left
 ·have c:=wce c;rw[wd4 (by omega)]
 have c:=wcd c;have e:i<K.length:=by omega
 have N:=G _ (wcm e);have F:=zf4 (f:=λ(i:Nat)=>(at' d.2.2.1 (i:Int)).map (trZ a)) e;have L:=zf4 (f:=λ(i:Nat)=>zir d i) e;have U:(K.map (λ(i:Nat)=>(i:Int)))[i]?=some ((K[i]:Nat):Int):=by simp[e]
 refine wac _ (qv (by simpa using e)) (wac _ (Jo (by omega) (by simpa using U)) ?_);generalize K[i]=j at N F L;have y:=hm.row j (by omega) (by show(j:Int)<d.2.2.1.length;omega);have X:=atN N;have a4:=atN (l:=d.2.2.2.1) (k:=j) (by omega);have T:zir d j=d.2.2.2.1[j]:=Jw (by omega);have I:∀(c:Nat)(hc:c<(d.2.2.1[j]).length), -1<=(d.2.2.1[j])[c]/\(d.2.2.1[j])[c]<d.2.2.1.length:=λc hc=>by
  rw[Jw (l:=d.2.2.1) N]at y;have : -1<=nxt d j (c:Int)/\nxt d j (c:Int)<d.2.2.1.length:=hm.nx j c (by omega) (by show(j:Int)<d.2.2.1.length;omega) (by omega) (by show(c:Int)<d.2.1;omega);rw[zo8 N hc]at this;exact this
 simp only[Jw (l:=d.2.2.1) N]at y F;rw[hW];refine wac _ (mkN (n:=W) (by omega) (by omega)) (wac _ X ?_);generalize d.2.2.1[j]=row at y F I;have a0:jjj (List.replicate W (0:Int)) row=some (((min (List.replicate W (0:Int)).length row.length:Nat):Int),row):=by
  unfold jjj;congr 2;rw[wch,wd4 (by omega),wdu (by simp;omega),wc7]
 refine wac _ a0 ?_;refine Tt.loop (λm s=>∃(q:Nat),q<=row.length/\m=row.length-q/\s=((j:Int),(K.length:Int),(i:Int),(row.length:Int),(q:Int),d,Z,0,B,d.1,(W:Int),zc9 (trZ a) row q,K.map (λ(i:Nat)=>(i:Int)),[],[],(K.take i).map (λ(i:Nat)=>(at' d.2.2.1 (i:Int)).map (trZ a)),(K.take i).map (λ(i:Nat)=>zir d i))) row.length waa.fst.fst ⟨0,by omega,by omega,by rw[jmp];rfl⟩ λm s⟨q,b8,Q,z⟩ nz p=>?_;subst z;dsimp only;refine wab (λc=>?_) (λc=>?_)
 ·have c:=wcd c;have u:q<row.length:=by omega
  have M:q<(zc9 (trZ a) row q).length:=by rw[jef];exact u
  have a6:=I _ u;refine Tt.J (λs=>s=((j:Int),(K.length:Int),(i:Int),(row.length:Int),(q:Int),d,Z,0,B,d.1,(W:Int),zc9 (trZ a) row (q+1),K.map (λ(i:Nat)=>(i:Int)),[],[],(K.take i).map (λ(i:Nat)=>(at' d.2.2.1 (i:Int)).map (trZ a)),(K.take i).map (λ(i:Nat)=>zir d i))) (λc0 H=>?_) λs z=>?_
  ·refine wac _ (qv M) (wac _ (Jo (by omega) (by simpa using jgu u)) ?_);refine wab (λb=>?_) λb=>H _ ?_
   ·have b:=wcd b;have A:=jeh (f:=trZ a) u;have a7:trZ a row[q]=nuI a (row[q]).toNat:=by unfold trZ;rw[if_pos b]
    rw[a7]at A;obtain⟨t,et⟩:∃t:Nat,row[q]=(t:Int):=⟨(row[q]).toNat,by omega⟩
    rw[et]at a6 A⊢;refine wac _ (qv (by omega)) (wac (nuI a t) (Jo (by omega) (by simpa using E.v t (by omega))) (wac _ (qv M) (wac _ (zm _ M) (H _ ?_))));rw[<- A];rfl
   ·have b:=wce b;rw[z9x u (by unfold trZ;rw[if_neg b])]
  ·subst z;refine wad ?_;dsimp only;rw[wI (by omega) (by omega)];exact p (row.length-(q+1)) _ (by omega) ⟨q+1,by omega,rfl,rfl⟩
 ·have c:=wce c;have:q=row.length:=by omega
  subst this;rw[jfq];refine wac _ (yf (by simp;omega) (by omega)) (wac _ a4 (wac _ (yf (by simp;omega) (by omega)) (wad ?_)));rw[wI (by omega) (by omega)];rw[hW]at o;rw[<- T];exact(o (K.length-(i+1)) _ (by omega) ⟨i+1,by omega,rfl,by rw[F,L];rfl⟩).fst
theorem jam(d:jg)(Q:DSz d)(hm:MOk d)(T:Tn (λnn=>yu nn d) (λr=>r=true)):Tn (λnn=>Ve nn d) (λr=>r=zn2 d (kpB (ze8 d.2.2.1.length (dE d) (λi=>i=0)) (ze8 d.2.2.1.length (aE d) (aS d)))):=by
 have s1:=Q.n;have s2:=Q.w;have a9:d.2.2.2.1.length=d.2.2.1.length:=hm.lab;unfold Ve;refine Waa T waa λb' U=>?_;subst U;refine wae rfl ?_;refine Waa (zia T Q hm) waa λre H=>?_;refine Waa (zy7 T Q hm) waa λy E=>?_;rw[<- H,<- E];have b6:re.length=d.2.2.1.length:=by rw[H,zez]
 have a6:y.length=d.2.2.1.length:=by rw[E,zez]
 clear H E;refine wad (wac _ (mkN (n:=d.2.2.1.length) (by omega) (by omega)) ?_);generalize (⟨List.replicate 256 0,wch⟩:Arr 256 Int)=Z;generalize Y:kpB re y=a;refine Tt.loop (λm s=>∃(k:Nat)(o:List Int),k<=d.2.2.1.length/\m=d.2.2.1.length-k/\s=(re,y,((keL a k).length:Int),(k:Int),d,Z,0,o,[],[])/\NuI a d.2.2.1.length k o) d.2.2.1.length waa ⟨0,_,by omega,by omega,rfl,⟨by simp,λi h=>by omega⟩⟩ λm s⟨k,o,hk,O,g,p⟩ nx a1=>?_;subst g;dsimp only;have P:=p.l;have b4:=zun a k;rw[P];refine wab (λc=>?_) (λc=>?_)
 ·have c:=wcd c;have F:k<d.2.2.1.length:=by omega
  refine Tt.J (λs=>∃(o:List Int),s=(re,y,((keL a (k+1)).length:Int),(k:Int),d,Z,0,o,[],[])/\NuI a d.2.2.1.length (k+1) o) (λny B=>?_) λs⟨o,g,h1⟩=>?_
  ·refine wac _ (qv F) (wac _ (zm _ (by omega)) ?_);refine Tt.J (λs=>s=(re,y,((keL a k).length:Int),(k:Int),a k,d,Z,0,o.set k (-1),[],[])) (λnz u=>?_) λs g=>?_
   ·have z:a k=(decide (k=0) ||(re.getD k false && y.getD k false)):=by rw[<- Y];rfl
    refine wad (wab (λb=>u _ ?_) λb=>?_)
    ·have b:=wcd b;have:k=0:=by omega
     rw[z,wc9 this];rfl
    have b:=wce b;have N:k<re.length:=by omega
    have M:k<y.length:=by omega
    have er:re.getD k false=re[k]:=by simp[List.getD,N]
    have ea:y.getD k false=y[k]:=by simp[List.getD,M]
    rw[er,ea,wcw (by omega),wfz]at z;refine wac _ (atN N) (wab (λR=>wac _ (atN M) (u _ ?_)) λR=>u _ ?_)
    ·rw[z,R];rfl
    ·rw[z,R];rfl
   ·subst g;dsimp only;refine wab (λb=>?_) λb=>B _ ⟨_,by rw[zjl,if_neg (by rw[b];simp)],p.next F (jal b).symm⟩;refine wac _ (qv (by simp;omega)) (wac _ (zm _ (by simp;omega)) (wad ?_));rw[wI (by omega) (by omega)];refine B _ ⟨_,by rw[zjl,if_pos b,wcu];rfl,?_⟩;rw[List.set_set];exact p.next F (by rw[z4e b])
  ·subst g;refine wad ?_;dsimp only;rw[wI (by omega) (by omega)];exact a1 (d.2.2.1.length-(k+1)) _ (by omega) ⟨k+1,_,by omega,rfl,rfl,h1⟩
 have c:=wce c;have V:k=d.2.2.1.length:=by omega
 subst V;obtain⟨W,hW⟩:∃W:Nat,d.2.1=(W:Int):=⟨d.2.1.toNat,by omega⟩
 refine Tt.loop (λm s=>∃(i:Nat),i<=d.2.2.1.length/\m=d.2.2.1.length-i/\s=((i:Int),d,Z,0,o,d.1,d.2.1,[],[],(keL a i).map (λ(i:Nat)=>(at' d.2.2.1 (i:Int)).map (trZ a)),(keL a i).map (λ(i:Nat)=>zir d i))) d.2.2.1.length waa.fst ⟨0,by omega,by omega,rfl⟩ λm s⟨j,hi,O,g⟩ ny B=>?_;subst g;dsimp only;rw[P];refine wab (λc=>?_) (λc=>Tt.pure ?_)
 rotate_left
 ·have c:=wce c;have:j=d.2.2.1.length:=by omega
  subst this;rfl
 have c:=wcd c;have K:j<d.2.2.1.length:=by omega
 have a8:=zun a j;have I:=zjl a j;refine Tt.J (λs=>s=((j:Int),d,Z,0,o,d.1,d.2.1,[],[],(keL a (j+1)).map (λ(i:Nat)=>(at' d.2.2.1 (i:Int)).map (trZ a)),(keL a (j+1)).map (λ(i:Nat)=>zir d i))) (λb7 e=>?_) λs g=>?_
 rotate_left
 ·subst g;refine wad ?_;dsimp only;rw[wI (by omega) (by omega)];exact B (d.2.2.1.length-(j+1)) _ (by omega) ⟨j+1,by omega,rfl,rfl⟩
 refine wac _ (qv K) (wac (nuI a j) (Jo (by omega) (by simpa using p.v j K)) (wab (λb=>e _ ?_) λb=>?_))
 ·have b:=wcd b;rw[I,if_neg];intro h;rw[z4e h]at b;omega
 have b:=wce b;have X:a j=true:=by
  cases h:a j with
  |true=>rfl
  |false=>rw[jal h]at b;omega
 rw[if_pos X]at I;rw[I,wdb,wdb]at e;have x:=hm.row j (by omega) (by show(j:Int)<d.2.2.1.length;omega);have L:=atN K;have a0:=atN (l:=d.2.2.2.1) (k:=j) (by omega);have S:zir d j=d.2.2.2.1[j]:=Jw (by omega);have D:∀(c:Nat)(hc:c<(d.2.2.1[j]).length), -1<=(d.2.2.1[j])[c]/\(d.2.2.1[j])[c]<d.2.2.1.length:=λc hc=>by
  rw[Jw (l:=d.2.2.1) K]at x;have : -1<=nxt d j (c:Int)/\nxt d j (c:Int)<d.2.2.1.length:=hm.nx j c (by omega) (by show(j:Int)<d.2.2.1.length;omega) (by omega) (by show(c:Int)<d.2.1;omega);rw[zo8 K hc]at this;exact this
 have C:at' d.2.2.1 (j:Int)=d.2.2.1[j]:=Jw K;rw[C]at x;simp only[wc4,wed,C]at e;generalize d.2.2.1[j]=row at x L D e;refine Tt.loop (λm s=>∃(q:Nat),q<=row.length/\m=row.length-q/\s=((j:Int),(q:Int),d,Z,0,o,d.1,d.2.1,(row.take q).map (trZ a),[],[],(keL a j).map (λ(i:Nat)=>(at' d.2.2.1 (i:Int)).map (trZ a)),(keL a j).map (λ(i:Nat)=>zir d i))) row.length waa.fst.fst ⟨0,by omega,by omega,rfl⟩ λm s⟨q,b5,O,g⟩ nz u=>?_;subst g;dsimp only;refine wab (λc=>?_) (λc=>?_)
 ·have c:=wcd c;have G:q<row.length:=by omega
  have a2:=D _ G;have a4:=zf4 (f:=trZ a) G;refine wac _ L (wac _ (atN G) ?_);refine Tt.J (λs=>s=((j:Int),(q:Int),trZ a row[q],d,Z,0,o,d.1,d.2.1,(row.take q).map (trZ a),[],[],(keL a j).map (λ(i:Nat)=>(at' d.2.2.1 (i:Int)).map (trZ a)),(keL a j).map (λ(i:Nat)=>zir d i))) (λnv A=>?_) λs g=>?_
  ·refine wab (λb=>?_) λb=>A _ ?_
   ·have b:=wcd b;have a3:trZ a row[q]=nuI a (row[q]).toNat:=by unfold trZ;rw[if_pos b]
    rw[a3]at A;obtain⟨t,et⟩:∃t:Nat,row[q]=(t:Int):=⟨(row[q]).toNat,by omega⟩
    rw[et]at a2 A⊢;exact wac _ (qv (by omega)) (wac (nuI a t) (Jo (by omega) (by simpa using p.v t (by omega))) (A _ rfl))
   ·have b:=wce b;rw[show trZ a row[q]=row[q] by unfold trZ;rw[if_neg b]]
  ·subst g;dsimp only;refine wac _ (yf (by simp;omega) (by omega)) (wad ?_);rw[wI (by omega) (by omega),a4];exact u (row.length-(q+1)) _ (by omega) ⟨q+1,by omega,rfl,rfl⟩
 ·have c:=wce c;have:q=row.length:=by omega
  subst this;rw[wc2];refine wac _ (yf (by simp;omega) (by omega)) (wac _ a0 (wac _ (yf (by simp;omega) (by omega)) ?_));rw[<- S];exact e.fst _ rfl
theorem z37{c:Prop}[Decidable c]{d:jd}(h:(if c then d else zd).1=0)(a:d.1≠0):¬c:=λk=>a (by rwa [if_pos k]at h)
theorem jos{g:jb}{i:Nat}{p:jh}(h:(zlq g i p).1=0):PrOk g p:=by
 unfold zlq at h;split at h
 ·cases h
 split at h
 ·cases h
 ·refine⟨by omega,by omega,by omega,λx b=>?_⟩;obtain⟨k,a⟩:=wdc b;unfold je9 at h;exact itE_ok (zhj h (itE g x,(i:Int),(k:Int)+1,()) (wck (i:=k) (by rw[wet,a];rfl)))
theorem jgr{g:jb}(h:gFd g=zd):GOk g:=by
 have c:(gFd g).1=0:=by rw[h]
 unfold gFd at c;have a:=zhj c;simp only[wco]at a;have b:∀p∈g.2.2.1,PrOk g p:=λp b=>by
  obtain⟨i,d⟩:=wdc b;exact jos (a (zlq g i p) (.inr (.inr (.inr (.inr (.inl (wck (i:=i) (by rw[zl6,wet,d];rfl))))))))
 have f:=z37 (a _ (.inl (wck (i:=0) rfl))) (show(4:Int)≠0 by decide);have j:=z37 (a _ (.inl (wck (i:=1) rfl))) (show(4:Int)≠0 by decide);have k:=z37 (a _ (.inl (wck (i:=2) rfl))) (show(4:Int)≠0 by decide);have l:=z37 (a (zi9 g) (.inr (.inr (.inr (.inr (.inr (.inl (wci.2 rfl)))))))) (by decide);exact⟨by omega,by omega,by omega,λt e=>Qx (z5a h t e),λp h=>⟨(b p h).l0,(b p h).l1⟩,λp h=>(b p h).n,λp h=>(b p h).it,by omega⟩
theorem ji0{g:jb}(a:Y1 g)(hz:gFd g=zd):GR g/\GOk g:=by
 refine⟨?_,jgr hz⟩;unfold GR y6;exact Waa (jcg g a) waa λr b=>Tt.pure (by rw[b,hz];rfl)
def jff(g:jb):jd:=fs2 10 0 (g.1.map λx=>!zib x.2.1) 0
abbrev cD(c:Int×Int×Int):jd:=(c.1,c.2.1,c.2.2,())
def jn1(g:jb)(re mk:List Bool)(c:Int×Int×Int):List jd:=[jff g,fsF 13 re 0,fsF 14 mk 0,cD c]
structure FmA(g:jb)(em re mk:List Bool)(al B:List (List Int))(c:Int×Int×Int):Prop where
 k:KnX g em re al B
 m:mk.length=g.2.1.length/\(∀p∈g.2.2.1,mkT true mk p)/\MSn true g mk
 hM:Tn (λnn=>Vd nn g) (λr=>r=mk)
 c:CdS g em al B c
theorem FmA_of{g:jb}(b:Y1 g)(hz:gFd g=zd):∃e re mk d B c,FmA g e re mk d B c:=by
 obtain⟨f,a⟩:=ji0 b hz;obtain⟨e,re,d,B,i⟩:=KnX_of g b f a;obtain⟨mk,j,h⟩:=(jkr g b f a).val;obtain⟨C,_,c,_,k⟩:=z72 b f a i.kn;exact⟨e,re,mk,d,B,c,i,h,j,k⟩
theorem jbk(d:jg)(B:DSz d)(hm:MOk d)(E:Tn (λz=>ze z d) (· = true)):Tn (λz=>zw z d) (λr=>r.length<=300/\∀x,x∈r↔LbR d x):=by
 have N:=B.n;have D:d.2.2.2.1.length=d.2.2.1.length:=hm.lab;unfold zw;refine Waa (zrx d B E) waa λr u=>?_;have u:r=ze8 d.2.2.1.length (dE d) (λi=>i=0):=by rcases u with⟨h,_⟩|⟨_,_,h⟩;cases h;exact h
 have G:r.length=d.2.2.1.length:=by rw[u,zez]
 refine Tt.loop (λm s=>∃(k:Nat)(l:List Int),k<=r.length/\m=r.length-k/\s=(r,(r.length:Int),(k:Int),d,l)/\l.length<=k/\∀x,x∈l↔∃i:Nat,i<k/\onB r i/\d.2.2.2.1[i]?=some x/\0<=x) r.length waa ⟨0,_,by omega,by omega,rfl,by simp,λx=>⟨λh=>(by cases h),λ⟨i,h,_⟩=>by omega⟩⟩ λm s⟨k,l,I,F,q,C,v⟩ K w=>?_;subst q;dsimp only;refine wab (λc=>?_) (λc=>?_)
 ·have c:=wcd c;have g:k<r.length:=by omega
  have b:k<d.2.2.2.1.length:=by omega
  have t:∀{y:List Int},(∀x,x∈y↔x∈l\/(onB r k/\d.2.2.2.1[k]?=some x/\0<=x))->∀x,x∈y↔∃i:Nat,i<k+1/\onB r i/\d.2.2.2.1[i]?=some x/\0<=x:=λ{y}h x=>by
   rw[h,v];constructor
   ·rintro(⟨i,f,a⟩|a)
    ·exact⟨i,by omega,a⟩
    ·exact⟨k,by omega,a⟩
   ·rintro⟨i,f,a⟩;by_cases e:i=k
    ·subst e;exact .inr a
    ·exact .inl ⟨i,by omega,a⟩
  refine Tt.J (λs=>∃l,s=(r,(r.length:Int),(k:Int),d,l)/\l.length<=k+1/\∀x,x∈l↔∃i:Nat,i<k+1/\onB r i/\d.2.2.2.1[i]?=some x/\0<=x) (λL o=>?_) λs⟨l,q,C,v⟩=>?_
  ·refine wac _ (atN g) ?_;refine Tt.J (λs=>s=((k:Int),r,(r.length:Int),(k:Int),(r[k] && decide (0<=d.2.2.2.1[k])),d,l)) (λM p=>?_) λs q=>?_
   ·refine wab (λc=>wac _ (atN b) (p _ ?_)) λc=>p _ ?_
    ·rw[c,wea]
    ·rw[c];rfl
   ·subst q;dsimp only;refine wab (λj=>?_) λj=>o _ ⟨l,rfl,by omega,t λx=>⟨.inl,λh=>h.elim id λ⟨f,a,A⟩=>?_⟩⟩
    ·simp only[wcl,wcy]at j;refine wac _ (atN b) (wac _ (yf (by simp;omega) (by omega)) (o _ ⟨_,rfl,by simp;omega,t λx=>?_⟩));rw[wco,wci];refine or_congr Iff.rfl ⟨λh=>?_,λ⟨f,a,A⟩=>?_⟩
     ·subst h;exact⟨by unfold onB;rw[wcf g,j.1],wcf b,j.2⟩
     ·rw[wcf b]at a;exact(wdz a).symm
    ·unfold onB at f;rw[wcf g]at f;rw[wcf b]at a;rw[wdz f,wdz a,wea]at j;exact absurd A (wce j)
  ·subst q;refine wad ?_;dsimp only;rw[wI (by omega) (by omega)];exact w (r.length-(k+1)) _ (by omega) ⟨k+1,_,by omega,rfl,rfl,C,v⟩
 ·have c:=wce c;have H:(za6 l).length=l.length:=zm5 _;refine wac _ (sm7 (by omega)) (wac _ (sm7 (by omega)) (Tt.pure ⟨?_,λx=>?_⟩))
  ·have:=ztn (za6 l);omega
  ·rw[(zla _ (zom _)).2,z1a,v];unfold LbR;rw[<- u];constructor
   ·rintro⟨i,f,a⟩;exact⟨i,a⟩
   ·rintro⟨i,a⟩;exact⟨i,by have:=zwh a.1;omega,a⟩
def jfz(D:jd)(b:jg)(a:List (List Int)):jg×List (List Int)×jd×Unit:=if D.1=0 then(b,a,D,())else(zD,[],D,())
theorem jh4{g:jb}(N:Y1 g)(Y:g.1.length<=12)(hz:gFd g=zd){em re mk:List Bool}{al B:List (List Int)}{c:Int×Int×Int}(M:FmA g em re mk al B c){n:jk}{bd:jg×Int×Int×Unit}{lt:List Int}{tr:jg}{tb:List (List Int)×Int×Unit}(hF:Tn (λj=>zcr j g.1) (λr=>r=n))(hB:Tn (λj=>Z4 j n g.2.2.2.2.1) (λr=>r=bd))(hT:bd.2.2.1=0->Tn (λj=>zw j bd.1) (λr=>r=lt))(hl:lt.length<=1000000)(S:bd.2.2.1=0->Tn (λj=>Yj j bd.1) (λr=>r=tr))(R:Tn (λj=>zx j g) (λr=>r=tb)):Tn (λj=>Je j g) (λr=>r=jfz (jz (jn1 g re mk c++[ztm g.1.length bd.2.2.1 lt])) tr tb.1):=by
 obtain⟨hR,o⟩:=ji0 N hz;have U:=M.k;generalize a:jz (jn1 g re mk c++[ztm g.1.length bd.2.2.1 lt])=D;have a:jz [jff g,fsF 13 re 0,fsF 14 mk 0,cD c,ztm g.1.length bd.2.2.1 lt]=D:=a;unfold Je;refine Tt.J (λs=>∃(Z:Arr 256 Int)(z:jd)(L:jb)(d:jg)(p:List (List Int))(q:List Int)(u:List (List Int)),s=(g,Z,z,L,d,D,p,q,u)/\(D.1=0->bd.2.2.1=0/\d=bd.1)) (λnx H=>?_) λs⟨Z,z,L,d,p,q,u,V,P⟩=>?_
 ·have b:∀{Z z L}{d:jg}{e:jd}{p q u},¬e.1=0->D=e->Tt way (λi=>nx i (g,Z,z,L,d,e,p,q,u)) _:=λP l=>H _ ⟨_,_,_,_,_,_,_,by rw[l],λh=>absurd (by rw[<- l];exact h) P⟩;refine Waa (z0w g N _) waa λd1 F=>?_;rw[hz]at F;subst F;refine wae rfl (Waa (jfa N o _) waa λx W=>?_);have W:x=jff g:=W;rw[<- W]at a;refine wab (λc=>b (wcd c) ?_) λA=>?_
  ·rw[<- a];simp only[jz];rw[if_neg (wcd c)]
  have A:x.1=0:=wek.1 (wce A);refine Waa (je3 o _ U.kn.hrl U.kn.hRe) waa λy hy=>?_;rw[<- hy]at a;refine wab (λc=>b (wcd c) ?_) λC=>?_
  ·rw[<- a];simp only[jz];rw[if_pos A,if_neg (wcd c)]
  have C:y.1=0:=wek.1 (wce C);refine Waa (jd6 o _ M.m.1 M.hM) waa λw hw=>?_;rw[<- hw]at a;refine wab (λc=>b (wcd c) ?_) λK=>?_
  ·rw[<- a];simp only[jz];rw[if_pos A,if_pos C,if_neg (wcd c)]
  have K:w.1=0:=wek.1 (wce K);refine Waa (jfo N hR o U.kn _) waa λv⟨q5,h5,Q⟩=>?_;have hq:q5=c:=Q.one M.c;subst hq;rw[<- show v=cD q5 from h5]at a;refine wab (λc=>b (wcd c) ?_) λO=>?_
  ·rw[<- a];simp only[jz];rw[if_pos A,if_pos C,if_pos K,if_neg (wcd c)]
  have O:v.1=0:=wek.1 (wce O);have f:D=ztm g.1.length bd.2.2.1 lt:=by
   rw[<- a];simp only[jz];rw[if_pos A,if_pos C,if_pos K,if_pos O];split
   ·rename_i h;unfold ztm at h⊢;split at h
    ·rename_i Q;rw[if_pos Q];exact(jai (by decide) h).symm
    ·cases h
   ·rfl
  refine Tt.J (λs=>∃(Z:Arr 256 Int)(z:jd)(d:jg)(e:jd)(p:List (List Int))(q:List Int)(u:List (List Int)),s=(g,Z,z,g,d,e,p,q,u)/\((e.1≠0/\D=e)\/(e.1=0/\bd.2.2.1=0/\d=bd.1))) (λny I=>?_) λs⟨Z,z,d,e,p,q,u,V,l⟩=>?_
  ·refine Waa hF waa λn hn=>?_;subst hn;refine Waa hB waa λd hd=>?_;subst hd;exact wab (λc=>I _ ⟨_,_,_,_,_,_,_,rfl,.inl ⟨by simp,by rw[f];unfold ztm;rw[if_neg (wcd c)]⟩⟩) λc=>I _ ⟨_,_,_,_,_,_,_,rfl,.inr ⟨rfl,by have:=wce c;omega,rfl⟩⟩
  ·subst V;dsimp only;rcases l with⟨l,E⟩|⟨l,E,h7⟩
   ·exact wah (wc9 l) (b l E)
   ·subst h7;refine wae (wcw (by omega)) ?_;refine Waa (jgm (by omega) bd.1 _ hl (hT E)) waa λX T=>?_;have h8:D=X:=by
     rw[f];unfold ztm;rw[if_pos E,T]
    have G:=H (g,Z,z,g,bd.1,X,p,q,u) ⟨_,_,_,_,_,_,_,by rw[h8],λ_=>⟨E,rfl⟩⟩;exact wab (λ_=>G) λ_=>G
 ·subst V;dsimp only;unfold jfz;refine wab (λc=>Tt.pure ?_) λc=>?_
  ·rw[if_neg (wcd c)]
  have c:D.1=0:=wek.1 (wce c);obtain⟨l,rfl⟩:=P c;rw[if_pos c];exact Waa R waa λt Y=>Waa (S l) waa λm hm=>Tt.pure (by rw[Y,hm])
theorem jay{g:jb}(k:Y1 g)(hz:(gFd g).1≠0):Tn (λl=>Je l g) (λr=>r=(zD,[],gFd g,())):=by
 unfold Je;refine Tt.J (λs=>s.2.2.2.2.2.1=gFd g) (λn i=>?_) λs j=>?_
 ·refine Waa (z0w g k _) waa λm h=>?_;exact wah (wc9 (by rw[h];exact hz)) (i _ h)
 ·obtain⟨a,b,c,d,e,f,x⟩:=s;dsimp only at j⊢;subst j;exact wah (wc9 hz) (Tt.pure rfl)
def Y9(st:List Bool)(x:Rx):List Bool:=
 if x.kind=1 then false::st else if x.kind=2 then true::st else match st with
 |[]=>[]
 |b::r=>if x.kind=5\/x.kind=7 then true::r else if x.kind=6 then b::r else match r with
  |[]=>[]
  |a::r=>if x.kind=3 then(a && b)::r else(a ||b)::r
theorem z0t(e:E):∀st,(post e).foldl Y9 st=vm e::st:=by
 induction e with
 |set=>intro st;simp[post,Y9,vm]
 |empty=>intro st;simp[post,Y9,Jh,vm]
 |cat a b c d=>intro st;simp[post,wej,c,d,Y9,Jh,vm]
 |alt a b c d=>intro st;simp[post,wej,c,d,Y9,Jh,vm]
 |star a f=>intro st;simp[post,wej,f,Y9,Jh,vm]
 |plus a f=>intro st;simp[post,wej,f,Y9,Jh,vm]
 |opt a f=>intro st;simp[post,wej,f,Y9,Jh,vm]
def nuB(f:jm):Bool:=f.1 && decide (f.2.1=0)
def zqr(f:jm):Prop:=f.1=true->0<=f.2.1/\f.2.1<=1099511627776
theorem cat_ex(a b:jm)(n:zqr a)(o:zqr b):Tn (λp=>Ys p a b) (λr=>zqr r/\nuB r=(nuB a && nuB b)):=by
 unfold Ys;refine Tt.J (λs=>(!(a.1 && b.1))=s.1/\a=s.2.1/\b=s.2.2.1) (λj d=>?_) (λs⟨k,l,m⟩=>?_)
 ·refine wad (wab (λc=>d _ ⟨?_,rfl,rfl⟩) λc=>d _ ⟨?_,rfl,rfl⟩)
  ·have:a.1=false:=by simpa using c
   simp[this]
  ·have:a.1=true:=by simpa using c
   simp[this]
 ·obtain⟨w,x,y,z⟩:=s;dsimp only at k l m⊢;subst k l m;refine wab (λc=>Tt.pure ⟨λh=>(by cases h),?_⟩) λc=>?_
  ·unfold nuB;cases e:a.1<;>cases f:b.1<;>simp[e,f]at c⊢
  have i:a.1=true/\b.1=true:=by simpa using c
  obtain⟨q,t⟩:=n i.1;obtain⟨u,v⟩:=o i.2;have g:∀r:jm,r.1=true->r.2.1=min (T.w64 (a.2.1+b.2.1)) 1099511627776->zqr r/\nuB r=(nuB a && nuB b):=λr e f=>by
   rw[wI (by omega) (by omega)]at f;refine⟨λ_=>by omega,?_⟩;unfold nuB;rw[e,i.1,i.2,wea,wea,wea,<- Bool.decide_and,wfo];omega
  refine Tt.J (λs=>s.2.2.2.1=true/\s.2.2.2.2.1=min (T.w64 (a.2.1+b.2.1)) 1099511627776) (λj d=>?_) (λs⟨e,f⟩=>?_)
  ·exact wab (λ_=>Waa (zj0 _ _) waa λ_ _=>d _ ⟨rfl,rfl⟩) λ_=>Waa (zj0 _ _) waa λ_ _=>d _ ⟨rfl,rfl⟩
  ·refine Tt.J (λs=>s.2.1=true/\s.2.2.1=min (T.w64 (a.2.1+b.2.1)) 1099511627776) (λj d=>?_) (λs⟨e,f⟩=>Tt.pure (g _ e f));exact wab (λ_=>Waa (zj0 _ _) waa λ_ _=>d _ ⟨e,f⟩) λ_=>d _ ⟨e,f⟩
theorem z9r(a b:jm)(g:zqr a)(h:zqr b):Tn (λk=>J7 k a b) (λr=>zqr r/\nuB r=(nuB a ||nuB b)):=by
 unfold J7;refine wab (λc=>Tt.pure ⟨h,?_⟩) λe=>wab (λc=>Tt.pure ⟨g,?_⟩) λf=>?_
 ·have:a.1=false:=by simpa using c
  unfold nuB;rw[this];simp
 ·have:b.1=false:=by simpa using c
  unfold nuB;rw[this];simp
 have e:a.1=true:=by simpa using e
 have f:b.1=true:=by simpa using f
 obtain⟨l,m⟩:=g e;obtain⟨n,o⟩:=h f;refine Tt.J (λs=>s.1=true/\s.2.1=min a.2.1 b.2.1) (λp d=>?_) (λs⟨i,j⟩=>Tt.pure ⟨λ_=>by omega,?_⟩)
 ·exact wab (λ_=>Waa (zj0 _ _) waa λ_ _=>Waa (zj0 _ _) waa λ_ _=>d _ ⟨rfl,rfl⟩) λ_=>Waa (zj0 _ _) waa λ_ _=>Waa (zj0 _ _) waa λ_ _=>d _ ⟨rfl,rfl⟩
 ·unfold nuB;rw[i,j,e,f,wea,wea,wea,<- Bool.decide_or,wfo];omega
theorem zum{α:Type}{l:List α}(h:l.length=1):∃a,l=[a]:=by
 match l,h with
 |[a],_=>exact⟨a,rfl⟩
theorem jc9{α:Type}{l:List α}(h:l.length=2):∃a b,l=[a,b]:=by
 match l,h with
 |[a,b],_=>exact⟨a,b,rfl⟩
theorem jkt(x:jf)(l:List jm)(n:Nat)(e:arK x.1=some n)(p:l.length=n)(m:∀f∈l,zqr f):Tn (λN=>J2 N x l) (λr=>zqr r/\∀st,Y9 ((l.map nuB).reverse++st) (qt x)=nuB r::st):=by
 have i:(qt x).kind=x.1:=rfl;have h0:zqr (true,0,0,false,⟨List.replicate 4 0,wch⟩,⟨List.replicate 4 0,wch⟩,()):=λ_=>⟨by decide,by decide⟩
 unfold J2;refine wab (λc=>?_) λA=>?_
 ·have c:=wcd c;rw[c]at e;cases e;have:=wfa.1 p;subst this;refine wab (λ_=>Tt.pure ⟨λh=>(by cases h),λst=>?_⟩) λ_=>Tt.pure ⟨λ_=>⟨by show(0:Int)<=1;decide,by show(1:Int)<=1099511627776;decide⟩,λst=>?_⟩
  ·unfold Y9;rw[i,if_pos c];rfl
  ·unfold Y9;rw[i,if_pos c];rfl
 have A:=wce A;refine wab (λc=>?_) λB=>wab (λc=>?_) λC=>wab (λc=>?_) λD=>?_
 ·have c:=wcd c;rw[c]at e;cases e;obtain⟨a,b,rfl⟩:=jc9 p;refine wac a rfl (wac b rfl (Waa (cat_ex a b (m _ (by simp)) (m _ (by simp))) waa λr⟨j,k⟩=>Tt.pure ⟨j,λst=>?_⟩));rw[k];unfold Y9;rw[i,c];rfl
 ·have c:=wcd c;rw[c]at e;cases e;obtain⟨a,b,rfl⟩:=jc9 p;refine wac a rfl (wac b rfl (Waa (z9r a b (m _ (by simp)) (m _ (by simp))) waa λr⟨j,k⟩=>Tt.pure ⟨j,λst=>?_⟩));rw[k];unfold Y9;rw[i,c];rfl
 ·have c:=wcd c;rw[c]at e;cases e;obtain⟨a,rfl⟩:=zum p;refine wac a rfl (Waa (z9r _ a h0 (m _ (by simp))) waa λr⟨j,k⟩=>Tt.pure ⟨j,λst=>?_⟩);rw[k];unfold Y9;rw[i,c];rfl
 ·have B:=wce B;have C:=wce C;have D:=wce D;refine Tt.J (λs=>l=s.1/\decide (x.1=5\/x.1=6)=s.2.1/\x=s.2.2.1/\(true,0,0,false,⟨List.replicate 4 0,wch⟩,⟨List.replicate 4 0,wch⟩,())=s.2.2.2.2) (λF d=>?_) (λs⟨u,v,G,H⟩=>?_)
  ·refine wad (wab (λc=>d _ ⟨rfl,?_,rfl,rfl⟩) λc=>wad (d _ ⟨rfl,?_,rfl,rfl⟩))
   ·have g:=wcd c;simp[g]
   ·have g:=wce c;simp[g]
  ·obtain⟨O,P,Q,R,S⟩:=s;dsimp only at u v G H⊢;subst u v G H;refine wab (λc=>?_) λc=>?_
   ·have c:=wcd c;have w:n=1:=by
     rcases c with c|c<;>(rw[c]at e;cases e;rfl)
    subst w;obtain⟨a,rfl⟩:=zum p;have E:=m a (by simp);refine wac a rfl ?_;refine Tt.J (λs=>x=s.1/\(true,0,0,false,⟨List.replicate 4 0,wch⟩,⟨List.replicate 4 0,wch⟩,())=s.2.2.1/\zqr s.2.2.2/\nuB s.2.2.2=nuB a) (λF d=>wab (λ_=>d _ ⟨rfl,rfl,E,rfl⟩) λ_=>d _ ⟨rfl,rfl,E,rfl⟩) (λs⟨u,v,y,q⟩=>?_);obtain⟨T,z,t,o⟩:=s;dsimp only at u v y q⊢;subst u v;refine Tt.J (λs=>zqr s.2/\∀st,Y9 ((([a]:List jm).map nuB).reverse++st) (qt x)=nuB s.2::st) (λF d=>?_) (λs M=>Tt.pure M);refine wab (λg=>Waa (z9r _ o h0 y) waa λr⟨j,k⟩=>d _ ⟨j,λst=>?_⟩) λg=>d _ ⟨y,λst=>?_⟩
    ·have g:=wcd g;rw[k];unfold Y9;rw[i,g];rfl
    ·have g:=wce g;have K:x.1=6:=c.resolve_left g;rw[q];unfold Y9;rw[i,K];rfl
   ·have c:=wce c;have L:x.1=2/\n=0:=by
     unfold arK at e;split at e
     ·omega
     ·split at e
      ·omega
      ·split at e
       ·cases e;omega
       ·cases e
    obtain⟨I,rfl⟩:=L;have:=wfa.1 p;subst this;refine Tt.pure ⟨h0,λst=>?_⟩;unfold Y9;rw[i,I];rfl
theorem jgd(l:List jf)(A:Vx l=0):Tn (λR=>Vr R l) (λr=>nuB r=vm (ql l)):=by
 have L:=Qx A;unfold Vr;refine Tt.J (λs=>nuB s.2=vm (ql l)) (λX F=>?_) (λs i=>Tt.pure i);refine Waa (z99 l (by have:=L.2;omega)) waa λe M=>?_;rw[A]at M;subst M;obtain⟨q,K⟩:=L;refine wae rfl ?_;refine Tt.loop (λm s=>∃(k:Nat)(f:jm)(st:List jm),k<=l.length/\m=l.length-k/\s=(l,(l.length:Int),(k:Int),f,st)/\zf5 (l.take k) 0=some st.length/\st.length<=k/\(∀f∈st,zqr f)/\((l.take k).map qt).foldl Y9 []=(st.map nuB).reverse) l.length waa ⟨0,_,[],by omega,by omega,rfl,rfl,by simp,by simp,rfl⟩ λm s⟨k,f,st,U,V,i,B,Q,t,d⟩ Y G=>?_;subst i;dsimp only;refine wab (λc=>?_) (λc=>?_)
 ·have c:=wcd c;have j:k<l.length:=by omega
  obtain⟨n,g,P,C⟩:=zpr q j B;have v:((l.take (k+1)).map qt).foldl Y9 []=Y9 (st.map nuB).reverse (qt l[k]):=by
   rw[wcn j,wdb,wej,d];rfl
  refine wac _ (atN j) ?_;refine Tt.J (λs=>s=((n:Int),l,(l.length:Int),(k:Int),f,st,l[k])) (λZ o=>?_) (λs i=>?_)
  ·refine Tt.J (λs=>∃b,s=(0,l,(l.length:Int),(k:Int),(l[k]).1,b,f,st,l[k])/\(b=true↔((l[k]).1=3\/(l[k]).1=4))) (λnz w=>?_) (λs⟨b,i,p⟩=>?_)
   ·refine wad (wab (λc=>w _ ⟨_,rfl,?_⟩) (λc=>wad (w _ ⟨_,rfl,?_⟩)))
    ·have:=wcd c;simp[this]
    ·have:=wce c;simp[this]
   ·subst i;dsimp only;refine wab (λc=>o _ ?_) (λc=>?_)
    ·have:=p.1 c;rw[arK,if_pos this]at g;cases g;rfl
    ·have z:¬((l[k]).1=3\/(l[k]).1=4):=λh=>by rw[p.2 h]at c;cases c
     refine Tt.J (λs=>∃b,s=(0,l,(l.length:Int),(k:Int),b,f,st,l[k])/\(b=true↔((l[k]).1=5\/(l[k]).1=6\/(l[k]).1=7))) (λW d=>?_) (λs⟨b,i,p⟩=>?_)
     ·refine wad (wab (λc=>d _ ⟨_,rfl,?_⟩) (λc=>wad (wab (λx=>d _ ⟨_,rfl,?_⟩) (λx=>wad (d _ ⟨_,rfl,?_⟩)))))
      ·have:=wcd c;simp[this]
      ·have:=wcd x;simp[this]
      ·have y:=wce c;have O:=wce x;simp[y,O]
     ·subst i;dsimp only;rw[arK,if_neg z]at g;refine wab (λc=>o _ ?_) (λc=>o _ ?_)
      ·rw[if_pos (p.1 c)]at g;cases g;rfl
      ·rw[if_neg (λh=>by rw[p.2 h]at c;cases c)]at g;split at g<;>cases g;rfl
  ·subst i;dsimp only;refine wad ?_;rw[wI (by omega) (by omega)];have N:(st.length:Int)-(n:Int)=((st.length-n:Nat):Int):=by omega
   rw[N];refine wac (st.length-n) (by unfold zxs;simp) ?_;have D:(st.drop (st.length-n)).length=n:=by rw[wdw];omega
   refine wac _ (yf (by simp;omega) (by omega)) ?_;rw[wei];refine Waa (jkt _ _ n g D λf E=>t f (we9 E)) waa.fst λr⟨S,T⟩=>?_;refine wac (st.take (st.length-n)) (by unfold Zb;simp) (wac _ (yf (by simp;omega) (by omega)) (wad ?_));rw[wI (by omega) (by omega)];have I:(st.take (st.length-n)++[r]).length=st.length-n+1:=by rw[wcu,wdl];simp
   refine G (l.length-(k+1)) _ (by omega) ⟨k+1,f,_,by omega,rfl,rfl,by rw[I];exact C,by rw[I];omega,λf E=>?_,?_⟩
   ·rcases wco.1 E with h|h
    ·exact t f (wez h)
    ·rw[wci.1 h];exact S
   ·have H:st.map nuB=(st.take (st.length-n)).map nuB++(st.drop (st.length-n)).map nuB:=by rw[<- wdb,wdq]
    rw[v,H,List.reverse_append,T,wdb,List.reverse_append];rfl
 ·have c:=wce c;have u:k=l.length:=by omega
  rw[u,wc2,q]at B;rw[u,wc2,zjo A,z0t]at d;have y:st.length=1:=(wdz B).symm;obtain⟨a,rfl⟩:=zum y;refine wac _ (qv (k:=0) (by simp)) (wac a rfl (F.fst _ ?_));simp at d;exact d.symm
theorem jah{l:List jf}(a:Vx l=0):zib l=vm (ql l):=by
 have d:Tn (λh=>vy h l) (λx=>x=vm (ql l)):=by
  unfold vy;refine Tt.bind (R:=λz=>decide (z=0)=vm (ql l)) ?_ λz hz=>Tt.pure hz;unfold Vz;refine Waa (jgd l a) waa λr b=>wab (λc=>Tt.pure ?_) λc=>Tt.pure ?_
  ·have c:r.1=false:=by simpa using c
   rw[<- b];unfold nuB;rw[c];rfl
  ·have c:r.1=true:=by simpa using c
   rw[<- b];unfold nuB;rw[c];rfl
 have e:=z61 l (by have:=(Qx a).2;omega);obtain⟨r,⟨N,f⟩,rfl⟩:=d;obtain⟨s,⟨M,g⟩,rfl⟩:=e;exact wdz ((g (N+M) (by omega)).symm.trans (f (N+M) (by omega)))
theorem of7(i:Nat)(c:Int):Qp i c=some (ofK c):=by
 unfold Qp J ofK;simp only[ja,ifB];by_cases a:c=1
 ·subst a;rfl
 by_cases b:c=2
 ·subst b;rfl
 by_cases d:c=3
 ·subst d;rfl
 by_cases e:c=4
 ·subst e;rfl
 by_cases f:c=5
 ·subst f;rfl
 by_cases g:c=6
 ·subst g;rfl
 by_cases h:c=7
 ·subst h;rfl
 simp[a,b,d,e,f,g,h]
abbrev mx(b:Bool):List (List Bool):=[[b]]
theorem wap{α:Type}{f:Nat->Option α}{r:α}(k:Nat)(h:∀n,f (n+k)=some r):Tn f (λx=>x=r):=⟨r,⟨k,λn a=>by
 obtain⟨m,rfl⟩:=Nat.exists_eq_add_of_le' a;exact h m⟩,rfl⟩
theorem e_same:Tn (λa=>zha a []) (λx=>x=mx true):=wap 8 λn=>by kernel_rfl
theorem e_set(a:Arr 4 Int):Tn (λb=>zji b a []) (λx=>x=mx false):=wap 8 λn=>by kernel_rfl
theorem jbm(a b:Bool):Tn (λc=>Yu c (mx a) (mx b) []) (λx=>x=mx (a ||b)):=wap 8 λn=>by cases a<;>cases b<;>kernel_rfl
theorem jjq(a b:Bool):Tn (λc=>za7 c (mx a) (mx b) []) (λx=>x=mx (a && b)):=wap 8 λn=>by cases a<;>cases b<;>kernel_rfl
theorem jca(a:Bool):Tn (λb=>zcg b (mx a) []) (λx=>x=mx a):=wap 12 λn=>by cases a<;>kernel_rfl
theorem ofK_ar{z:Int}{n:Nat}(h:arK z=some n):ofK z=(n:Int):=by
 unfold arK at h;unfold ofK;split at h
 ·rename_i c;cases h;rcases c with c|c<;>(subst c;rfl)
 ·split at h
  ·rename_i c;cases h;rcases c with c|c|c<;>(subst c;rfl)
  ·split at h
   ·rename_i c;cases h;rcases c with c|c<;>(subst c;rfl)
   ·cases h
theorem jjd(l:List jf)(V:Vx l=0):Tn (λT=>zcj T l []) (λr=>r=mx (vm (ql l))):=by
 have hW:=Qx V;obtain⟨L,U⟩:=hW;unfold zcj;refine Tt.loop (λm s=>∃(k:Nat)(st:List Bool),k<=l.length/\m=l.length-k/\s=(l,[],(k:Int),st.map mx)/\zf5 (l.take k) 0=some st.length/\st.length<=k/\((l.take k).map qt).foldl Y9 []=st.reverse) l.length waa ⟨0,[],by omega,rfl,rfl,by simp[zf5],by simp,rfl⟩ ?_;rintro _ _ ⟨k,st,hk,rfl,rfl,Q,a2,B⟩ nx S;dsimp only;refine wab (λc=>?_) (λc=>?_)
 ·have c:=wcd c;have w:k<l.length:=by omega
  obtain⟨n,e,I,R⟩:=zpr L w Q;have N:((l.take (k+1)).map qt).foldl Y9 []=Y9 st.reverse (qt l[k]):=by
   rw[wcn w,wdb,wej,B];rfl
  have g:(qt l[k]).kind=(l[k]).1:=rfl;have O:∀b,Y9 st.reverse (qt l[k])=b::(st.take (st.length-n)).reverse->Tt way.mul (λp=>ja (Zb (st.map mx) ((st.length-n:Nat):Int)) λr=>ja (apO 24 [] r) λs=>ja (apO 24 s [mx b]) λu=>ja (some (w64 ((k:Int)+1))) λv=>nx p (l,[],v,u)) (λr=>r=mx (vm (ql l))):=λb P=>by
   refine wac (st.map mx |>.take (st.length-n)) (by unfold Zb;simp) (wac _ (yf (by simp;omega) (by omega)) (wac _ (yf (by simp;omega) (by omega)) (wad ?_)));rw[wI (by omega) (by omega)];refine S (l.length-(k+1)) _ (by omega) ⟨k+1,st.take (st.length-n)++[b],by omega,rfl,by simp[List.map_take],by rw[R];simp,by simp;omega,?_⟩;rw[N,P];simp
  refine wac _ (atN w) (Waa (wap (f:=λT=>Qp T (l[k]).1) 0 λm=>of7 m (l[k]).1) waa.fst λq W=>?_);rw[ofK_ar e]at W;subst W;refine wad ?_;have Y:w64 (((st.map mx).length:Int)-(n:Int))=((st.length-n:Nat):Int):=by
   rw[wI (by simp;omega) (by simp;omega)];simp only[wcv];omega
  rw[Y];refine Waa e_same waa.fst λm i=>?_;subst i;refine wac _ (atN w) ?_;refine Tt.J (λs=>∃b,s=(l,[],(k:Int),((st.length-n:Nat):Int),mx b,st.map mx)/\Y9 st.reverse (qt l[k])=b::(st.take (st.length-n)).reverse) (λny o=>?_) (λs⟨b,hs,P⟩=>by subst hs;exact O b P);have two:n=2->∃a b r,st=r++[a,b]/\st.take (st.length-n)=r/\(st.map mx)[st.length-n]?=some (mx a)/\(st.map mx)[st.length-n+1]?=some (mx b):=λh=>by
   subst h;rcases List.eq_nil_or_concat st with h|⟨r,b,h⟩
   ·subst h;simp at I
   ·rcases List.eq_nil_or_concat r with A|⟨r2,a,A⟩
    ·subst A;subst h;simp at I
    ·refine⟨a,b,r2,by subst A;subst h;simp,by subst A;subst h;simp,?_,?_⟩
     ·subst A;subst h;simp
     ·subst A;subst h;simp
  have one:n=1->∃a r,st=r++[a]/\st.take (st.length-n)=r/\(st.map mx)[st.length-n]?=some (mx a):=λh=>by
   subst h;rcases List.eq_nil_or_concat st with h|⟨r,b,h⟩
   ·subst h;simp at I
   ·exact⟨b,r,by simpa using h,by subst h;simp,by subst h;simp⟩
  have zero:n=0->(st.take (st.length-n)).reverse=st.reverse:=λh=>by subst h;simp
  have d:∀{j:Nat}{x:List (List Bool)},(st.map mx)[j]?=some x->jw (st.map mx).length (j:Int)=some (j:Int)/\atL (st.map mx) (j:Int)=some x:=λ{j x}h=>⟨qv (wcg.1 h).1,Jo (by omega) (by simpa using h)⟩
  have X:w64 (((st.length-n:Nat):Int)+1)=((st.length-n+1:Nat):Int):=by rw[wI (by omega) (by omega)];omega
  refine wab (λC=>?_) λC=>?_
  ·have C:=wcd C;have h0:n=0:=by rw[C]at e;cases e;rfl
   refine wac _ (atN w) (Waa (e_set _) waa.fst λm i=>?_);subst i;exact o _ ⟨false,rfl,by rw[zero h0];unfold Y9;rw[g,if_pos C]⟩
  have C:=wce C;refine wab (λD=>?_) λD=>?_
  ·have D:=wcd D;obtain⟨a,b,r,y,z,t,K⟩:=two (by rw[D]at e;cases e;rfl);refine wac _ (d t).1 (wac _ (d t).2 ?_);rw[X];refine wac _ (d K).1 (wac _ (d K).2 (Waa (jjq a b) waa.fst λm i=>?_));subst i;exact o _ ⟨a && b,rfl,by rw[z,y];unfold Y9;rw[g,D];simp⟩
  have D:=wce D;refine wab (λE=>?_) λE=>?_
  ·have E:=wcd E;obtain⟨a,b,r,y,z,t,K⟩:=two (by rw[E]at e;cases e;rfl);refine wac _ (d t).1 (wac _ (d t).2 ?_);rw[X];refine wac _ (d K).1 (wac _ (d K).2 (Waa (jbm a b) waa.fst λm i=>?_));subst i;exact o _ ⟨a ||b,rfl,by rw[z,y];unfold Y9;rw[g,E];simp⟩
  have E:=wce E;refine wab (λH=>?_) λH=>?_
  ·have H:=wcd H;obtain⟨a,r,y,z,t⟩:=one (by rw[H]at e;cases e;rfl);refine wac _ (d t).1 (wac _ (d t).2 (Waa (jbm true a) waa.fst λm i=>?_));subst i;exact o _ ⟨true ||a,rfl,by rw[z,y];unfold Y9;rw[g,H];simp⟩
  have H:=wce H;refine wab (λG=>?_) λG=>?_
  ·have G:=wcd G;obtain⟨a,r,y,z,t⟩:=one (by rw[G]at e;cases e;rfl);refine wac _ (d t).1 (wac _ (d t).2 (Waa (jca a) waa.fst λm i=>?_));subst i;exact o _ ⟨a,rfl,by rw[z,y];unfold Y9;rw[g,G];simp⟩
  have G:=wce G;refine wab (λF=>?_) λF=>?_
  ·have F:=wcd F;obtain⟨a,r,y,z,t⟩:=one (by rw[F]at e;cases e;rfl);refine wac _ (d t).1 (wac _ (d t).2 (Waa (jca a) waa.fst λm i=>?_));subst i;refine Waa (jbm true a) waa.fst λm i=>?_;subst i;exact o _ ⟨true ||a,rfl,by rw[z,y];unfold Y9;rw[g,F];simp⟩
  have F:=wce F;have A:(l[k]).1=2/\n=0:=by
   unfold arK at e;split at e
   ·omega
   ·split at e
    ·omega
    ·split at e
     ·cases e;omega
     ·cases e
  exact o _ ⟨true,rfl,by rw[zero A.2];unfold Y9;rw[g,A.1];simp⟩
 ·have c:=wce c;have M:k=l.length:=by omega
  rw[M,wc2,L]at Q;rw[M,wc2,zjo V,z0t]at B;have Z:st.length=1:=(wdz Q).symm;obtain⟨a,rfl⟩:=zum Z;simp at B;refine wac _ (qv (k:=0) (by simp)) (wac (mx a) rfl (Tt.pure (by rw[B])))
theorem jmu{l:List jf}(a:Vx l=0):Tn (λf=>zdt f l []) (λb=>b=zib l):=by
 have o:=(Qx a).2;rw[jah a];unfold zdt;refine Tt.bind (R:=λr=>r=if vm (ql l)=true then [0]else []) (Tt.call (?_:Tn (λf=>zai f l [] 0) _) waa) λr j=>?_
 ·unfold zai;refine Tt.J (λs=>s=(l,[],0,false,[])) (λp e=>?_) (λs k=>?_)
  ·refine Waa (zgp l (by omega)) waa λc h=>?_;rw[a]at h;subst h;exact wad (wae rfl (wae rfl (e _ rfl)))
  ·subst k;refine wae rfl (Waa (jjd l a) waa λg i=>?_);subst i;refine wac [vm (ql l)] rfl ?_;cases vm (ql l)
   ·exact⟨_,⟨8,λn d=>by
     obtain⟨m,rfl⟩:=Nat.exists_eq_add_of_le' d;rfl⟩,rfl⟩
   ·exact⟨_,⟨8,λn d=>by
     obtain⟨m,rfl⟩:=Nat.exists_eq_add_of_le' d;rfl⟩,rfl⟩
 ·subst j;cases vm (ql l)
  ·exact Tt.pure rfl
  ·exact Tt.pure rfl
theorem znt(a:List (List Int))(n:a.length<=1000000)(i:∀l∈a,l.length<=1000000):Tn (λk=>V4 k a a) (λb=>b=true):=by
 unfold V4;refine wae (wcw (by simp)) ?_;refine Tt.loop (λm s=>∃d:Nat,d<=a.length/\m=a.length-d/\s=(a,a,(d:Int))) a.length waa ⟨0,by omega,by omega,rfl⟩ λm s⟨d,o,p,j⟩ q g=>?_;subst j;dsimp only;refine wab (λc=>?_) λc=>Tt.pure rfl;have c:=wcd c;have f:d<a.length:=by omega
 have e:=i _ (wcm f);refine wac _ (atN f) (wac _ (atN f) (Waa (zfm _ _ e e) waa.fst λb h=>?_));subst h;refine wae (by simp) (wad ?_);rw[wI (by omega) (by omega)];exact g (a.length-(d+1)) _ (by omega) ⟨d+1,by omega,rfl,rfl⟩
theorem zz9(a:jg)(q:a.2.2.1.length<=1000000)(j:∀l∈a.2.2.1,l.length<=1000000)(h:a.2.2.2.1.length<=1000000):Tn (λk=>zdn k a a) (λb=>b=true):=by
 unfold zdn;refine Tt.J (λs=>s=(false,a,a)) (λn g=>?_) λs i=>?_
 ·refine wad (wae (by simp) (wae (wcw (by simp)) (wae (wcw (by simp)) (Waa (zfm _ _ h h) waa λb h=>g _ ?_))));subst h;simp
 ·subst i;refine wae rfl ?_;refine Tt.loop (λm s=>∃d:Nat,d<=a.2.2.1.length/\m=a.2.2.1.length-d/\s=((d:Int),a,a)) a.2.2.1.length waa ⟨0,by omega,by omega,rfl⟩ λm s⟨d,o,p,i⟩ n g=>?_;subst i;dsimp only;refine wab (λc=>?_) λc=>Tt.pure rfl;have c:=wcd c;have f:d<a.2.2.1.length:=by omega
  have e:=j _ (wcm f);refine wac _ (atN f) (wac _ (atN f) (Waa (zfm _ _ e e) waa.fst λb h=>?_));subst h;refine wae (by simp) (wad ?_);rw[wI (by omega) (by omega)];exact g (a.2.2.1.length-(d+1)) _ (by omega) ⟨d+1,by omega,rfl,rfl⟩
theorem z71{kd:Int}{l:List Bool}{k:Nat}(a:k<l.length)(h:fsF kd l 0=fsF kd (l.drop k) k):(l[k]=true->fsF kd l 0=fsF kd (l.drop (k+1)) (k+1))/\(l[k]=false->fsF kd l 0=(kd,(k:Int),0,())):=by
 rw[wc0 a]at h;refine⟨λe=>?_,λe=>?_⟩
 ·rw[h,e];rfl
 ·rw[h,e];rfl
theorem z92{g:jb}(P:zc4 g)(U:g.1.length<=12)(hz:gFd g=zd){re mk:List Bool}{c:Int×Int×Int}(M:Tn (λl=>yn l g) (λr=>r=re))(R:re.length=g.2.1.length)(L:Tn (λl=>Vt l g) (λr=>r=mk))(Q:mk.length=g.2.1.length)(K:Tn (λl=>Qn l g) (λr=>r.1=cD c))(O:c.1=0->cD c=zd):Tn (λl=>Vb l g) (λd=>d=jz (jn1 g re mk c)):=by
 have D:=jgr hz;have T:=D.r;have p:=z5a hz;unfold Vb jn1;simp only[jz];refine Waa (ziv g P) waa λd G=>?_;rw[hz]at G;subst G;refine wae rfl ?_;refine Tt.loop (λm s=>∃k:Nat,k<=g.1.length/\m=g.1.length-k/\s=((k:Int),g,(0,0,0,()))/\jff g=fs2 10 0 ((g.1.drop k).map λx=>!zib x.2.1) k) g.1.length waa ⟨0,by omega,by omega,rfl,rfl⟩ λm s⟨k,H,I,q,a⟩ V A=>?_;subst q;dsimp only;refine wab (λo=>?_) λo=>?_
 ·have o:=wcd o;have f:k<g.1.length:=by omega
  rw[wc0 f,wc4]at a;refine wac _ (atN f) (Waa (jmu (p _ (wcm f))) waa.fst λb N=>?_);subst N;refine wab (λi=>Tt.pure ?_) λi=>wad ?_
  ·rw[i]at a;have e:jff g=(10,(k:Int),0,()):=a;rw[e];rfl
  ·rw[i]at a;rw[wI (by omega) (by omega)];exact A (g.1.length-(k+1)) _ (by omega) ⟨k+1,by omega,rfl,rfl,a⟩
 have o:=wce o;have w:(jff g).1=0:=by
  rw[a,wdu (by omega)];rfl
 rw[if_pos w];refine Waa M waa.fst λr F=>Waa L waa.fst λn z=>?_;subst F z;refine Tt.loop (λm s=>∃k:Nat,k<=g.2.1.length/\m=g.2.1.length-k/\s=(r,n,(k:Int),g,(0,0,0,()))/\fsF 13 r 0=fsF 13 (r.drop k) k) g.2.1.length waa.fst ⟨0,by omega,by omega,rfl,rfl⟩ λm s⟨k,H,I,q,a⟩ W B=>?_;subst q;dsimp only;refine wab (λi=>?_) λi=>?_
 ·have i:=wcd i;have f:k<r.length:=by omega
  obtain⟨u,v⟩:=z71 f a;refine wac _ (atN f) (wab (λj=>Tt.pure ?_) λj=>wad ?_)
  ·rw[v (by simpa using j)];rfl
  ·rw[wI (by omega) (by omega)];exact B (g.2.1.length-(k+1)) _ (by omega) ⟨k+1,by omega,rfl,rfl,u (by simpa using j)⟩
 have i:=wce i;have E:(fsF 13 r 0).1=0:=by
  rw[a,wdu (by omega)];rfl
 rw[if_pos E];refine Tt.loop (λm s=>∃k:Nat,k<=g.2.1.length/\m=g.2.1.length-k/\s=(n,(k:Int),g,(0,0,0,()))/\fsF 14 n 0=fsF 14 (n.drop k) k) g.2.1.length waa.fst.fst ⟨0,by omega,by omega,rfl,rfl⟩ λm s⟨k,H,I,q,a⟩ X C=>?_;subst q;dsimp only;refine wab (λj=>?_) λj=>?_
 ·have j:=wcd j;have f:k<n.length:=by omega
  obtain⟨u,v⟩:=z71 f a;refine wac _ (atN f) (wab (λt=>Tt.pure ?_) λt=>wad ?_)
  ·rw[v (by simpa using t)];rfl
  ·rw[wI (by omega) (by omega)];exact C (g.2.1.length-(k+1)) _ (by omega) ⟨k+1,by omega,rfl,rfl,u (by simpa using t)⟩
 ·have j:=wce j;have y:(fsF 14 n 0).1=0:=by
   rw[a,wdu (by omega)];rfl
  rw[if_pos y];refine Waa K waa.fst.fst.fst λx S=>Tt.pure ?_;rw[S];split
  ·rename_i h;exact O h
  ·rfl
theorem jbc{g:jb}(X:g.1.length<=12){P:List jd}{n:jk}{bd:jg×Int×Int×Unit}{lt:List Int}{F:jg}{E:List (List Int)×Int×Unit}(K:Tn (λf=>Vb f g) (λd=>d=jz P))(I:Tn (λf=>zaw f g.1) (λr=>r=n))(H:Tn (λf=>Zu f n g.2.2.2.2.1) (λr=>r=bd))(L:bd.2.2.1=0->Tn (λf=>ya f bd.1) (λr=>∀x,x∈r↔x∈lt))(w:bd.2.2.1=0->Tn (λf=>ya f bd.1) (λr=>r.length<=1000000))(y:bd.2.2.1=0->Tn (λf=>Ve f bd.1) (λr=>r=F))(v:Tn (λf=>Vn f g) (λr=>r=E)):Tn (λf=>Jr f g) (λr=>r=jfz (jz (P++[ztm g.1.length bd.2.2.1 lt])) F E.1):=by
 rw[vk];unfold Jr jfz;refine Waa K waa λd N=>?_;rw[<- N];refine wab (λc=>Tt.pure ?_) λc=>?_
 ·have c:=wcd c;rw[if_neg c,if_neg c]
 have c:d.1=0:=wek.1 (wce c);rw[if_pos c];refine Waa I waa λY Q=>?_;subst Q;refine Waa H waa λb M=>?_;subst M;refine wab (λj=>Tt.pure ?_) λj=>?_
 ·have j:=wcd j;have e:jz [ztm g.1.length b.2.2.1 lt]=(16,0,0,()):=by unfold ztm;rw[if_neg j];rfl
  rw[e];rfl
 have j:b.2.2.1=0:=wek.1 (wce j);have e:jz [ztm g.1.length b.2.2.1 lt]=fs2 13 1 ((List.range g.1.length).map λ(i:Nat)=>decide ((i:Int)∈lt)) 0:=by
  unfold ztm;rw[if_pos j];simp only[jz];split
  ·rename_i h;exact(jai (by decide) h).symm
  ·rfl
 rw[e];refine Waa (wbt (L j) (w j)) waa λl⟨O,z⟩=>?_;generalize D:((List.range g.1.length).map λ(i:Nat)=>decide ((i:Int)∈lt))=q;have S:q.length=g.1.length:=by rw[<- D];simp
 have B:∀(i:Nat)(h:i<q.length),q[i]=decide ((i:Int)∈l):=λi h=>by
  have G:decide ((i:Int)∈l)=decide ((i:Int)∈lt):=by rw[wfo];exact O _
  rw[G];simp[<- D]
 refine Tt.loop (λm s=>∃i:Nat,i<=g.1.length/\m=g.1.length-i/\s=(l,(i:Int),g,⟨List.replicate 256 0,wch⟩,0,(0,0,0,()),b.1,[],[])/\fs2 13 1 q 0=fs2 13 1 (q.drop i) i) g.1.length waa ⟨0,by omega,by omega,rfl,rfl⟩ λm s⟨i,V,W,U,a⟩ Z A=>?_;subst U;dsimp only;refine wab (λp=>?_) λp=>?_
 ·have p:=wcd p;have u:i<q.length:=by omega
  rw[wc0 u,B i u]at a;refine Waa (zbm l _ z) waa.fst λo R=>?_;rw[<- R]at a;refine wab (λk=>Tt.pure ?_) λk=>wad ?_
  ·have k:o=false:=by simpa using k
   rw[k]at a;rw[a];rfl
  ·have k:o=true:=by simpa using k
   rw[k]at a;rw[wI (by omega) (by omega)];exact A (g.1.length-(i+1)) _ (by omega) ⟨i+1,by omega,rfl,rfl,a⟩
 ·have p:=wce p;rw[wdu (by omega)]at a;rw[a];exact Waa v waa.fst λt C=>Waa (y j) waa.fst λr T=>Tt.pure (by rw[C,T];rfl)
theorem z4h{g:jb}(e:zc4 g)(hz:(gFd g).1≠0):Tn (λb=>Jr b g) (λr=>r=(zD,[],gFd g,())):=by
 have c:Tn (λb=>Vb b g) (λd=>d=gFd g):=by
  unfold Vb;refine Waa (ziv g e) waa λd a=>?_;subst a;exact wah (wc9 hz) (Tt.pure rfl)
 unfold Jr;refine Waa c waa λd a=>?_;subst a;exact wah (wc9 hz) (Tt.pure rfl)
theorem jlj{d:jg}{a:Nat->Bool}(b:DSz d):(zn2 d a).2.2.1.length<=1000000/\(∀l∈(zn2 d a).2.2.1,l.length<=1000000)/\(zn2 d a).2.2.2.1.length<=1000000:=by
 have f:=b.n;have g:=zun a d.2.2.1.length;unfold zn2;refine⟨by simp only[wcv];omega,λl e=>?_,by simp only[wcv];omega⟩;obtain⟨i,c,rfl⟩:=wcz.1 e;have h:=jkm c;have j:=b.r _ (zga (l:=d.2.2.1) (z:=(i:Int)) (by omega) (by omega));rw[wcv];omega
theorem jl6{d:jg}{E:Nat->Nat->Bool}(h:Eqv E)(l:ClsAt E d.1 256)(n:d.2.1=((qm E 256).length:Int))(c:DSz d)(hm:MOk d){m:Nat}(s:m<=1000000)(g:∀x∈d.2.2.2.1, -1<=x/\x<(m:Int)):∃lt,lt.length<=1000000/\Tn (λa=>zw a d) (λr=>r=lt)/\Tn (λa=>ya a d) (λr=>∀x,x∈r↔x∈lt)/\Tn (λa=>ya a d) (λr=>r.length<=1000000)/\∃o,Tn (λa=>Yj a d) (λr=>r=zn2 d o)/\Tn (λa=>Ve a d) (λr=>r=zn2 d o):=by
 have j:=jdz h l n c hm λx e=>(g x e).1;have k:=zzc h l n c hm λx e=>(g x e).1;obtain⟨lt,p,q,f⟩:=(jbk d c hm j).val;have b:=zw4 k c hm;refine⟨lt,by omega,p,b.mono λr b x=>(b.2 x).trans (f x).symm,b.mono λr b=>?_,_,jl0 d c hm j,jam d c hm k⟩;have t:RN m r:=⟨b.1,λx e=>by
  obtain⟨i,_,u,v⟩:=(b.2 x).1 e;exact⟨v,(g x (wck u)).2⟩⟩
 have:=t.len;omega
theorem zww{g:jb}{r:jg×List (List Int)×jd×Unit}(t:Tn (λa=>Je a g) (λx=>x=r))(u:Tn (λa=>Jr a g) (λx=>x=r))(f:r.1.2.2.1.length<=1000000/\(∀l∈r.1.2.2.1,l.length<=1000000)/\r.1.2.2.2.1.length<=1000000)(q:r.2.1.length<=1000000/\∀l∈r.2.1,l.length<=1000000)(v:Tn (λa=>Zd a g) (λb=>b=true)):Tn (λa=>y8 a g) (λb=>b=true):=by
 have h:Tn (λa=>Jz a g) (λx=>x=r.2.2.1):=by
  unfold Jz;exact Waa t waa λx o=>Tt.pure (by rw[o])
 have m:Tn (λa=>zat a g) (λx=>x=r.2.2.1):=by
  unfold zat;exact Waa u waa λx o=>Tt.pure (by rw[o])
 unfold y8;refine Waa v waa λb e=>?_;subst e;refine wae rfl (Waa t waa λc w=>Waa u waa λd y=>?_);subst w y;refine Tt.J (λb=>b=true) (λD n=>?_) λs C=>Tt.pure C;refine Waa (zz9 _ f.1 f.2.1 f.2.2) waa λb e=>?_;subst e;refine wah rfl (Waa (znt _ q.1 q.2) waa λb e=>?_);subst e;have p:∀x:jd,zzq [x.1 == x.1,x.2.1 == x.2.1,x.2.2.1 == x.2.2.1]=true:=λx=>by simp[zzq]
 refine wah rfl (wah (p _) (Waa h waa λi z=>Waa m waa λj A=>?_));subst z A;exact wah (p _) (Waa zr3 waa λk B=>n _ B)
theorem zD_b:(zD:jg).2.2.1.length<=1000000/\(∀l∈(zD:jg).2.2.1,l.length<=1000000)/\(zD:jg).2.2.2.1.length<=1000000:=by simp
theorem zs8(g:jb)(hg:jot g)(hn:(∀x∈g.1,x.1.length<=9223372036854775807)/\(∀x∈g.2.1,x.length<=9223372036854775807)/\∀x∈g.2.2.1,x.2.1.length<=9223372036854775807)(ho:∀t∈g.1,∀x∈t.2.1,zdl x.2.1):Tn (λu=>y8 u g) (λb=>b=true):=by
 obtain⟨b,hS,A⟩:=(jfv g hg).val;cases b with
 |false=>
  unfold y8;refine Waa hS waa λb A=>?_;subst A;exact wah rfl (Waa zr3 waa λr E=>Tt.pure E)
 |true=>
 have A:=A rfl;have h1:=A.t;have h2:=A.r;have h3:=A.p;have h4:=A.n;have X:=A.s;have K:Y1 g:=⟨⟨by omega,by omega,by omega⟩,λx hx=>by have:=z65 hx;omega⟩
 have v:zc4 g:=⟨K,hn.1,hn.2.1,hn.2.2⟩
 by_cases hz:gFd g=zd
 rotate_left
 ·have W:(gFd g).1≠0:=λh=>hz (z1i h);exact zww (jay K W) (z4h v W) zD_b (by simp) hS
 obtain⟨a1,y⟩:=ji0 K hz;obtain⟨em,re,mk,al,B,c,L⟩:=FmA_of K hz;have M:=L.k;have f:=M.kn
 -- the reference's sets
 obtain⟨r2,V,b6⟩:=(z0b g v hz y).val;obtain⟨m2,b2,b7⟩:=(zr6 g v hz y true).val;obtain⟨e2,a9,b5⟩:=(zr6 g v hz y false).val;obtain rfl:=z59 b6 ⟨f.hrl,f.rest,f.recl,M.res⟩;obtain rfl:=z5q b7 L.m;obtain rfl:=z5q b5 ⟨f.hel,M.emt,M.ems⟩;have hM:Tn (λu=>Vt u g) (λr=>r=m2):=by
  unfold Vt;exact Waa b2 waa λr E=>Tt.pure E
 have hE:Tn (λu=>zz u g) (λr=>r=e2):=by
  unfold zz;exact Waa a9 waa λr E=>Tt.pure E
 have Y:EmX g e2 al:=⟨⟨hE,f.hel,f.fic⟩,M.als⟩
 have hF:=z26 g v hz y Y V f.hrl f.hBl M.Bs f.hBe f.foc;have hC:Tn (λu=>Qn u g) (λr=>r.1=cD c):=(z14 v hz y Y hF f.hBl f.hBr).mono λr⟨d,e,hd⟩=>by
  rw[e,hd.one L.c]
 have a8:c.1=0->cD c=zd:=λh=>by
  rcases L.c with⟨rfl,_⟩|⟨q,rfl,_⟩
  ·rfl
  ·cases h
 have hP:=z92 v (by omega) hz V f.hrl hM L.m.1 hC a8
 -- the tables
 obtain⟨tb,a4,T⟩:=(jdv K a1 y f).val;have S:Tn (λu=>Vn u g) (λr=>r=tb):=(z94 v hz y Y hF f.hBl f.hBr).mono λr E=>E.one T;have a5:tb.1.length<=1000000/\∀l∈tb.1,l.length<=1000000:=by
  obtain⟨d,_,k1,k2⟩:=T;by_cases e:d.1=0
  ·obtain⟨ll,rfl,U⟩:=k2 e;refine⟨by have:=U.n;dsimp only;omega,λl hl=>?_⟩;obtain⟨i,hi⟩:=wdc hl;have:=U.w i l hi;omega
  ·rw[k1 e];simp
 -- the machines
 have I:=z5a hz;obtain⟨H,hZ,hO⟩:=netK_R I (by omega);have G:=z18 (P:=zdl) ho g.1.length (wcq _);have F:=jan hz;obtain⟨z,hB,a,ha,C⟩:=(jft (Vh g.1 g.1.length) (N:=zbd g.1) (by omega) hZ G H g.2.2.2.2.1 F X).val;have J:Tn (λu=>Z4 u (Vh g.1 g.1.length) g.2.2.2.2.1) (λr=>r=z):=(jfj (Vh g.1 g.1.length) (N:=zbd g.1) (by omega) hZ G H _ F X).mono λr⟨a',a7,E⟩=>by
  obtain rfl:=ClsAt.one a7 ha;rw[E,C]
 have a0:=joi g.1 (by omega) I (by omega);have R:=jbz g.1 (by omega) I (by omega);have Q:=zgn (Vh g.1 g.1.length).1;have hW:=zb8 (Vv (Vh g.1 g.1.length).1) 256;have hD:DSz z.1:=by
  rw[C];exact jln ⟨_,znj Q ha⟩ hW F X
 have j:∃lt O,lt.length<=1000000/\(O.2.2.1.length<=1000000/\(∀l∈O.2.2.1,l.length<=1000000)/\O.2.2.2.1.length<=1000000)/\(z.2.2.1=0->Tn (λu=>zw u z.1) (λr=>r=lt)/\Tn (λu=>ya u z.1) (λr=>∀x,x∈r↔x∈lt)/\Tn (λu=>ya u z.1) (λr=>r.length<=1000000)/\Tn (λu=>Yj u z.1) (λr=>r=O)/\Tn (λu=>Ve u z.1) (λr=>r=O)):=by
  by_cases h0:z.2.2.1=0
  rotate_left
  ·exact⟨[],zD,by simp,zD_b,λh=>absurd h h0⟩
  have hs:∃q,zly (Vh g.1 g.1.length) a (qm (Vv (Vh g.1 g.1.length).1) 256).length g.2.2.2.2.1 202 0 [[]] [] []=some (some q):=by
   rw[C]at h0;cases e:zly (Vh g.1 g.1.length) a (qm (Vv (Vh g.1 g.1.length).1) 256).length g.2.2.2.2.1 202 0 [[]] [] []with
   |none=>rw[e]at h0;cases h0
   |some o=>
    cases o with
    |none=>rw[e]at h0;cases h0
    |some q=>exact⟨q,rfl⟩
  obtain⟨q,hq⟩:=hs;obtain⟨hm,hl⟩:=jhn hW F (m:=(g.1.length:Int)) (by omega) hO H.o hq;have D:z.1=(a,((qm (Vv (Vh g.1 g.1.length).1) 256).length:Int),q.2.1,q.2.2,()):=by rw[C,hq];rfl
  obtain⟨lt,k1,k2,k3,k4,kp,k5,k6⟩:=jl6 (d:=z.1) Q (by rw[D];exact ha) (by rw[D]) hD (by rw[D];exact hm) (m:=g.1.length) (by omega) (by rw[D];exact hl);exact⟨lt,_,k1,jlj hD,λ_=>⟨k2,k3,k4,k5,k6⟩⟩
 obtain⟨lt,O,b1,b4,j⟩:=j;have Z:=jh4 K (by omega) hz L a0 J (λh=>(j h).1) b1 (λh=>(j h).2.2.2.1) a4;have a2:=jbc (by omega) hP R hB (λh=>(j h).2.1) (λh=>(j h).2.2.1) (λh=>(j h).2.2.2.2) S;refine zww Z a2 ?_ ?_ hS
 ·unfold jfz;split
  ·exact b4
  ·exact zD_b
 ·unfold jfz;split
  ·exact a5
  ·simp
theorem ji4{s:Arr 4 Int}(h:∀x∈s.l,OkI .u64 x):zdl s:=λk=>by
 by_cases a:k<s.l.length
 ·have e:s.l.getD k 0=s.l[k]:=by simp[List.getD,a]
  rw[e];exact OkI.u64 (h _ (wcm a))
 ·have e:s.l.getD k 0=0:=by simp[List.getD,a]
  rw[e];omega
theorem AcceptTells_row(c:jb)(c0:OkD jc c):Tn (λe=>y8 e c) (λb=>b=true):=
 zs8 c ⟨wdk c0.1.1 (by decide),wdk c0.2.1.1 (by decide),wdk c0.2.2.1.1 (by decide)⟩ ⟨λx a=>wdk (c0.1.2 x a).1 (by decide),λx a=>wdk (c0.2.1.2 x a) (by decide),λx a=>wdk (c0.2.2.1.2 x a).2.1.1 (by decide)⟩ λt d x a=>ji4 ((c0.1.2 t d).2.1.2 x a).2.1
end
end Go.Proofs.YtigdmmgklieofaaGreat.T
