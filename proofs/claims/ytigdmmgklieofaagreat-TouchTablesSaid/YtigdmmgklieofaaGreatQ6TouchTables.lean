
import Derived.Test.YtigdmmgklieofaaGreatQ5TouchTables

namespace Go.Proofs.YtigdmmgklieofaaGreat.T
noncomputable section
open _root_.Go.Proofs.Tryz
set_option maxRecDepth 100000
set_option maxHeartbeats 8000000
set_option linter.unusedVariables false
set_option linter.unusedSimpArgs false
set_option linter.defProp false
open List (replicate range)
open Go Go.RowKit L
def ShutI(em:W8)(tok:Int)(M:W8):List jj->Prop
 |[]=>True
 |x::l=>if x.1=true then M[x.2.1.toNat]?=some true/\(em.getD x.2.1.toNat false=true->ShutI em tok M l)else tok≠x.2.1
def MoreM(M a:W8):Prop:=∀i:Nat,M[i]?=some true->a[i]?=some true
def ShutI.mono{em:W8}{tok:Int}{M a:W8}(h:MoreM M a):∀{l:Wam jj},ShutI em tok M l->ShutI em tok a l
 |[],_=>trivial
 |x::l,k=>by unfold ShutI at k⊢;split;{rename_i c;rw[if_pos c]at k;exact⟨h _ k.1,λb=>ShutI.mono h (k.2 b)⟩};grind
def CloM(ps:List jk)(em:W8)(tok:Int)(M a:W8):Prop:=∀i:Nat,a[i]?=some true->M[i]?=some true\/∀p∈ps,p.1=(i:Int)->ShutI em tok a p.2.1
def CloM.refl{ps:Wam jk}{em:W8}{tok:Int}(M:W8):CloM ps em tok M M:=λi h=> .inl h
def CloM.trans{ps:Wam jk}{em:W8}{tok:Int}{A B C:W8}(h:CloM ps em tok A B)(k:CloM ps em tok B C)(hm:MoreM B C):CloM ps em tok A C:=λi d=>by rcases k i d with b|b;{rcases h i b with c|c;{grind};.exact .inr λp e a=>(c p e a).mono hm};grind
structure StX(g:jb)(em:List Bool)(tok:Int)(l:List jj)(been:List Bool)(r:Bool×List Bool):Prop where
 ln:r.2.length=g.2.1.length
 c:yx r.2<=yx been
 m:MoreM been r.2
 s:r.1=false->ShutI em tok r.2 l/\CloM g.2.2.1 em tok been r.2
def MoreM.set{M:W8}{z:Nat}:MoreM M (M.set z true):=λi h=>jal h
def MoreM.trans{A B C:W8}(h:MoreM A B)(k:MoreM B C):MoreM A C:=λi a=>k i (h i a)
def zus(g:jb)(H:GOk g)(em:W8)(b6:em.length=g.2.1.length)(tok:Int):∀k l a,yx a<k->a.length=g.2.1.length->(∀x∈l,zdn g x)->l.length<=1000000->Tt Fi.two (λi=>yg i.1 i.2 (g,em,l,tok,a)) (StX g em tok l a)
 |0,_,_,h,_,_,_=>U
 |k+1,l,a,hk,b4,b8,e4=>by
  refine zla (b:=λi=>Qt i.1 (yg i.1 i.2) (g,em,l,tok,a)) ?_ λn m=>zq8 n m _;unfold Qt;have e7:=H.p;refine Tt.loop (λm s=>∃d e,d<=l.length/\m=l.length-d/\s=(em,l,tok,(d:Int),e,g)/\e.length=g.2.1.length/\yx e<=yx a/\MoreM a e/\CloM g.2.2.1 em tok a e/\(∀M,MoreM e M->ShutI em tok M (l.drop d)->ShutI em tok M l)) l.length Big.two ⟨0,a,U,Wab,rfl,b4,wcs _,λi h=>h,CloM.refl _,λM _ h=>h⟩ λm s⟨d,e,hd,hm,hs,f,Q,C,R,F⟩ nx c0=>?_;subst hs;dsimp only;refine wad (λc=>?_) λc=>Tt.pure ⟨f,Q,C,λ_=>⟨F e (λi h=>h) ?_,R⟩⟩;rotate_left
  {rw[wdu U];trivial};have Y:d<l.length:=U;rw[wcy Y]at F;have y:=atN Y;have hx:=b8 _ (wcm Y);generalize l[d]=x at F y hx;refine wac _ y (wab (λP=>wac _ y (Tt.pure ⟨f,Q,C,λh=>⟨F e (λi h=>h) ?_,R⟩⟩)) λP=>?_);{have h:=wck h;have P:x.1=false:=by{simpa using P};unfold ShutI;grind}
  .have P:x.1=true:=by{simpa using P};obtain⟨i1,i2⟩:=hx;rw[if_pos P]at i2;obtain⟨z,hz⟩:∃z:Nat,x.2.1=z:=⟨x.2.1.toNat,U⟩
   have v:z<e.length:=U;have a7:z<em.length:=U;have O:∀M,MoreM e M->M[z]?=some true->(em[z]=true->ShutI em tok M (l.drop (d+1)))->ShutI em tok M l:=λM hM h1 h2=>F M hM (by
    unfold ShutI;rw[if_pos P,hz,wcz];exact⟨h1,λh=>h2 (by rwa [jht a7]at h)⟩)
   refine Tt.J (λs=>∃b o,s=(em,l,tok,(d:Int),b,o,g)/\o.length=g.2.1.length/\yx o<=yx a/\MoreM e o/\(b=false->o[z]?=some true/\CloM g.2.2.1 em tok e o)) (λnq Z=>?_) λs⟨b,o,hs,ho,S,u,hb⟩=>?_
   .refine wac _ y ?_;rw[hz];refine waj v (Tt.at v (wab (λc2=>Z _ ⟨_,_,rfl,f,Q,λi h=>h,λ_=>⟨by rw[wch v,c2],CloM.refl _⟩⟩) λc2=>waj v (wac _ (yw true v) ?_)));have e0:=zg2 (by rw[wch v,c2]);have d0:(e.set z true)[z]?=some true:=X;refine Tt.loop (λm s=>∃i w,i<=g.2.2.1.length/\m=g.2.2.1.length-i/\s=(em,(z:Int),tok,(i:Int),w,g)/\w.length=g.2.1.length/\yx w<yx a/\MoreM (e.set z true) w/\CloM g.2.2.1 em tok (e.set z true) w/\∀j p,j<i->g.2.2.1[j]?=some p->p.1=(z:Int)->ShutI em tok w p.2.1) g.2.2.1.length Big.two.fst ⟨0,_,U,Wab,rfl,by rw[wdz];exact f,U,λi h=>h,CloM.refl _,λj p h=>U⟩ λm2 s⟨i,w,hi,e5,hs,T,a2,t,L,a6⟩ ny c7=>?_;subst hs;dsimp only;refine wad (λc3=>?_) λc3=>(Z _ ⟨_,_,rfl,T,U,MoreM.set.trans t,λ_=>⟨t _ d0,λj hj=>?_⟩⟩).fst;rotate_left
    {have a1:∀p∈g.2.2.1,p.1=(z:Int)->ShutI em tok w p.2.1:=λp hp=>by{obtain⟨j,hj⟩:=wdc hp;exact a6 j p (by have:=(wcl.1 hj).1;omega) hj};rcases L j hj with h|h;{by_cases e1:j=z;{subst e1;exact .inr a1};.rw[wdf,if_neg (λh=>e1 h.symm)]at h;exact .inl h};.exact .inr h};have B:i<g.2.2.1.length:=U;have A:=atN B;have b7:=wch B;have D:=wcm B;generalize g.2.2.1[i]=p at A D b7;refine Tt.J (λs=>∃(b:Bool)(I:W8),s=(em,(z:Int),tok,(i:Int),b,I,g)/\I.length=g.2.1.length/\yx I<yx a/\MoreM w I/\(b=false->CloM g.2.2.1 em tok w I/\(p.1=(z:Int)->ShutI em tok I p.2.1))) (λnu a5=>?_) λs⟨b,I,hs,a3,b5,G,hb⟩=>?_;{refine wac _ A (Tt.b1 (wad (λc4=>wac _ A ?_) λc4=>a5 _ ⟨_,_,rfl,T,a2,λi h=>h,λ_=>⟨CloM.refl _,λh=>absurd h c4⟩⟩));have ih:=zus g H em b6 tok k p.2.1 w U T (H.items p D) (by have:=H.len p D;omega);exact Tt.bind ih.fst.fst λr⟨r1,r2,r3,r4⟩=>a5 _ ⟨_,_,rfl,r1,U,r3,λh=>⟨(r4 h).2,λ_=>(r4 h).1⟩⟩};.subst hs;dsimp only;refine wab (λc5=>(Z _ ⟨_,_,rfl,a3,U,(MoreM.set.trans t).trans G,λh=>X⟩).fst) λc5=>wai ?_;obtain⟨b1,b2⟩:=hb U;refine c7 (g.2.2.1.length-(i+1)) _ U ⟨i+1,I,U,rfl,rfl,a3,b5,t.trans G,L.trans b1 G,λj q hj hq c9=>?_⟩;by_cases b9:j<i;{exact(a6 j q b9 hq c9).mono G};grind
   .subst hs;dsimp only;refine wab (λc5=>Tt.pure ⟨ho,S,C.trans u,λh=>X⟩) λc5=>wac _ y ?_;rw[hz];obtain⟨b1,b2⟩:=hb U;have N:=R.trans b2 u;refine Tt.at a7 (wab (λc6=>Tt.pure ⟨ho,S,C.trans u,λ_=>⟨O o u b1 λh=>?_,N⟩⟩) λc6=>Tt.b1 ?_);{grind};rw[wI U U];refine c0 (l.length-(d+1)) _ U ⟨d+1,o,U,rfl,rfl,ho,S,C.trans u,N,λM hM h=>O M (u.trans hM) (hM _ b1) λ_=>h⟩
def jvl{ps:Wam jk}{em:W8}{tok:Int}{M:W8}(c:∀p∈ps,0<=p.1)(f:∀i:Nat,M[i]?=some true->∀p∈ps,p.1=(i:Int)->ShutI em tok M p.2.1){l:Wam jj}(h:FiL em ps tok l):¬ShutI em tok M l:=by induction h with|tok a b=>{intro k;unfold ShutI at k;rw[if_neg (by rw[a];simp)]at k;exact k b}|rule a e g _ d=>{intro k;unfold ShutI at k;rw[if_pos a]at k;have:=c _ e;exact d (f _ k.1 _ e U)}|skip a b _ d=>intro k;unfold ShutI at k;rw[if_pos a]at k;exact d (k.2 b)
def z4c(l:W7)(b:Nat)(g:l.length<=1000000)(o:b<=1000000)(i:∀x∈l,0<=x/\x<=1000000):Tn (λn=>Yy n l (b:Int)) (λr=>r=l.map λx=>x+(b:Int)):=by unfold Yy;refine Tt.b1 (wac _ (mkN g U) ?_);refine Tt.loop (λm s=>∃(k:Nat)(out:W7),k<=l.length/\m=l.length-k/\s=(l,(b:Int),(l.length:Int),(k:Int),out)/\out.length=l.length/\out.take k=(l.take k).map λx=>x+(b:Int)) l.length waa ⟨0,_,U,U,rfl,V,rfl⟩ λm s⟨k,out,p,q,h,f,e⟩ t d=>?_;subst h;dsimp only;refine wab (λc=>?_) (λc=>Tt.pure ?_);{have c:=wcj c;have a:k<l.length:=U;have j:=i _ (wcm a);refine wac _ (atN a) (wac _ (vn U) (wac _ (yw _ U) (Tt.b1 ?_)));rw[wI (z:=(k:Int)+1) U U,wI U U];refine d (l.length-(k+1)) _ U ⟨k+1,out.set k (l[k]+b),U,rfl,rfl,by simp[f],?_⟩;rw[wcp a,wc8,<- e,wcp W];congr 1;{rw[List.take_set_of_le U]};.simp};.have c:=wck c;have:k=l.length:=U;rw[this,wc7,<- f,wc7]at e;exact e
def jc8(l:W7)(b:Nat)(n:l.length<=1000000)(i:b<=1000000)(f:∀x∈l,0<=x/\x<=1000000):Tn (λh=>Yw h l (b:Int)) (λr=>r=l.map λx=>x+(b:Int)):=by unfold Yw;refine Tt.loop (λm s=>∃k:Nat,k<=l.length/\m=l.length-k/\s=(l,(b:Int),(k:Int),(l.take k).map λx=>x+(b:Int))) l.length waa ⟨0,U,U,rfl⟩ λm s⟨k,j,o,e⟩ p d=>?_;subst e;dsimp only;refine wab (λc=>?_) (λc=>Tt.pure ?_);{have c:=wcj c;have a:k<l.length:=U;have g:=f _ (wcm a);refine wac _ (atN a) (wac _ (ye W U) (Tt.b1 ?_));rw[wI (z:=(k:Int)+1) U U,wI U U];refine d (l.length-(k+1)) _ U ⟨k+1,U,rfl,?_⟩;rw[wcp a,wc8];rfl};.have c:=wck c;have:k=l.length:=U;rw[this,wc7]
def Yo(n:jl)(t:Nat)(l:List jh)(j:Nat):jl:=
 (n.1++(zx l).take j,n.2.1++replicate j (t:Int),n.2.2.1++(range j).map (λ(i:Nat)=>decide ((i:Int)∈vk (qm l) 0)),n.2.2.2.1++(range j).map (λ(i:Nat)=>(zzq (qm l) i).map λx=>x+(n.1.length:Int)),n.2.2.2.2.1,())
def zrx(n:jl)(t:Nat)(l:List jh):jl:=
 let m:=Yo n t l (jv (qm l))
 (m.1,m.2.1,m.2.2.1,m.2.2.2.1,n.2.2.2.2.1++(qj (qm l) 0).map (λx=>x+(n.1.length:Int)),())
def Ym(l:List jw):Nat->jl
 |0=>([],[],[],[],[],())
 |k+1=>zrx (Ym l k) k (l.getD k ([],[],0,())).2.1
def zm4{l:Wam jw}{k:Nat}(a:k<l.length):Ym l (k+1)=zrx (Ym l k) k (l[k]).2.1:=by show zrx (Ym l k) k (l.getD k ([],[],0,())).2.1=_;rw[we1,wch a];rfl
structure NetI(k:Nat)(n:jl):Prop where
 o:n.2.1.length=n.1.length
 l:n.2.2.1.length=n.1.length
 f:n.2.2.2.1.length=n.1.length
 ob:∀x∈n.2.1,0<=x/\x<(k:Int)
 fr:∀x∈n.2.2.2.1,RN n.1.length x/\x.length<=512
 fi:RN n.1.length n.2.2.2.2.1
def jhv{l:W7}(b:Int)(h:jx l):jx (l.map λx=>x+b):=by unfold jx at h⊢;rw[List.pairwise_map];exact h.imp λh=>U
def jrp{l:W7}{n b m:Nat}(h:RN n l)(hm:b+n<=m):RN m (l.map λx=>x+(b:Int)):=⟨jhv _ h.r,λx a=>by
 obtain⟨y,c,rfl⟩:=wc6.1 a;have:=h.b y c;omega⟩
def z0n{n:jl}{t:Nat}{l:Wam jh}{j:Nat}(a:j<=(zx l).length):(Yo n t l j).1.length=n.1.length+j:=by unfold Yo;simp[a]
def NetI.next{k:Nat}{n:jl}(h:NetI k n){l:Wam jh}(j:Y3 l=0):NetI (k+1) (zrx n k l)/\(zrx n k l).1.length=n.1.length+(zx l).length:=by
 have e:=zi4 j;have q:=zfs j;have c:(zrx n k l).1.length=n.1.length+(zx l).length:=by{show(Yo n k l (jv (qm l))).1.length=_;rw[z0n U,e]};refine⟨⟨?_,?_,?_,λx a=>?_,λx a=>?_,?_⟩,c⟩;{rw[c];simp[zrx,Yo,h.o,e]};{rw[c];simp[zrx,Yo,h.l,e]};{rw[c];simp[zrx,Yo,h.f,e]}
 .simp only[zrx,Yo,wcu,List.mem_replicate]at a;rcases a with a|⟨_,rfl⟩
  {have:=h.ob x a;omega};.omega
 .simp only[zrx,Yo,wcu,wc6,wed]at a;rcases a with a|⟨i,t,rfl⟩
  {obtain⟨d,p⟩:=h.fr x a;exact⟨d.up U,p⟩};.have g:=z8b (qm l) i;refine⟨jrp g U,?_⟩;rw[wc0];have:=g.len;omega
 .have d:=h.fi;have g:=jrp (b:=n.1.length) (m:=(zrx n k l).1.length) (zfa (qm l) 0 (jv (qm l)) U) U;show RN _ (n.2.2.2.2.1++(qj (qm l) 0).map (λx=>x+(n.1.length:Int)));refine⟨?_,λx a=>?_⟩;{unfold jx;rw[wel];refine⟨d.r,jhv _ (V7 (qm l) 0).1,λx a y s=>?_⟩;obtain⟨z,hz,rfl⟩:=wc6.1 s;have:=d.b x a;have:=(V7 (qm l) 0).2 z hz;omega};.rcases wcu.1 a with a|a;{exact(d.up U).b x a};.exact g.b x a
def zmt{l:Wam jw}(c:∀t∈l,Y3 t.2.1=0):∀k,k<=l.length->NetI k (Ym l k)/\(Ym l k).1.length<=zdt (l.take k)
 |0,_=>⟨⟨rfl,rfl,rfl,λx b=>by simp[Ym]at b,λx b=>by simp[Ym]at b,RN.nil _⟩,by simp[Ym]⟩
 |k+1,j=>by
  obtain⟨d,f⟩:=zmt c k U;rw[zm4 U,z4h U];have a:=c _ (wcm (show k<l.length by omega));obtain⟨e,g⟩:=d.next a
  refine⟨e,?_⟩;have h:=zi4 a;have i:=zt4 (zxy a);have:=(V6 a).2;omega
def z5k{l:Wam jw}{P:Wb->Prop}(b:∀t∈l,∀x∈t.2.1,P x.2.1):∀k,k<=l.length->∀s∈(Ym l k).1,P s
 |0,_,s,a=>by simp[Ym]at a
 |k+1,d,s,a=>by rw[zm4 U]at a;simp only[zrx,Yo,wcu]at a;rcases a with a|a;{exact z5k b k U s a};.have a:=wfj a;unfold zx at a;obtain⟨x,c,rfl⟩:=wc6.1 a;exact b _ (wcm (show k<l.length by omega)) x (weo.1 c).1
def z6e{n:jl}{t:Nat}{l:Wam jh}{j:Nat}(a:j<(zx l).length):Yo n t l (j+1)=((Yo n t l j).1++[(zx l)[j]],(Yo n t l j).2.1++[(t:Int)],(Yo n t l j).2.2.1++[decide ((j:Int)∈vk (qm l) 0)],(Yo n t l j).2.2.2.1++[(zzq (qm l) j).map λx=>x+(n.1.length:Int)],n.2.2.2.2.1,()):=by unfold Yo;simp only[we5,wc8,wda,wec,wc4];rw[wcp a,List.replicate_succ']
def jnl{n:jl}{t:Nat}{l:Wam jh}:Yo n t l 0=n:=by unfold Yo;simp
def jsv(l:Wam jw)(hl:l.length<=50)(D:∀t∈l,Y3 t.2.1=0)(hN:zdt l<=1000):Tn (λnn=>zew nn l) (λr=>r=Ym l l.length):=by
 unfold zew;refine Tt.loop (λm s=>∃(k:Nat)(y:W6)(z:W7)(A:W8)(B:W4)(C:W7),k<=l.length/\m=l.length-k/\s=(l,(l.length:Int),(k:Int),y,z,A,B,C,(Ym l k).1,(Ym l k).2.1,(Ym l k).2.2.1,(Ym l k).2.2.2.1,(Ym l k).2.2.2.2.1)) l.length waa ⟨0,_,_,_,_,_,U,U,rfl⟩ λm s⟨k,y,z,A,B,C,Y,hm,O⟩ nx M=>?_;subst O;dsimp only;refine wab (λc=>?_) (λc=>?_)
 .have c:=wcj c;have d:k<l.length:=U;have a:=D _ (wcm d);obtain⟨q,J⟩:=zmt D k Y;have i:=(zmt D (k+1) d).2;have e:=zm4 d;have w:∀{j},j<=l.length->zdt (l.take j)<=1000:=λ{j}T=>by
   refine wdv ?_ hN;have:zdt l=zdt (l.take j)+zdt (l.drop j):=by
    conv=>lhs;rw[<- wd0 j l]
    unfold zdt;rw[wc8,List.sum_append]
   omega
  have a0:=w Y;have R:=w (j:=k+1) d;have h:=(q.next a).2;rw[e,h]at i;refine wac _ (atN d) (Tt.b1 ?_);generalize l[k]=t at a e h i⊢;have a9:=zi4 a;have L:=zfs a;refine Waj (jl4 _ a) waa.fst λla I=>?_;subst I;refine Waj (jj9 _ a) waa.fst λse P=>?_;subst P;generalize hn:Ym l k=n at q J h e i⊢;refine Tt.loop (λm s=>∃(j:Nat),j<=(zx t.2.1).length/\m=(zx t.2.1).length-j/\s=(l,(k:Int),t.2.1,(n.1.length:Int),vk (qm t.2.1) 0,(l.length:Int),(k:Int),zx t.2.1,((zx t.2.1).length:Int),(j:Int),y,z,A,B,C,(Yo n k t.2.1 j).1,(Yo n k t.2.1 j).2.1,(Yo n k t.2.1 j).2.2.1,(Yo n k t.2.1 j).2.2.2.1,n.2.2.2.2.1)) (zx t.2.1).length waa.fst ⟨0,U,U,by rw[jnl];rfl⟩ λm s⟨j,T,hm,O⟩ ny N=>?_;subst O;dsimp only;have a1:=z0n (n:=n) (t:=k) T;have a2:(Yo n k t.2.1 j).2.1.length=n.1.length+j:=by{simp[Yo,q.o]};have a3:(Yo n k t.2.1 j).2.2.1.length=n.1.length+j:=by{simp[Yo,q.l]};have a4:(Yo n k t.2.1 j).2.2.2.1.length=n.1.length+j:=by{simp[Yo,q.f]};refine wab (λc=>?_) (λc=>?_);{have c:=wcj c;have d:j<(zx t.2.1).length:=U;have v:=zjx (qm t.2.1) 0 (jv (qm t.2.1)) U;have a6:=v.len;have g:=z8b (qm t.2.1) j;have u:=g.len;refine wac _ (atN d) (wac _ (ye W U) (wac _ (ye W U) ?_));refine Waj (Has_ex _ _ (by simpa using(show(vk (qm t.2.1) (0:Nat)).length<=1000000 by omega)) v.r) waa.fst.fst λr hr=>?_;subst hr;refine wac _ (ye W U) ?_;refine Waj (jdu _ a j U) waa.fst.fst λf F=>?_;subst F;refine Waj (z4c _ n.1.length U U λx Q=>by have:=g.b x Q;omega) waa.fst.fst λZ p=>?_;subst p;refine wac _ (ye W U) (Tt.b1 ?_);rw[wI U U];exact N ((zx t.2.1).length-(j+1)) _ U ⟨j+1,U,rfl,by rw[z6e d];rfl⟩};.have c:=wck c;have G:j=jv (qm t.2.1):=U;have g:=zfa (qm t.2.1) 0 (jv (qm t.2.1)) U;have u:=g.len;have a8:=q.fi.len;refine Waj (jet _ a) waa.fst.fst λf F=>?_;subst F;refine Waj (z4c _ n.1.length (by simpa using(show(qj (qm t.2.1) (0:Nat)).length<=1000000 by omega)) U λx Q=>by have:=g.b x Q;omega) waa.fst.fst λZ p=>?_;subst p;have S:(qj (qm t.2.1) 0).length<=512:=by{simpa using wdv u L};refine wac _ (ye W U) (Tt.b1 ?_);rw[wI U U];exact(M (l.length-(k+1)) _ U ⟨k+1,_,_,_,_,_,U,rfl,by rw[e,G];rfl⟩).fst
 .have H:k=l.length:=by{have c:=wck c;omega};rw[H];exact Tt.pure rfl
def jfn(l:Wam jw)(hl:l.length<=50)(D:∀t∈l,Y3 t.2.1=0)(hN:zdt l<=1000):Tn (λnn=>zcb nn l) (λr=>r=Ym l l.length):=by
 unfold zcb;refine Tt.loop (λm s=>∃(k:Nat)(y:W6)(z:W7)(A:W8)(B:W4)(C:W7),k<=l.length/\m=l.length-k/\s=(l,(k:Int),y,z,A,B,C,(Ym l k).1,(Ym l k).2.1,(Ym l k).2.2.1,(Ym l k).2.2.2.1,(Ym l k).2.2.2.2.1)) l.length waa ⟨0,_,_,_,_,_,U,U,rfl⟩ λm s⟨k,y,z,A,B,C,Z,hm,P⟩ nx N=>?_;subst P;dsimp only;refine wab (λc=>?_) (λc=>?_)
 .have c:=wcj c;have d:k<l.length:=U;have a:=D _ (wcm d);obtain⟨u,hK⟩:=zmt D k Z;have p:=(zmt D (k+1) d).2;have e:=zm4 d;have w:∀{j},j<=l.length->zdt (l.take j)<=1000:=λ{j}Y=>by
   refine wdv ?_ hN;have:zdt l=zdt (l.take j)+zdt (l.drop j):=by
    conv=>lhs;rw[<- wd0 j l]
    unfold zdt;rw[wc8,List.sum_append]
   omega
  have a5:=w Z;have S:=w (j:=k+1) d;have i:=(u.next a).2;rw[e,i]at p;have g:=atN d;refine Tt.b1 (wac _ g ?_);generalize l[k]=t at a e i p g⊢;have b0:=zi4 a;have M:=zfs a;refine Waj (zzv _ a) waa.fst λse Q=>?_;subst Q;refine wac _ g (Waj (z7o _ a) waa.fst λla I=>?_);subst I;generalize hn:Ym l k=n at u hK i e p⊢;refine Tt.loop (λm s=>∃(j:Nat),j<=(zx t.2.1).length/\m=(zx t.2.1).length-j/\s=(l,(k:Int),(n.1.length:Int),zx t.2.1,vk (qm t.2.1) 0,(j:Int),y,z,A,B,C,(Yo n k t.2.1 j).1,(Yo n k t.2.1 j).2.1,(Yo n k t.2.1 j).2.2.1,(Yo n k t.2.1 j).2.2.2.1,n.2.2.2.2.1)) (zx t.2.1).length waa.fst ⟨0,U,U,by rw[jnl];rfl⟩ λm s⟨j,Y,hm,P⟩ ny O=>?_;subst P;dsimp only;have a1:=z0n (n:=n) (t:=k) Y;have a2:(Yo n k t.2.1 j).2.1.length=n.1.length+j:=by{simp[Yo,u.o]};have a3:(Yo n k t.2.1 j).2.2.1.length=n.1.length+j:=by{simp[Yo,u.l]};have a4:(Yo n k t.2.1 j).2.2.2.1.length=n.1.length+j:=by{simp[Yo,u.f]};refine wab (λc=>?_) (λc=>?_);{have c:=wcj c;have d:j<(zx t.2.1).length:=U;have L:=zjx (qm t.2.1) 0 (jv (qm t.2.1)) U;have a7:=L.len;have h:=z8b (qm t.2.1) j;have v:=h.len;refine wac _ (atN d) (wac _ (ye W U) (wac _ (ye W U) ?_));refine Waj (zdz _ _ (by simpa using(show(vk (qm t.2.1) (0:Nat)).length<=1000000 by omega))) waa.fst.fst λr hr=>?_;subst hr;refine wac _ (ye W U) (wac _ g ?_);refine Waj (zx7 _ a j U) waa.fst.fst λf F=>?_;subst F;refine Waj (jc8 _ n.1.length U U λx R=>by have:=h.b x R;omega) waa.fst.fst λJ q=>?_;subst q;refine wac _ (ye W U) (Tt.b1 ?_);rw[wI U U];exact O ((zx t.2.1).length-(j+1)) _ U ⟨j+1,U,rfl,by rw[z6e d];rfl⟩};.have c:=wck c;have G:j=jv (qm t.2.1):=U;have h:=zfa (qm t.2.1) 0 (jv (qm t.2.1)) U;have v:=h.len;have a9:=u.fi.len;refine wac _ g (Waj (z2b _ a) waa.fst.fst λf F=>?_);subst F;refine Waj (jc8 _ n.1.length (by simpa using(show(qj (qm t.2.1) (0:Nat)).length<=1000000 by omega)) U λx R=>by have:=h.b x R;omega) waa.fst.fst λJ q=>?_;subst q;have T:(qj (qm t.2.1) 0).length<=512:=by{simpa using wdv v M};refine wac _ (ye W U) (Tt.b1 ?_);rw[wI U U];exact(N (l.length-(k+1)) _ U ⟨k+1,_,_,_,_,_,U,rfl,by rw[e,G];rfl⟩).fst
 .have H:k=l.length:=by{have c:=wck c;omega};rw[H];exact Tt.pure rfl
def netK_R{l:Wam jw}(c:∀t∈l,Y3 t.2.1=0)(d:zdt l<=1000):z7p (Ym l l.length)/\zkv (zdt l) 60000 (Ym l l.length)/\∀x∈(Ym l l.length).2.1,0<=x/\x<(l.length:Int):=by obtain⟨h,b⟩:=zmt c l.length (wcs _);rw[wc7]at b;refine⟨?_,⟨b,?_,?_,?_,λx a=>(h.fr x a).2,?_⟩,h.ob⟩;{exact⟨⟨h.o,h.l,h.f,h.fi,λx a=>(h.fr x a).1⟩,λx a=>(h.ob x a).1⟩};{rw[h.o];omega};{rw[h.l];omega};{rw[h.f];omega};.have:=h.fi.len;omega
def jow{E:Nat->Nat->Bool}(h:Eqv E){k:Nat}(a:k<256):(cls E k<(qw E k).length/\(qw E (k+1)).length=(qw E k).length)\/(cls E k=(qw E k).length/\(qw E (k+1)).length=(qw E k).length+1):=by obtain⟨b,c⟩:=zz5 h a;grind
def zh9{d:jd}{i:Nat}(hi:i<d.2.2.1.length){c:Nat}(a:c<(d.2.2.1[i]).length):nxt d i (c:Int)=(d.2.2.1[i])[c]:=by show at' (at' d.2.2.1 (i:Int)) (c:Int)=_;rw[yf hi,yf a]
def wrI{z:Int}(a : -9223372036854775808<=z)(b:z<=9223372036854775807):wr .i64 z=z:=zbv a b
def z19{E:Nat->Nat->Bool}(h:Eqv E){a:Wa}(j:ClsAt E a 256):Tn (λp=>zed p a) (λr=>r=true):=by unfold zed;refine Tt.loop (λm s=>∃k,k<=256/\m=256-k/\s=(((qw E k).length:Int),(k:Int),a)) 256 waa ⟨0,U,Wab,rfl⟩ λm s⟨k,q,t,g⟩ u f=>?_;subst g;dsimp only;refine wad (λc=>?_) λc=>Tt.pure rfl;have b:k<256:=U;have d:atL a.l (k:Int)=some (cls E k:Int):=Qf U (by simpa using j.c k b);have o:=zeb E k;have n:=jow h b;refine Tt.J (λs=>s=(((qw E (k+1)).length:Int),(k:Int),a)) (λv e=>?_) λs g=>?_;{refine waj b (wac _ d ?_);rw[wrI U U];refine wae (wc3 U) (waj b (wac _ d ?_));rw[wrI U U];refine wad (λi=>Tt.b1 (e _ ?_)) λi=>e _ ?_;{rw[wI U U];grind};grind};.subst g;dsimp only;refine wai ?_;exact f (256-(k+1)) _ U ⟨k+1,U,rfl,rfl⟩
def zn4{E:Nat->Nat->Bool}(h:Eqv E){a:Wa}(f:ClsAt E a 256):Tn (λn=>Ja n a) (λr=>r=((qw E 256).length:Int)):=by unfold Ja;refine Tt.loop (λm s=>∃k,k<=256/\m=256-k/\s=(((qw E k).length:Int),(k:Int),a)) 256 waa ⟨0,U,Wab,rfl⟩ λm s⟨k,o,p,j⟩ q e=>?_;subst j;dsimp only;refine wad (λc=>?_) λc=>Tt.pure ?_;{have b:k<256:=U;have d:atL a.l (k:Int)=some (cls E k:Int):=Qf U (by simpa using f.c k b);have i:=zeb E k;have g:=jow h b;refine waj b (wac _ d (Tt.b1 (Tt.b1 ?_)));rw[wrI U U,wI U U,wI U U];refine e (256-(k+1)) _ U ⟨k+1,U,rfl,?_⟩;grind};grind
def z3r{d:jd}{E:Nat->Nat->Bool}(h:Eqv E)(o:ClsAt E d.1 256)(L:d.2.1=((qw E 256).length:Int))(w:DSz d)(hm:MOk d)(y:∀x∈d.2.2.2.1, -1<=x):Tn (λB=>Jb B d) (λr=>r=true):=by have I:=zeb E 256;have M:=hm.n0;have t:=hm.lab;have G:=w.n;unfold Jb;refine Tt.J (λs=>s=(false,d)) (λC i=>?_) λs b=>?_;{refine Waj (z19 h o) waa λr l=>?_;subst l;refine Tt.b1 (wae rfl (Waj (zn4 h o) waa λr l=>?_));subst l;refine wae (wc3 U) (wae (wc3 U) (i _ ?_));grind};subst b;refine wae rfl (Tt.loop (λm s=>∃k,k<=d.2.2.1.length/\m=d.2.2.1.length-k/\s=((k:Int),d)) d.2.2.1.length waa ⟨0,U,U,rfl⟩ λm s⟨k,F,A,b⟩ C i=>?_);subst b;dsimp only;refine wad (λc=>?_) λc=>Tt.pure rfl;have g:k<d.2.2.1.length:=U;have a:=atN g;have p:((d.2.2.1[k]).length:Int)=d.2.1:=by{have:=hm.row k U U;rw[yf g]at this;omega};have e:∀c(o:c<(d.2.2.1[k]).length), -1<=(d.2.2.1[k])[c]/\(d.2.2.1[k])[c]<d.2.2.1.length:=λc o=>by{have : -1<=nxt d k (c:Int)/\nxt d k (c:Int)<d.2.2.1.length:=hm.nx k c U U U U;rw[zh9 g o]at this;omega};refine Tt.J (λs=>s=((k:Int),false,d)) (λD j=>?_) λs b=>?_;{refine wac _ a (Tt.b1 (wae (wc3 U) (Tt.at (show k<d.2.2.2.1.length by omega) (j _ ?_))));have:=y _ (wcm (show k<d.2.2.2.1.length by omega));rw[wc3 U]};subst b;refine wae rfl ?_;dsimp only;generalize d.2.2.1[k]=row at a p e;refine Tt.loop (λm s=>∃c,c<=row.length/\m=row.length-c/\s=((k:Int),(c:Int),d)) row.length waa.fst ⟨0,U,Wab,rfl⟩ λm s⟨c,v,z,b⟩ D j=>?_;subst b;dsimp only;refine wad (λu=>?_) λu=>?_;{have f:c<row.length:=U;have H:=e c f;refine Tt.J (λs=>s=((k:Int),(c:Int),false,d)) (λN q=>?_) λs b=>?_;{refine wac _ a (Tt.at f (Tt.b1 (wae (wc3 U) (wac _ a (Tt.at f (q _ ?_))))));grind};.subst b;refine wae rfl (Tt.b1 ?_);dsimp only;rw[wI U U];exact j (row.length-(c+1)) _ U ⟨c+1,U,rfl,rfl⟩};.refine wai ?_;exact(i (d.2.2.1.length-(k+1)) _ U ⟨k+1,U,rfl,rfl⟩).fst
def zkj{d:jd}(hR:Tn (λnn=>Jb nn d) (λr=>r=true))(hd:DSz d)(hm:MOk d):Tn (λnn=>Q4 nn d) (λr=>r=Zj d.2.2.1.length (dE d) (λi=>i=0)):=by
 have M:0<d.2.2.1.length:=hm.n0;have hn:=hd.n;have hw:=hm.w;have d7:0<=d.2.1:=hw.1;have d8:d.2.1<=256:=hw.2;unfold Q4;refine Waj hR waa λr hr=>?_;subst hr;refine wae rfl (Tt.b1 (wac _ (mkN U U) (wac _ (vn (by simpa using M)) (wac _ (yw (k:=0) true (by simpa using M)) ?_))));generalize hN:d.2.2.1.length=N at M hn⊢;have a7:onB ((replicate N false).set 0 true) 0:=(yr (by simpa using M)).2 (.inl rfl);have c0:offs ((replicate N false).set 0 true)+1=offs (replicate N false):=zl7 (by simp[M]);have S:=zxz (replicate N false);rw[wci]at S;have b6:∀i,onB ((replicate N false).set 0 true) i->Rch (dE d) (λi=>i=0) i:=λi hi=>by{rcases(yr (by simpa using M)).1 hi with h|h;{exact .base h.symm};.exact absurd h zmu};refine Tt.loop (λm s=>∃(k:Nat)(a:W8),k<=N/\m=N-k/\s=((k:Int),d,a)/\a.length=N/\onB a 0/\(∀i,onB a i->Rch (dE d) (λi=>i=0) i)/\(a=Zj N (dE d) (λi=>i=0)\/offs a+k<=N-1)) N waa ⟨0,_,U,U,rfl,V,a7,b6,.inr U⟩ λm s⟨k,a,hk,d4,A,ha,a3,a5,a4⟩ nx b2=>?_;subst A;dsimp only;rw[ha];refine wab (λc=>?_) λc=>Tt.pure ?_;rotate_left
 {grind};have c:=wcj c;refine Tt.loop (λm s=>∃(i:Nat)(b:W8),i<=N/\m=N-i/\s=((k:Int),(i:Int),d,b)/\b.length=N/\LeB a b/\(∀i,onB b i->Rch (dE d) (λi=>i=0) i)/\(a=b->∀o,o<i->∀j,onB a o->dE d o j->onB a j)) N waa.fst ⟨0,a,U,U,rfl,ha,LeB.refl a,a5,λ_ o h=>U⟩ λm s⟨i,b,hi,d3,A,G,f,g,H⟩ ny b3=>?_;subst A;dsimp only;rw[G];refine wab (λP=>?_) λP=>?_
 .have P:=wcj P;have a9:i<N:=U;have I:i<d.2.2.1.length:=U;have F:=atN I;have Y:((d.2.2.1[i]).length:Int)=d.2.1:=by{have:=hm.row i U U;rw[yf (l:=d.2.2.1) I]at this;omega};have v:∀(c:Nat)(L:c<(d.2.2.1[i]).length),nxt d i c=(d.2.2.1[i])[c]:=λc L=>zh9 I L;have B:∀(c:Nat)(L:c<(d.2.2.1[i]).length), -1<=(d.2.2.1[i])[c]/\(d.2.2.1[i])[c]<d.2.2.1.length:=λc L=>by{have : -1<=nxt d i (c:Int)/\nxt d i (c:Int)<d.2.2.1.length:=hm.nx i c U U U U;rw[v c L]at this;exact this};generalize d.2.2.1[i]=row at F Y B v;refine Tt.loop (λm s=>∃(c:Nat)(b:W8),c<=row.length/\m=row.length-c/\s=((k:Int),(i:Int),(c:Int),d,b)/\b.length=N/\LeB a b/\(∀i,onB b i->Rch (dE d) (λi=>i=0) i)/\(a=b->∀o,o<i->∀j,onB a o->dE d o j->onB a j)/\(a=b->∀O:Nat,O<c->∀j:Nat,nxt d i O=j->onB a j)) row.length waa.fst.fst ⟨0,b,U,U,rfl,G,f,g,H,λ_ O h=>U⟩ λm s⟨c,b,L,d2,A,G,f,g,H,c9⟩ nz b4=>?_;subst A;dsimp only;have R:i<b.length:=U;refine Tt.J (λs=>s=((k:Int),(i:Int),(c:Int),(b[i] && decide (c<row.length)),d,b)) (λnu u=>?_) λs A=>?_;{rw[G];refine wac _ (vn a9) (wac _ (atN R) (wab (λD=>u _ ?_) λD=>u _ ?_));{rw[D,wes];have:decide ((c:Int)<d.2.1)=decide (c<row.length):=by{rw[decide_eq_decide];omega};rw[this]};.rw[D];rfl};subst A;dsimp only;refine wab (λD=>?_) λD=>Tt.b1 ?_
  .simp only[wco,wc9]at D;obtain⟨b5,y⟩:=D;have hq:=B c y;have b0:=v c y;have T:onB b i:=by{unfold onB;rw[wch R,b5]};refine Tt.J (λs=>∃C,s=((k:Int),(i:Int),(c:Int),d,C)/\C.length=N/\LeB b C/\(∀i,onB C i->Rch (dE d) (λi=>i=0) i)/\∀j:Nat,nxt d i c=j->onB C j) (λnu u=>?_) λs⟨C,A,a6,t,Q,b9⟩=>?_
   .refine wac _ F (wac _ (atN y) (wab (λZ=>?_) λZ=>u _ ⟨b,rfl,G,LeB.refl b,g,λj p=>?_⟩))
    .have Z:=wcj Z;obtain⟨z,hz⟩:∃z:Nat,row[c]=(z:Int):=⟨(row[c]).toNat,U⟩
     have x:z<b.length:=U;refine wac _ F (wac _ (atN y) ?_);rw[hz];refine wac _ (vn x) (wac _ (yw true x) (u _ ⟨_,rfl,X,LeB.set x,λj p=>?_,λj p=>?_⟩));{rcases(yr x).1 p with h|h;{subst h;exact .step (g i T) ⟨U,c,U,U,U⟩};grind};.rw[b0,hz]at p;exact(yr x).2 (.inl U)
    grind
   .subst A;dsimp only;refine Tt.b1 ?_;rw[wI U U];refine b4 (row.length-(c+1)) _ U ⟨c+1,C,U,rfl,rfl,a6,f.trans t,Q,λe=>?_,λe O c8 j p=>?_⟩;{have:a=b:=f.antisymm (e▸t);grind};.have c6:a=b:=f.antisymm (e▸t);grind
  .rw[wI U U];refine(b3 (N-(i+1)) _ U ⟨i+1,b,U,rfl,rfl,G,f,g,λe o d1 j p hE=>?_⟩).fst;by_cases h:o=i;{subst h;obtain⟨h1,O,h0,h2,h3⟩:=hE;obtain⟨q,rfl⟩:=wdw h0;have h2:(q:Int)<d.2.1:=h2;have c7:b[o]=true:=by{rw[e]at p;unfold onB at p;grind};grind};grind
 .have P:=wck P;refine Tt.b1 ?_;rw[wI U U];have a1:Round (dE d) (λi=>i=0) a b:=⟨f,g,λe=>⟨λi hi=>X,λo j p hE=>H e o (by have:=z7n p;omega) j p hE⟩⟩
  exact(b2 (N-(k+1)) _ U ⟨k+1,b,U,rfl,rfl,G,f.2 0 a3,g,a1.next ha a4⟩).fst
def LbR(d:jd)(x:Int):Prop:=∃i:Nat,onB (Zj d.2.2.1.length (dE d) (λi=>i=0)) i/\d.2.2.2.1[i]?=some x/\0<=x
def n1{a b c:Nat}(h:a<b-c):c<b:=U
def n2{o k j:Nat}(h:o<=k)(a:j<=o):j+1+(o-j)<=k+1:=U
def zyh(l:W7)(hl:l.length<=1000):Tn (λnn=>zke nn l) (λr=>jx r/\∀x,x∈r↔x∈l):=by
 unfold zke;refine Tt.loop (λm s=>∃(k:Nat)(o:W7),k<=l.length/\m=l.length-k/\s=(l,(k:Int),o)/\o.length<=k/\jx o/\∀x,x∈o↔x∈l.take k) l.length waa ⟨0,_,U,U,rfl,V,List.Pairwise.nil,V⟩ λm s⟨k,o,hk,hm,g,a1,e,d⟩ nx H=>?_;subst g;dsimp only;refine wab (λc=>?_) λc=>?_;rotate_left
 {have c:=wck c;have:k=l.length:=U;rw[this,wc7]at d;exact Tt.pure ⟨e,d⟩};have c:=wcj c;have u:k<l.length:=U;have p:∀x,x∈l.take (k+1)↔x∈l.take k\/x=l[k]:=λx=>by{rw[wcp u,wcu,wcr]};refine Tt.J (λs=>∃o,s=(l,(k:Int),o)/\o.length<=k+1/\jx o/\∀x,x∈o↔x∈l.take (k+1)) (λny z=>?_) λs⟨o,g,N,O,T⟩=>?_;rotate_left
 {subst g;dsimp only;refine Tt.b1 ?_;rw[wI U U];exact H (l.length-(k+1)) _ U ⟨k+1,o,U,rfl,rfl,N,O,T⟩};refine wac _ (atN u) ?_;generalize l[k]=v at p;refine Waj (zdz o v U) waa.fst λr hr=>?_;subst hr;refine wab (λn=>z _ ⟨o,rfl,U,e,λx=>?_⟩) λn=>?_;{have n:=wcj n;rw[d,p];exact⟨.inl,λh=>h.elim id λh=>h▸(d v).1 n⟩};have n:=wck n;refine Tt.loop (λm s=>∃(j:Nat),j<=o.length/\m=o.length-j/\s=(v,(j:Int),o,o.take j)/\∀y∈o.take j,y<v) o.length waa.fst ⟨0,U,U,rfl,V⟩ λm s⟨j,Q,Y,g,F⟩ nz I=>?_;subst g;dsimp only;refine Tt.J (λs=>∃b,s=(v,(j:Int),b,o,o.take j)/\(b=true↔∃h:j<o.length,o[j]<v)) (λnu w=>?_) λs⟨b,g,P⟩=>?_;{refine Tt.b1 (wab (λf=>?_) λf=>w _ ⟨false,rfl,⟨λh=>(by cases h),λh=>?_⟩⟩);{have f:=wcj f;have a:j<o.length:=U;refine wac _ (vn a) (wac _ (atN a) (w _ ⟨_,rfl,?_⟩));rw[wc9];exact⟨λh=>⟨a,h⟩,λ⟨_,h⟩=>h⟩};.have f:=wck f;obtain⟨h,_⟩:=h;omega};subst g;dsimp only;refine wab (λf=>?_) λf=>?_;{obtain⟨a,S⟩:=P.1 f;refine wac _ (vn a) (wac _ (atN a) (wac _ (ye W U) (Tt.b1 ?_)));rw[wI U U];have M:=wcp a;refine I (o.length-(j+1)) _ U ⟨j+1,U,rfl,V,λy C=>?_⟩;rw[M]at C;rcases wcu.1 C with h|h;{exact F y h};.rwa [wcr.1 h]}
 .have a0:∀y∈o.drop j,v<y:=λy C=>by{obtain⟨q,L,rfl⟩:=wei C;rw[List.getElem_drop];rw[we9]at L;have a:=n1 L;have N:¬o[j]<v:=λh=>by{rw[P.2 ⟨a,h⟩]at f;cases f};have O:o[j]≠v:=λh=>n (h▸wcm a);by_cases h:q=0;{subst h;simp only[wd8];omega};.have:=zp2 e (i:=j) (j:=j+q) U U;omega};refine wac _ (ye W U) ?_;have R:(o.take j).length=j:=by{simp[Q]};refine Tt.loop (λm s=>∃(q:Nat),j<=q/\q<=o.length/\m=o.length-q/\s=((q:Int),o,o.take j++[v]++(o.drop j).take (q-j))) (o.length-j) waa.fst.fst ⟨j,wcs _,Q,rfl,X⟩ λm s⟨q,D,L,Z,g⟩ nw G=>?_;subst g;dsimp only;refine wab (λt=>?_) λt=>?_;{have t:=wcj t;have A:q<o.length:=U;have B:(o.drop j).take (q+1-j)=(o.drop j).take (q-j)++[o[q]]:=by{rw[show q+1-j=(q-j)+1 from Nat.succ_sub D,wcp X,List.getElem_drop];grind};refine wac _ (vn A) (wac _ (atN A) (wac _ (ye X U) (Tt.b1 ?_)));rw[wI U U];exact G (o.length-(q+1)) _ U ⟨q+1,U,U,rfl,X⟩}
  .have t:=wck t;have:q=o.length:=U;have B:(o.drop j).take (q-j)=o.drop j:=wd2 X;rw[B];refine(Tt.fst (z _ ⟨_,rfl,X,?_,λx=>?_⟩)).fst;{unfold jx;rw[wc4,wel];have a3:(o.take j).Pairwise (· < ·):=we2 (List.take_sublist _ _) e;have a4:(o.drop j).Pairwise (· < ·):=we2 (List.drop_sublist _ _) e;grind}
   .rw[p,<- d];conv=>rhs;rw[<- wd0 j o]
    simp only[wcu,wcr];constructor;{rintro((h|h)|h);{exact .inl (.inl h)};{exact .inr h};.exact .inl (.inr h)};.rintro((h|h)|h);{exact .inl (.inl h)};{exact .inr h};.exact .inl (.inr h)
def zyz{d:jd}(G:Tn (λA=>Jb A d) (λr=>r=true))(C:DSz d)(hm:MOk d):Tn (λA=>yu A d) (λr=>jx r/\∀x,x∈r↔LbR d x):=by have T:=C.n;have F:=hm.lab;unfold yu;refine Waj (zkj G C hm) waa λr L=>?_;have M:r.length=d.2.2.1.length:=by{rw[L,zav]};refine Tt.loop (λm s=>∃k l,k<=r.length/\m=r.length-k/\s=(r,(k:Int),d,l)/\l.length<=k/\∀x,x∈l↔∃i,i<k/\onB r i/\d.2.2.2.1[i]?=some x/\0<=x) r.length waa ⟨0,_,U,Wab,rfl,V,λx=>⟨λh=>X,λ⟨i,h,_⟩=>U⟩⟩ λm s⟨k,l,P,I,t,D,v⟩ Q y=>?_;subst t;dsimp only;refine wad (λc=>?_) λc=>?_;{have f:k<r.length:=U;have b:k<d.2.2.2.1.length:=U;refine Tt.J (λs=>∃l,s=(r,(k:Int),d,l)/\l.length<=k+1/\∀x,x∈l↔∃i,i<k+1/\onB r i/\d.2.2.2.1[i]?=some x/\0<=x) (λR o=>?_) λs⟨l,t,D,v⟩=>?_;{refine Tt.J (λs=>s=(r,(k:Int),(r[k] && decide (0<=d.2.2.2.1[k])),d,l)) (λS p=>?_) λs t=>?_;{refine Tt.at f (wab (λw=>Tt.at b (p _ ?_)) λw=>p _ ?_);{rw[w,wes]};.rw[w];rfl};.subst t;dsimp only;have u:∀{z:W7},(∀x,x∈z↔x∈l\/(onB r k/\d.2.2.2.1[k]?=some x/\0<=x))->∀x,x∈z↔∃i,i<k+1/\onB r i/\d.2.2.2.1[i]?=some x/\0<=x:=λ{z}h x=>by{rw[h,v];constructor;{rintro(⟨i,j,a⟩|a);{exact⟨i,U,a⟩};.exact⟨k,U,a⟩};.rintro⟨i,j,a⟩;by_cases e:i=k;{subst e;exact .inr a};.exact .inl ⟨i,U,a⟩};refine wab (λg=>?_) λg=>o _ ⟨l,rfl,U,u λx=>⟨.inl,λh=>h.elim id λ⟨j,a,B⟩=>?_⟩⟩;{simp[wco,wc9]at g;refine Tt.at b (wac _ (ye X U) (o _ ⟨_,rfl,W,u λx=>?_⟩));rw[wcu,wcr];refine or_congr Iff.rfl ⟨λh=>?_,λ⟨j,a,B⟩=>?_⟩;{subst h;exact⟨by unfold onB;rw[wch f,g.1],wch b,g.2⟩};.rw[wch b]at a;exact(wd5 a).symm};.unfold onB at j;rw[wch f]at j;rw[wch b]at a;rw[wd5 j,wd5 a,wes]at g;exact absurd B (wck g)};.subst t;dsimp only;refine wai ?_;exact y (r.length-(k+1)) _ U ⟨k+1,_,U,rfl,rfl,D,v⟩};.have H:k=r.length:=U;refine Waj (zyh l U) waa.fst λq⟨N,O⟩=>Tt.pure ⟨N,λx=>?_⟩;rw[O,v];unfold LbR;grind
def jth(fd:W4)(x:W7): -1<=(Qe fd x).1/\(Qe fd x).1<((Qe fd x).2.length:Int):=by unfold Qe;split;{omega};.split;{grind};.have:=jiw (x:=x) (l:=fd) (i:=0);grind
def jh8(sp:Nat->W7):∀cs(fd:W4)(row:W7),(∀y∈row, -1<=y/\y<(fd.length:Int))->(zve sp cs fd row).2.length=row.length+cs.length/\∀y∈(zve sp cs fd row).2, -1<=y/\y<((zve sp cs fd row).1.length:Int)
 |[],fd,row,h=>⟨rfl,h⟩
 |c::cs,fd,row,h=>by have b:=zl3 fd (sp c);have d:=jth fd (sp c);obtain⟨e,a⟩:=jh8 sp cs (Qe fd (sp c)).2 (row++[(Qe fd (sp c)).1]) λy f=>by{grind};refine⟨?_,a⟩;show(zve sp cs (Qe fd (sp c)).2 (row++[(Qe fd (sp c)).1])).2.length=_;grind
structure RwOk(W:Nat)(n:Nat)(rows:List (List Int)):Prop where
 w:∀x∈rows,x.length=W
 b:∀x∈rows,∀y∈x, -1<=y/\y<(n:Int)
def z9n{start:Nat->W7}{step:W7->Nat->W7}{tok:W7->Int}{W:Nat}{a:Int}{P:Int->Prop}(g:∀l,P (tok l)):∀{f i:Nat}{fd rows:W4}{labs:W7}{r:W4×W4×W7},(fd.length:Int)<=a->rows.length=i->labs.length=i->i<=fd.length->RwOk W fd.length rows->(∀x∈labs,P x)->jg6 start step tok W a f i fd rows labs=some (some r)->r.2.1.length=r.1.length/\r.2.2.length=r.1.length/\RwOk W r.1.length r.2.1/\∀x∈r.2.2,P x
 |0,_,_,_,_,_,_,_,_,_,_,_,h=>by cases h
 |f+1,i,fd,rows,labs,r,k,n,o,p,d,q,h=>by unfold jg6 at h;by_cases j:i<fd.length;{rw[if_pos j,z6m _ _ _ _ _ k]at h;have s:=zp1 (zkz start step fd i) (range W) fd [];obtain⟨t,u⟩:=jh8 (zkz start step fd i) (range W) fd [] V;by_cases e:((zve (zkz start step fd i) (range W) fd []).1.length:Int)<=a;{rw[if_pos e]at h;refine z9n g e X X U ⟨λx c=>?_,λx c y m=>?_⟩ (λx c=>?_) h;{rcases wcu.1 c with c|c;{exact d.w x c};grind};{rcases wcu.1 c with c|c;{have:=d.b x c y m;omega};grind};grind};grind};grind
def tokF_b{n:jl}{m t i:Int}(hm:0<=m)(b:∀x∈n.2.1,0<=x/\x<m)(c:n.2.1.length=n.1.length)(d : -1<=t/\t<m): -1<=zg8 n t i/\zg8 n t i<m:=by unfold zg8;split;{rename_i h;have a:i.toNat<n.2.1.length:=U;have e:=b _ (wcm a);grind};omega
def tokS_b{n:jl}{m:Int}(hm:0<=m)(b:∀x∈n.2.1,0<=x/\x<m)(a:n.2.1.length=n.1.length)(l:W7): -1<=zod n l/\zod n l<m:=by unfold zod;split;{have d:∀(l:W7)t, -1<=t/\t<m -> -1<=l.foldl (zg8 n) t/\l.foldl (zg8 n) t<m:=by{intro l;induction l with|nil=>{simp}|cons x l c=>intro t h;exact c _ (tokF_b hm b a h)};grind};omega
def jqw{n:jl}{a:Wa}{W:Nat}(y:W<=256){z:Int}(hz:1<=z){m:Int}(hm:0<=m)(u:∀x∈n.2.1,0<=x/\x<m)(t:n.2.1.length=n.1.length){r:W4×W4×W7}(e:zok n a W z 202 0 [[]] [] []=some (some r)):MOk (a,(W:Int),r.2.1,r.2.2,())/\∀x∈r.2.2, -1<=x/\x<m:=by have e:jg6 (λc=>zfd n (zli a c)) (λl c=>zk3 n l (zli a c)) (zod n) W z 202 0 [[]] [] []=some (some r):=e;obtain⟨p,v,j,q⟩:=z9n (f:=202) (i:=0) (fd:=[[]]) (rows:=[]) (labs:=[]) (P:=λx=> -1<=x/\x<m) (tokS_b hm u t) (by simpa using hz) rfl rfl V ⟨λx g=>by simp at g,λx g=>by simp at g⟩ (λx g=>by simp at g) e;obtain⟨k,_⟩:=zy2 (by simpa using hz) e;have k:1<=r.1.length:=k;refine⟨⟨?_,?_,?_,λi h0 h=>?_,λi c h0 h s d=>?_⟩,q⟩;{show 0<r.2.1.length;omega};{show r.2.2.length=r.2.1.length;omega};{show 0<=(W:Int)/\(W:Int)<=256;omega};{have:=j.w _ (zgz h0 h);show(((at' r.2.1 i).length:Nat):Int)=(W:Int);have:(at' r.2.1 i).length=W:=this;omega};.have o:=j.w _ (zgz h0 h);have o:(at' r.2.1 i).length=W:=o;have d:c<(W:Int):=d;have:=j.b _ (zgz h0 h) _ (zgz (l:=at' r.2.1 i) (z:=c) s U);show -1<=at' (at' r.2.1 i) c/\at' (at' r.2.1 i) c<(r.2.1.length:Int);rw[p];exact this
def juo{n:jl}{a:Wa}{W:Nat}(d:∃n,ClsN a n)(j:W<=256){z:Int}(hz:1<=z)(f:z<=200):DSz (jss a (W:Int) (zok n a W z 202 0 [[]] [] [])).1:=by cases e:zok n a W z 202 0 [[]] [] []with|none=>{exact DSz.zero}|some o=>cases o with|none=>{exact DSz.zero}|some r=>have e:=e;obtain⟨g,h,c,_⟩:=z9n (rows:=[]) (P:=λ_=>True) (λ_=>trivial) U rfl rfl V ⟨λx b=>X,λx b=>X⟩ (λx b=>V) e;obtain⟨_,i⟩:=zy2 U e;exact⟨d,⟨by show 0<=(W:Int);omega,by show(W:Int)<=256;omega⟩,by show r.2.1.length<=300;omega,by show r.2.2.length<=300;omega,λx b=>by have:=c.w x b;omega⟩
def zg5{L:Wam jc}(h:(jy L).1=0):∀d∈L,d.1=0:=by induction L with|nil=>{simp}|cons d l a=>unfold jy at h;grind
def z7z{g:jb}(h:gFd g=zd):∀t∈g.1,Y3 t.2.1=0:=λt f=>by have b:(gFd g).1=0:=by{rw[h]};unfold gFd at b;have c:=zg5 b;obtain⟨i,e⟩:=wdc f;have a:=c (zos g i t) (wcu.2 (.inr (wcu.2 (.inr (wcu.2 (.inl (wcq (i:=i) (by rw[zue,we8,e];rfl))))))));unfold zos at a;split at a;{simp at a};split at a;{simp at a};split at a;{simp at a};.rename_i d;exact wea.1 d
def jgv{g:jb}(h:gFd g=zd):1<=g.2.2.2.2.1:=by
 have a:(gFd g).1=0:=by{rw[h]};unfold gFd at a;have b:=zg5 a;have c:=b (if g.2.2.2.2.1<1\/4096<g.2.2.2.2.1 then(2,0,0,())else zd) (wcu.2 (.inr (wcu.2 (.inl (by
  have:szB g=(if g.2.2.2.2.1<1\/4096<g.2.2.2.2.1 then(2,0,0,())else zd)::(szB g).tail:=rfl;grind)))))
 grind
def zut(g:jb)(l:Wam jj)(r:l.length<=1000000)(h:∀x∈l,zdn g x):Tn (λp=>za5 p g l) (λb=>b=true):=by unfold za5;refine Tt.loop (λm s=>∃d,d<=l.length/\m=l.length-d/\s=(l,(d:Int),g)) l.length waa ⟨0,U,Wab,rfl⟩ λm s⟨d,q,t,j⟩ u i=>?_;subst j;dsimp only;refine wad (λc=>?_) λc=>Tt.pure rfl;have e:d<l.length:=U;have a:=atN e;obtain⟨o,k⟩:=h _ (wcm e);generalize l[d]=x at a o k;refine Tt.J (λs=>s=(l,(d:Int),false,g)) (λv f=>?_) λs j=>?_;{refine wac _ a (Tt.b1 (wae (wc3 U) (wac _ a (wab (λn=>?_) λn=>?_))));{rw[if_pos n]at k;refine wac _ a (wae (wc3 U) (wac _ a (Tt.b1 (wae X (f _ rfl)))))};.rw[if_neg X]at k;refine wac _ a (Tt.b1 (wah X (wac _ a (f _ ?_))));grind};.subst j;refine wae rfl (Tt.b1 ?_);dsimp only;rw[wI U U];exact i (l.length-(d+1)) _ U ⟨d+1,U,rfl,rfl⟩
def jn5{g:jb}{em:W8}{al:W4}(a:FSn g em al){t:Int}:∀{l:Wam jj},inF em al t l->FiL em g.2.2.1 t l
 |[],h=>h.elim
 |x::l,h=>by
  unfold inF at h;by_cases c:x.1=true
  .rw[if_pos c]at h;rcases h with h|⟨b,d⟩
   {obtain⟨p,i,e,f⟩:=a _ t h;exact .rule c i e f};.exact .skip c b (jn5 a d)
  .rw[if_neg c]at h;exact .tok X h
def zxj{g:jb}{em:W8}{al:W4}(d:∀l∈al,RN g.1.length l){t:Int}:∀{l:Wam jj},(∀x∈l,zdn g x)->inF em al t l->0<=t/\t<(g.1.length:Int)
 |[],_,h=>h.elim
 |x::l,a,h=>by
  unfold inF at h;by_cases c:x.1=true
  .rw[if_pos c]at h;rcases h with h|⟨_,e⟩
   {by_cases hz:x.2.1.toNat<al.length;{have:al.getD x.2.1.toNat []=al[x.2.1.toNat]:=X;rw[this]at h;exact(d _ (wcm hz)).b t h};grind};.exact zxj d (λy f=>a y X) e
  .rw[if_neg c]at h;obtain⟨i,j⟩:=a x V;grind
def z0v(g:jb)(P:zeu g)(hz:gFd g=zd)(d:GOk g)(em:W8)(al:W4)(N:Tn (λn=>Js n g) (λr=>r=em))(q:em.length=g.2.1.length)(B:∀p∈g.2.2.1,fiC em al p)(D:FRn g em al)(l:Wam jj)(H:l.length<=1000000)(a:∀x∈l,zdn g x):Tn (λn=>zdy n g l) (λr=>RN g.1.length r/\∀t,t∈r↔inF em al t l):=by
 have ht:=d.t;have hr:=d.r;have I:∀i:Nat,Tn (λn=>yg n n (g,em,l,(i:Int),replicate g.2.1.length false)) (λw=>w.1=true↔inF em al (i:Int) l):=λi=>by
  have o:=zmk (zyr g d em al q B (i:Int) (yx (replicate g.2.1.length false)+1) l (replicate g.2.1.length false) (weu _) V a H);have C:=zmk (zus g d em q (i:Int) (yx (replicate g.2.1.length false)+1) l (replicate g.2.1.length false) (weu _) V a H);refine Tt.mono (wbz o C) λw⟨⟨_,_,Z⟩,k2⟩=>⟨Z,λh=>Classical.byContradiction λT=>?_⟩
  obtain⟨k3,k4⟩:=k2.s X;refine jvl (λp S=>(d.left p S).1) (λj Q=>?_) (jn5 D.s h) k3;rcases k4 j Q with M|M;{grind};omega
 unfold zdy;refine Tt.J (λs=>s=(l,false,g,[])) (λnx f=>?_) λs y=>?_;{refine Waj (zbz g P) waa λb F=>?_;have G:=F.2 hz;subst G;refine Tt.b1 (wae rfl (Waj (zut g l H a) waa λb F=>f _ ?_));subst F;rfl};.subst y;refine wae rfl (Waj N waa λe O=>?_);subst O;refine Tt.loop (λm s=>∃(i:Nat)(k:W7),i<=g.1.length/\m=g.1.length-i/\s=(l,e,(i:Int),g,k)/\RN g.1.length k/\∀t,t∈k↔inF e al t l/\t<(i:Int)) g.1.length waa ⟨0,[],U,U,rfl,RN.nil _,λt=>⟨λh=>(by cases h),λ⟨o,C⟩=>by have:=zxj D.r a o;omega⟩⟩ λm s⟨i,k,hi,hm,y,A,u⟩ nx f=>?_;subst y;dsimp only;refine wad (λc=>?_) λc=>Tt.pure ⟨A,λt=>?_⟩;{refine Tt.J (λs=>∃z,s=(l,e,(i:Int),g,z)/\RN g.1.length z/\∀t,t∈z↔inF e al t l/\t<(i:Int)+1) (λny v=>?_) λs⟨z,y,o,C⟩=>?_;{refine Tt.b1 (wac _ (mkN U U) ?_);refine Waj (I i) waa.fst λw T=>?_;have R:=A.len;refine wab (λL=>wac _ (ye X U) (v _ ⟨_,rfl,A.snoc U λx Y=>((u x).1 Y).2,λt=>?_⟩)) λL=>v _ ⟨_,rfl,A,λt=>?_⟩;{grind};grind};.subst y;dsimp only;refine wai ?_;exact f (g.1.length-(i+1)) _ U ⟨i+1,z,U,rfl,rfl,o,λt=>X⟩};.rw[u];exact⟨λh=>h.1,λh=>⟨h,by have:=zxj D.r a h;omega⟩⟩
def n3{o k j n:Nat}(h:o<=k+n)(a:j<=o):j+1+(o-j)<=k+1+n:=U
def zlz{n:Nat}(hn:n<=1000){F l:W7}(h0:RN n F)(u:RN n l):Tn (λnn=>Vl nn F l) (λr=>RN n r/\∀x,x∈r↔x∈F\/x∈l):=by
 have hl:=u.len;have a9:=h0.len;unfold Vl;refine Tt.bind (R:=λr=>(jx r/\∀x,x∈r↔x∈F)/\r.length<=1000) ?_ λG⟨⟨Z,O⟩,a7⟩=>?_
 .refine Tt.mono (Tt.call (zyh F U) waa) λr⟨I,L⟩=>⟨⟨I,L⟩,?_⟩
  have:=(RN.len ⟨I,λx hx=>h0.b x ((L x).1 hx)⟩)
  omega
 refine Tt.mono (Q:=λr=>jx r/\∀x,x∈r↔x∈G\/x∈l) ?_ λr⟨I,L⟩=>⟨⟨I,λx hx=>?_⟩,λx=>X⟩
 rotate_left
 {rcases(L x).1 hx with h|h;{exact h0.b x ((O x).1 h)};.exact u.b x h};clear u;refine Tt.loop (λm s=>∃k o,k<=l.length/\m=l.length-k/\s=(l,(k:Int),o)/\o.length<=k+G.length/\jx o/\∀x,x∈o↔x∈G\/x∈l.take k) l.length waa ⟨0,_,U,Wab,rfl,U,Z,V⟩ λm s⟨k,o,hk,hm,g,b4,d,f⟩ nx S=>?_;subst g;dsimp only;refine wab (λc=>?_) λc=>?_;rotate_left
 {have c:=wck c;have:k=l.length:=U;rw[this,wc7]at f;exact Tt.pure ⟨d,f⟩};have c:=wcj c;have z:k<l.length:=U;have t:∀x,x∈l.take (k+1)↔x∈l.take k\/x=l[k]:=λx=>by{rw[wcp z,wcu,wcr]};refine Tt.J (λs=>∃o,s=(l,(k:Int),o)/\o.length<=k+1+G.length/\jx o/\∀x,x∈o↔x∈G\/x∈l.take (k+1)) (λny B=>?_) λs⟨o,g,u,h2,h3⟩=>?_;rotate_left
 {subst g;dsimp only;refine Tt.b1 ?_;rw[wI U U];exact S (l.length-(k+1)) _ U ⟨k+1,o,U,rfl,rfl,u,h2,h3⟩};refine wac _ (atN z) ?_;generalize l[k]=v at t;refine Waj (zdz o v U) waa.fst λr hr=>?_;subst hr;refine wab (λp=>B _ ⟨o,rfl,U,d,λx=>?_⟩) λp=>?_;{have p:=wcj p;rw[t,<- or_assoc,<- f];exact⟨.inl,λh=>h.elim id λh=>h▸p⟩};have p:=wck p;refine Tt.loop (λm s=>∃j,j<=o.length/\m=o.length-j/\s=(v,(j:Int),o,o.take j)/\∀y∈o.take j,y<v) o.length waa.fst ⟨0,U,U,rfl,V⟩ λm s⟨j,hj,b0,g,N⟩ nz T=>?_;subst g;dsimp only;refine Tt.J (λs=>∃b,s=(v,(j:Int),b,o,o.take j)/\(b=true↔∃h,o[j]<v)) (λnu A=>?_) λs⟨b,g,hb⟩=>?_;{refine Tt.b1 (wab (λe=>?_) λe=>A _ ⟨false,rfl,⟨λh=>(by cases h),λh=>?_⟩⟩);{have e:=wcj e;have a:j<o.length:=U;refine wac _ (vn a) (wac _ (atN a) (A _ ⟨_,rfl,?_⟩));rw[wc9];exact⟨λh=>⟨a,h⟩,λ⟨_,h⟩=>h⟩};.have e:=wck e;obtain⟨h,_⟩:=h;omega};subst g;dsimp only;refine wab (λe=>?_) λe=>?_;{obtain⟨a,a6⟩:=hb.1 e;refine wac _ (vn a) (wac _ (atN a) (wac _ (ye W U) (Tt.b1 ?_)));rw[wI U U];have a0:=wcp a;refine T (o.length-(j+1)) _ U ⟨j+1,U,rfl,V,λy H=>?_⟩;rw[a0]at H;rcases wcu.1 H with h|h;{exact N y h};.rwa [wcr.1 h]}
 .have b3:∀y∈o.drop j,v<y:=λy H=>by{obtain⟨q,Y,rfl⟩:=wei H;rw[List.getElem_drop];rw[we9]at Y;have a:=n1 Y;have u:¬o[j]<v:=λh=>by{rw[hb.2 ⟨a,h⟩]at e;cases e};have h2:o[j]≠v:=λh=>p (h▸wcm a);by_cases h:q=0;{subst h;simp only[wd8];omega};.have:=zp2 d (i:=j) (j:=j+q) U U;omega};refine wac _ (ye W U) ?_;have a5:(o.take j).length=j:=by{simp[hj]};refine Tt.loop (λm s=>∃q,j<=q/\q<=o.length/\m=o.length-q/\s=((q:Int),o,o.take j++[v]++(o.drop j).take (q-j))) (o.length-j) waa.fst.fst ⟨j,wcs _,hj,rfl,X⟩ λm s⟨q,M,Y,b2,g⟩ nw P=>?_;subst g;dsimp only;refine wab (λw=>?_) λw=>?_;{have w:=wcj w;have C:q<o.length:=U;have D:(o.drop j).take (q+1-j)=(o.drop j).take (q-j)++[o[q]]:=by{rw[show q+1-j=(q-j)+1 from Nat.succ_sub M,wcp X,List.getElem_drop];grind};refine wac _ (vn C) (wac _ (atN C) (wac _ (ye X U) (Tt.b1 ?_)));rw[wI U U];exact P (o.length-(q+1)) _ U ⟨q+1,U,U,rfl,X⟩}
  .have w:=wck w;have:q=o.length:=U;have D:(o.drop j).take (q-j)=o.drop j:=wd2 X;rw[D];refine(Tt.fst (B _ ⟨_,rfl,X,?_,λx=>?_⟩)).fst;{unfold jx;rw[wc4,wel];have b6:(o.take j).Pairwise (· < ·):=we2 (List.take_sublist _ _) d;have b7:(o.drop j).Pairwise (· < ·):=we2 (List.drop_sublist _ _) d;grind}
   .rw[t,<- or_assoc,<- f];conv=>rhs;rw[<- wd0 j o]
    grind
def sliD'{α:Type}{l:Wam α}{k:Nat}(h:k<=l.length):znb l (some (k:Int)) none=some (l.drop k):=by unfold znb bdN;grind
structure EmA(g:jb)(em:List Bool)(al:List (List Int)):Prop where
 e:Tn (λnn=>Js nn g) (λr=>r=em)
 l:em.length=g.2.1.length
 f:∀p∈g.2.2.1,fiC em al p
structure FoS(g:jb)(B out:List (List Int)):Prop where
 l:out.length=g.2.1.length
 n:∀r∈out,RN (g.1.length+1) r
 s:∀i:Nat,∀t∈out.getD i [],t∈B.getD i []
def FoS.at{g:jb}{B out:W4}(h:FoS g B out){i:Nat}(hi:i<out.length):RN (g.1.length+1) out[i]/\∀t∈out[i],t∈B.getD i []:=by refine⟨h.n _ (wcm hi),λt a=>h.s i t ?_⟩;grind
def FoS.set{g:jb}{B out:W4}(h:FoS g B out){i:Nat}{r:W7}(d:RN (g.1.length+1) r)(e:∀t∈r,t∈B.getD i []):FoS g B (out.set i r):=by refine⟨by rw[wdz];exact h.l,λx c=>?_,λj t a=>?_⟩;{rcases weg c with b|b;{exact h.n x b};grind};.simp[List.getD,wdf]at a;split at a;{grind};.exact h.s j t a
def jbw(g:jb)(u:zeu g)(hz:gFd g=zd)(em:W8)(q:Tn (λo=>Js o g) (λr=>r=em))(k:em.length=g.2.1.length)(l:Wam jj)(p:l.length<=1000000)(d:∀x∈l,zdn g x):Tn (λo=>zcm o g l) (λb=>b=true↔∀x∈l,x.1=true/\em[x.2.1.toNat]?=some true):=by unfold zcm;refine Tt.J (λb=>b=true↔∀x∈l,x.1=true/\em[x.2.1.toNat]?=some true) (λy m=>?_) λs w=>Tt.pure w;refine Waj (zbz g u) waa λb c=>?_;have j:=c.2 hz;subst j;refine wah rfl (Waj (zut g l p d) waa λb c=>?_);subst c;refine wah rfl (Waj q waa λe t=>?_);subst t;refine Waj (jhg g l e false p k d) waa λb c=>m _ (Iff.trans c ?_);constructor;{intro h x n;obtain⟨f,i⟩:=h x n;have a:x.1=true:=by{cases v:x.1 with|true=>{rfl}|false=>exact absurd (i v) V};exact⟨a,f a⟩};.intro h x n;obtain⟨f,i⟩:=h x n;exact⟨λ_=>i,λa=>by rw[f]at a;cases a⟩
structure EmX(g:jb)(em:List Bool)(al:List (List Int)):Prop extends EmA g em al where
 x:FRn g em al
def je2(g:jb)(i:zeu g)(hz:gFd g=zd)(a:GOk g){em:W8}{al:W4}(c:EmX g em al){p:jk}(j:p∈g.2.2.1){k:Nat}(u:k<p.2.1.length):Tn (λo=>zb1 o g p (k:Int)) (λr=>RN g.1.length r.1/\(∀t,t∈r.1↔inF em al t (p.2.1.drop (k+1)))/\(r.2.1=true↔∀x∈p.2.1.drop (k+1),x.1=true/\em[x.2.1.toNat]?=some true)):=by have v:=a.len p j;have d:∀x∈p.2.1.drop (k+1),zdn g x:=λx n=>a.items p j x (wfi n);have h:(p.2.1.drop (k+1)).length<=1000000:=by{rw[we9];omega};unfold zb1;rw[wI U U];refine wac _ (sliD' (k:=k+1) U) ?_;refine Waj (z0v g i hz a em al c.e c.l c.f c.x _ h d) waa λr⟨q,s⟩=>?_;exact Waj (jbw g i hz em c.e c.l _ h d) waa λb m=>Tt.pure ⟨q,s,m⟩
def jie(T:Nat):∀l:W4,Q8 T l<=l.length*T
 |[]=>by simp[Q8]
 |a::l=>by have:=jie T l;simp only[Q8,wd4,Nat.succ_mul];omega
def jg8(g:jb)(hg:zeu g)(hz:gFd g=zd)(G:GOk g){em re:W8}{al B:W4}(hA:EmX g em al)(e0:Tn (λnn=>zk nn g) (λr=>r=re))(k7:re.length=g.2.1.length)(a4:(g.1.length:Int)∈B.getD g.2.2.2.1.toNat [])(d4:∀p∈g.2.2.1,re[p.1.toNat]?=some true->foC em al B p):Tn (λnn=>Ya nn g) (λo=>FoS g B o/\(g.1.length:Int)∈o.getD g.2.2.2.1.toNat []/\∀p∈g.2.2.1,re[p.1.toNat]?=some true->foC em al o p):=by
 have ht:=G.t;have hr:=G.r;have hp:=G.p;unfold Ya;refine Waj (zbz g hg) waa λb hb=>?_;have e6:=hb.2 hz;subst e6;refine wae rfl (Waj e0 waa λw hw=>?_);subst hw;refine Tt.loop (λm s=>∃(d:Nat),d<=g.2.1.length/\m=g.2.1.length-d/\s=(w,(d:Int),g,replicate d ([]:W7))) g.2.1.length waa ⟨0,U,U,rfl⟩ λm s⟨d,hd,hm,H⟩ nx g3=>?_;subst H;dsimp only;refine wab (λc=>?_) λc=>?_;{have c:=wcj c;refine wac _ (ye W U) (Tt.b1 ?_);rw[wI U U];exact g3 (g.2.1.length-(d+1)) _ U ⟨d+1,U,rfl,by rw[List.replicate_succ'];rfl⟩};have c:=wck c;have e8:d=g.2.1.length:=U;subst e8;obtain⟨st,g9⟩:∃st:Nat,g.2.2.2.1=st:=⟨g.2.2.2.1.toNat,by have:=G.start;omega⟩
 have g8:=G.start.2;rw[g9]at g8 a4⊢;rw[wcz]at a4⊢;have Y:st<(replicate g.2.1.length ([]:W7)).length:=W;refine wac _ (vn Y) (wac _ (yw _ Y) ?_);have h0:FoS g B (replicate g.2.1.length []):=⟨V,λr h=>by rw[List.eq_of_mem_replicate h];exact RN.nil _,λi t h=>by
  simp only[List.getD,wd7]at h;split at h<;>cases h⟩
 have h0:=h0.set (i:=st) (r:=[(g.1.length:Int)]) (RN.one U U) λt h=>by{rw[wcr.1 h];exact a4};have h1:(g.1.length:Int)∈((replicate g.2.1.length ([]:W7)).set st [(g.1.length:Int)]).getD st []:=by{simp only[List.getD,wdf];simp at Y;simp[Y]};generalize (replicate g.2.1.length ([]:W7)).set st [(g.1.length:Int)]=o0 at h0 h1⊢;refine Tt.J (λo=>FoS g B o/\(g.1.length:Int)∈o.getD st []/\∀p∈g.2.2.1,w[p.1.toNat]?=some true->foC em al o p) (λnf g1=>?_) λs H=>Tt.pure H;obtain⟨M,hM⟩:∃M:Nat,M=g.2.1.length*(g.1.length+1):=⟨_,rfl⟩
 have i4:M<=5000:=by{rw[hM];exact wdv (Nat.mul_le_mul hr (Nat.succ_le_succ ht)) Wah};have a8:∀o,FoS g B o->Q8 (g.1.length+1) o<=M:=λo I=>by{have:=jie (g.1.length+1) o;rwa [I.l,<- hM]at this};have d9:T.w64 ((g.2.1.length:Int)*T.w64 ((g.1.length:Int)+1))=(M:Int):=by{have e:(g.2.1.length:Int)*((g.1.length:Int)+1)=(M:Int):=by{rw[hM];simp};rw[wI (z:=(g.1.length:Int)+1) U U,e,wI U U]};refine Tt.loop (λm s=>∃(n:Nat)(o:W4),m=M+1-n/\s=(w,(n:Int),g,o)/\FoS g B o/\(g.1.length:Int)∈o.getD st []/\n+Q8 (g.1.length+1) o<=M) (M+1) waa.fst ⟨0,o0,U,rfl,h0,h1,by have:=a8 o0 h0;omega⟩ λm s⟨n,C,hm,H,g7,e9,k4⟩ ny g4=>?_;subst H;dsimp only;rw[d9];refine wah (wdh U) ?_;refine Tt.loop (λm s=>∃(fr:Bool)(i:Nat)(o:W4),i<=g.2.2.1.length/\m=g.2.2.1.length-i/\s=(w,(n:Int),fr,(i:Int),g,o)/\FoS g B o/\(g.1.length:Int)∈o.getD st []/\(fr=true->Q8 (g.1.length+1) o<Q8 (g.1.length+1) C)/\(fr=false->o=C/\∀(j:Nat)(p:jk),j<i->g.2.2.1[j]?=some p->w[p.1.toNat]?=some true->foC em al C p)) g.2.2.1.length waa.fst.fst ⟨false,0,C,U,U,rfl,g7,e9,λh=>(by cases h),λ_=>⟨rfl,λj p h=>U⟩⟩ λm s⟨fr,i,o,hi,hm,H,I,D,F,a⟩ nz g5=>?_;subst H;dsimp only;refine wab (λc2=>?_) λc2=>wab (λL=>?_) λL=>Tt.b1 ?_;rotate_left
 {have c2:=wck c2;have hf:fr=false:=by{simpa using L};obtain⟨rfl,e7⟩:=a hf;refine(g1 _ ⟨I,D,λp P hw=>?_⟩).fst.fst;obtain⟨j,hj⟩:=wdc P;exact e7 j p (by have:=(wcl.1 hj).1;omega) hj hw};{have hf:fr=true:=by{simpa using L};have:=F hf;rw[wI U U];exact(g4 (M+1-(n+1)) _ U ⟨n+1,o,rfl,rfl,I,D,U⟩).fst};have c2:=wcj c2;have a6:i<g.2.2.1.length:=U;have A:g.2.2.1[i]∈g.2.2.1:=wcm a6;have b7:g.2.2.1[i]?=some g.2.2.1[i]:=wch a6;refine wac _ (atN a6) ?_;generalize g.2.2.1[i]=p at A b7⊢;obtain⟨l0,l1⟩:=G.left p A;have k5:=G.len p A;obtain⟨q,hq⟩:∃q:Nat,p.1=q:=⟨p.1.toNat,U⟩
 have a7:q<w.length:=U;refine Tt.loop (λm s=>∃(fr:Bool)(k:Nat)(o:W4),k<=p.2.1.length/\m=p.2.1.length-k/\s=(w,(n:Int),fr,(i:Int),(k:Int),g,o,p)/\FoS g B o/\(g.1.length:Int)∈o.getD st []/\(fr=true->Q8 (g.1.length+1) o<Q8 (g.1.length+1) C)/\(fr=false->o=C/\(∀(j:Nat)(p:jk),j<i->g.2.2.1[j]?=some p->w[p.1.toNat]?=some true->foC em al C p)/\∀(j:Nat)(x:jj),j<k->p.2.1[j]?=some x->x.1=true->∀t,inT em al (C.getD p.1.toNat []) t (p.2.1.drop (j+1))->t∈C.getD x.2.1.toNat [])) p.2.1.length waa.fst.fst.fst ⟨fr,0,o,U,U,rfl,I,D,F,λh=>⟨(a h).1,(a h).2,λj x h=>U⟩⟩ λm s⟨fr,k,o,hk,hm,H,I,D,F,a⟩ nw g2=>?_;subst H;dsimp only;refine Tt.J (λs=>∃b,s=(w,(n:Int),fr,(i:Int),(k:Int),b,g,o,p)/\(b=true↔k<p.2.1.length/\w[q]?=some true)) (λnu c0=>?_) λs⟨b,H,hb⟩=>?_;{rw[hq];refine wac _ (atN a7) (wab (λL=>c0 _ ⟨_,rfl,?_⟩) λL=>c0 _ ⟨_,rfl,?_⟩);{rw[wch a7,L,wc9];simp};.rw[wch a7,L];simp};subst H;dsimp only;refine wab (λL=>?_) λL=>Tt.b1 ?_;rotate_left
 {rw[wI U U];refine(g5 (g.2.2.1.length-(i+1)) _ U ⟨fr,i+1,o,U,rfl,rfl,I,D,F,λh=>⟨(a h).1,λj p2 hj P hw=>?_⟩⟩).fst;obtain⟨_,f2,f3⟩:=a h;by_cases f7:j<i;{exact f2 j p2 f7 P hw};.have:j=i:=U;subst this;rw[b7]at P;cases P;rw[hq,wcz]at hw;have N:¬k<p.2.1.length:=λf9=>by{rw[hb.2 ⟨f9,hw⟩]at L;cases L};exact λj2 x hx=>f3 j2 x (by have:=(wcl.1 hx).1;omega) hx};obtain⟨N,h7⟩:=hb.1 L;have f1:=d4 p A (by rw[hq,wcz];exact h7);have a5:p.2.1[k]?=some p.2.1[k]:=wch N;have c6:=G.items p A _ (wcm N);have b4:=atN N;generalize p.2.1[k]=x at a5 c6 b4;refine Tt.J (λs=>∃(fr:Bool)(o:W4),s=(w,(n:Int),fr,(i:Int),(k:Int),g,o,p)/\FoS g B o/\(g.1.length:Int)∈o.getD st []/\(fr=true->Q8 (g.1.length+1) o<Q8 (g.1.length+1) C)/\(fr=false->o=C/\(∀(j:Nat)(p:jk),j<i->g.2.2.1[j]?=some p->w[p.1.toNat]?=some true->foC em al C p)/\∀(j:Nat)(x:jj),j<k+1->p.2.1[j]?=some x->x.1=true->∀t,inT em al (C.getD p.1.toNat []) t (p.2.1.drop (j+1))->t∈C.getD x.2.1.toNat [])) (λnv c1=>?_) λs⟨fr,o,H,I,D,F,a⟩=>?_;rotate_left
 {subst H;dsimp only;refine Tt.b1 ?_;rw[wI U U];exact g2 (p.2.1.length-(k+1)) _ U ⟨fr,k+1,o,U,rfl,rfl,I,D,F,a⟩};have a0:(x.1=true->∀t,inT em al (C.getD p.1.toNat []) t (p.2.1.drop (k+1))->t∈C.getD x.2.1.toNat [])->(∀(j:Nat)(x:jj),j<k->p.2.1[j]?=some x->x.1=true->∀t,inT em al (C.getD p.1.toNat []) t (p.2.1.drop (j+1))->t∈C.getD x.2.1.toNat [])->∀(j:Nat)(x:jj),j<k+1->p.2.1[j]?=some x->x.1=true->∀t,inT em al (C.getD p.1.toNat []) t (p.2.1.drop (j+1))->t∈C.getD x.2.1.toNat []:=λh1 h2 j y hj hy=>by{by_cases f8:j<k;{exact h2 j y f8 hy};.have:j=k:=U;subst this;rw[a5]at hy;cases hy;exact h1};refine wac _ b4 (wab (λcx=>c1 _ ⟨_,_,rfl,I,D,F,λh=>⟨(a h).1,(a h).2.1,a0 (λh2=>by rw[h2]at cx;cases cx) (a h).2.2⟩⟩) λcx=>?_);have cx:x.1=true:=by{simpa using cx};obtain⟨i1,i2⟩:=c6;rw[if_pos cx]at i2;obtain⟨z,Z⟩:∃z:Nat,x.2.1=z:=⟨x.2.1.toNat,U⟩
 have f:z<o.length:=by{rw[I.l];omega};have S:q<o.length:=by{rw[I.l];omega};have f6:∀t,inT em al (B.getD q []) t (p.2.1.drop (k+1))->t∈B.getD z []:=λt h=>by{have:=f1 k x a5 cx t (by rw[hq,wcz];exact h);rwa [Z,wcz]at this};refine Waj (je2 g hg hz G hA A N) waa.fst.fst.fst.fst λr⟨r1,r2,r3⟩=>?_;obtain⟨h9,i0⟩:=I.at S;refine Tt.J (λs=>∃u:W7,s=(w,(n:Int),fr,(i:Int),(k:Int),u,g,o,p,x)/\RN (g.1.length+1) u/\∀t,t∈u↔inT em al o[q] t (p.2.1.drop (k+1))) (λna b8=>?_) λs⟨u,H,hu,c5⟩=>?_
 .refine wab (λcv=>?_) λcv=>b8 _ ⟨_,rfl,r1.up U,λt=>by
   rw[zhd,r2];exact⟨.inl,λh=>h.elim id λh=>by rw[r3.2 h.1]at cv;cases cv⟩⟩
  rw[hq];refine wac _ (vn S) (wac _ (atN S) ?_);refine Waj (zlz (n:=g.1.length+1) U (r1.up U) h9) waa.fst.fst.fst.fst λv⟨v1,v2⟩=>b8 _ ⟨_,rfl,v1,λt=>?_⟩;rw[v2,zhd,r2];exact⟨λh=>h.imp id λh=>⟨r3.1 cv,h⟩,λh=>h.imp id λh=>h.2⟩
 .subst H;dsimp only;rw[Z];obtain⟨o1,o2⟩:=I.at f;refine wac _ (vn f) (wac _ (atN f) ?_);refine Waj (zlz (n:=g.1.length+1) U hu o1) waa.fst.fst.fst.fst λv⟨v1,v2⟩=>?_;have d7:∀t∈u,t∈B.getD z []:=λt h=>f6 t (zzy (λy hy=>i0 y hy) ((c5 t).1 h));have g6:FoS g B (o.set z v):=I.set v1 λt h=>((v2 t).1 h).elim (d7 t) (o2 t);have a1:∀t∈o[z],t∈v:=λt h=>(v2 t).2 (.inr h);have b5:(g.1.length:Int)∈(o.set z v).getD st []:=z9w f a1 D;obtain⟨s1,s2⟩:=zji o1.r v1.r a1;have Q:v.length<=o[z].length->o.set z v=o/\∀t∈u,t∈o[z]:=λh=>by{have e:=s2 h;refine⟨?_,λt h6=>by rw[e];exact(v2 t).2 (.inl h6)⟩;rw[<- e];exact List.set_getElem_self f};have O:o[z].length<v.length->Q8 (g.1.length+1) (o.set z v)<Q8 (g.1.length+1) o:=λh=>zme (wch f) h v1.len;have k3:Q8 (g.1.length+1) (o.set z v)<=Q8 (g.1.length+1) o:=by{by_cases h:o[z].length<v.length;{exact Nat.le_of_lt (O h)};.rw[(Q U).1];exact wcs _};refine Tt.J (λs=>∃f2:Bool,s=(w,(n:Int),f2,(i:Int),(k:Int),v,g,o,p,x)/\(f2=true↔fr=true\/o[z].length<v.length)) (λnb b9=>wab (λc4=>b9 _ ⟨_,rfl,by simp[c4]⟩) λc4=>?_) λs⟨f2,H,b6⟩=>?_;{refine wac _ (vn f) (wac _ (atN f) (b9 _ ⟨_,rfl,?_⟩));rw[wc9,c4];simp};.subst H;dsimp only;rw[Z];refine wac _ (vn f) (wac _ (yw _ f) (c1 _ ⟨_,_,rfl,g6,b5,λh=>?_,λh=>?_⟩));{rcases b6.1 h with h2|h2;{have:=F h2;omega};.have:=O h2;cases R:fr with|true=>{have:=F R;omega}|false=>rw[(a R).1]at this⊢;exact this};.have h3:¬(fr=true\/o[z].length<v.length):=λh4=>by{rw[b6.2 h4]at h;cases h};have R:fr=false:=by{cases hh:fr with|false=>{rfl}|true=>exact absurd (.inl hh) h3};obtain⟨e1,f4,f5⟩:=a R;obtain⟨e2,e3⟩:=Q (Nat.le_of_not_lt λh4=>h3 (.inr h4));subst e1;refine⟨e2,f4,a0 (λ_ t h5=>?_) f5⟩;rw[Z,wcz];rw[hq,wcz]at h5;have e4:o.getD q []=o[q]:=by{simp[List.getD,S]};have e5:o.getD z []=o[z]:=by{simp[List.getD,f]};rw[e4]at h5;rw[e5];exact e3 t ((c5 t).2 h5)
def jvy{ps:Wam jk}{st:Nat}{en:Int}{em re:W8}{al o:W4}(h0:en∈o.getD st [])(c:∀p∈ps,re[p.1.toNat]?=some true->foC em al o p){i:Nat}{t:Int}(h:FoL ps st en em re al i t):t∈o.getD i []:=by induction h with|fin=>{omega}|step B d e f a _ b g=>exact c _ d e _ _ f a _ (zzy g b)
def z8y(g:jb)(w:zeu g)(hz:gFd g=zd)(f:GOk g){em re:W8}{al B:W4}(v:EmX g em al)(e:Tn (λk=>zk k g) (λr=>r=re))(j:re.length=g.2.1.length)(d:B.length=g.2.1.length)(m:FoR g em re al (g.1.length+1) B)(c:(g.1.length:Int)∈B.getD g.2.2.2.1.toNat [])(a:∀p∈g.2.2.1,re[p.1.toNat]?=some true->foC em al B p):Tn (λk=>Ya k g) (λo=>o=B):=
 Tt.mono (jg8 g w hz f v e j c a) λo⟨b,q,u⟩=>jnf b.l d b.n m.r λi t=>⟨b.s i t,λh=>jvy q u (m.s i t h)⟩
def PrE(g:jb)(em:W8)(al B:W4)(p:jk)(r:W7):Prop:=RN (g.1.length+1) r/\∀t,t∈r↔inT em al (B.getD p.1.toNat []) t p.2.1
section
variable{g:jb}(hg:zeu g)(hz:gFd g=zd)(hok:GOk g){em:List Bool}{al B:List (List Int)}(hA:EmX g em al)(hF:Tn (fun nn => Ya nn g) (fun o => o=B))(hBl:B.length=g.2.1.length)(hBr:∀l ∈ B, RN (g.1.length + 1) l)
include hg hz hok hA hF hBl hBr
def z9x{k:Nat}(z:k<g.2.2.1.length):Tn (λL=>Yr L g (k:Int)) (PrE g em al B g.2.2.1[k]):=by
 have P:=hok.t;have c:=atN z;have a:=wcm z;unfold Yr;generalize g.2.2.1[k]=p at c a;have d:=hok.items p a;have H:=hok.len p a;obtain⟨Q,R⟩:=hok.left p a;obtain⟨q,A⟩:∃q:Nat,p.1=q:=⟨p.1.toNat,U⟩
 refine Tt.J (λs=>s=((k:Int),false,g)) (λS w=>?_) λs y=>?_;{refine Waj (zbz g hg) waa λb n=>?_;have u:=n.2 hz;subst u;refine Tt.b1 (wae rfl (wae (wc3 U) (w _ ?_)));grind}
 .subst y;refine wae rfl (wac _ c ?_);have m:=z0v g hg hz hok em al hA.e hA.l hA.f hA.x _ U d;refine Waj m waa λr⟨C,D⟩=>(Tt.J (PrE g em al B p) (λT i=>?_) λs y=>Tt.pure y)
  refine wac _ c (Waj (jbw g hg hz em hA.e hA.l _ U d) waa λb n=>wab (λcv=>?_) λcv=>i _ ⟨C.up U,λt=>?_⟩);rotate_left
  {rw[zhd,D];exact⟨.inl,λh=>h.elim id λh=>by rw[n.2 h.1]at cv;cases cv⟩};refine Waj hF waa λo I=>wac _ c ?_;subst I;have j:q<o.length:=U;rw[A];refine Tt.at j ?_;have M:=hBr _ (wcm j);have G:=zlz U (C.up U) M;refine Waj G waa λv⟨N,O⟩=>i _ ⟨N,λt=>?_⟩;have F:o.getD q []=o[q]:=X;rw[O,zhd,D,A,wcz,F];grind
def zn2:Tn (λj=>Ve j g) (λr=>r.length=g.2.2.1.length/\∀(k:Nat)p l,g.2.2.1[k]?=some p->r[k]?=some l->PrE g em al B p l):=by have v:=hok.p;unfold Ve;refine Tt.loop (λm s=>∃(d:Nat)(o:W4),d<=g.2.2.1.length/\m=g.2.2.1.length-d/\s=((d:Int),g,o)/\o.length=d/\∀(k:Nat)p l,g.2.2.1[k]?=some p->o[k]?=some l->PrE g em al B p l) g.2.2.1.length waa ⟨0,[],U,Wab,rfl,rfl,λk p l _ h=>X⟩ λm s⟨d,o,t,u,i,f,e⟩ x b=>?_;subst i;dsimp only;refine wad (λc=>?_) λc=>Tt.pure ⟨X,e⟩;have a:d<g.2.2.1.length:=U;refine Waj (z9x hg hz hok hA hF hBl hBr a) waa.fst λr w=>wac _ (ye X U) (wai ?_);refine b (g.2.2.1.length-(d+1)) _ U ⟨d+1,_,U,rfl,rfl,X,λk p l n q=>?_⟩;grind
end
structure PdL(g:jb)(em:List Bool)(al B:List (List Int))(r t:Int)(d:Nat)(f:List Int):Prop where
 rs:jx f
 i:∀x,x∈f↔∃(k:Nat)(p:jk),x=(k:Int)/\k<d/\g.2.2.1[k]?=some p/\p.1=r/\inT em al (B.getD p.1.toNat []) t p.2.1
def zql{g:jb}(hok:GOk g){em:W8}{al B:W4}{a:W4}(O:a.length=g.2.2.1.length)(C:∀(k:Nat)p l,g.2.2.1[k]?=some p->a[k]?=some l->PrE g em al B p l)(r t:Int):Tn (λM=>Qp M g a r t) (PdL g em al B r t g.2.2.1.length):=by
 have Y:=hok.t;have T:=hok.p;unfold Qp;refine Tt.loop (λm s=>∃d f,d<=g.2.2.1.length/\m=g.2.2.1.length-d/\s=(a,r,t,(d:Int),g,f)/\PdL g em al B r t d f/\f.length<=d) g.2.2.1.length waa ⟨0,[],U,Wab,rfl,⟨by simp[jx],λx=>⟨λh=>X,λ⟨k,_,_,h,_⟩=>U⟩⟩,V⟩ λm s⟨d,f,P,S,w,o,I⟩ Z A=>?_;subst w;dsimp only;refine wad (λc=>?_) λc=>Tt.pure ?_;rotate_left
 {grind};have n:d<g.2.2.1.length:=U;have j:d<a.length:=U;have e:=atN n;have q:=wch n;generalize g.2.2.1[d]=p at e q;obtain⟨N,q2⟩:=C d p _ q (wch j);refine Tt.J (λs=>∃f,s=(a,r,t,(d:Int),g,f)/\PdL g em al B r t (d+1) f/\f.length<=d+1) (λny u=>?_) λs⟨f,w,D,F⟩=>?_;{refine Tt.J (λs=>∃b,s=(a,r,t,(d:Int),b,g,f)/\(b=true↔p.1=r/\inT em al (B.getD p.1.toNat []) t p.2.1)) (λnz v=>?_) λs⟨b,w,G⟩=>?_;{refine wac _ e (Tt.b1 (wad (λz=>Tt.at j ?_) λz=>v _ ⟨_,rfl,⟨λh=>X,λh=>absurd h.1 z⟩⟩));have R:=N.len;refine Waj (zdz _ t U) waa.fst λb G=>v _ ⟨_,rfl,?_⟩;grind};.subst w;dsimp only;refine wab (λz=>?_) λz=>u _ ⟨f,rfl,⟨o.rs,λx=>?_⟩,U⟩;{refine wac _ (ye X U) (u _ ⟨_,rfl,⟨?_,λx=>?_⟩,X⟩);{unfold jx;rw[wel];refine⟨o.rs,V,λy L b H=>?_⟩;obtain⟨k,_,rfl,Q,_⟩:=(o.i y).1 L;grind};.rw[wcu,wcr,o.i];grind};.rw[o.i];grind};.subst w;dsimp only;refine wai ?_;exact A (g.2.2.1.length-(d+1)) _ U ⟨d+1,f,U,rfl,rfl,D,F⟩
def PdL.two{g:jb}{em:W8}{al B:W4}{r t:Int}{l:W7}(h:PdL g em al B r t g.2.2.1.length l):1<l.length↔Two g em al B (r,t):=by
 constructor
 .intro u;match l,u,h with
  |a::b::l,_,h=>
   obtain⟨k,p,w,_,c,d,f⟩:=(h.i a).1 V;obtain⟨e,o,x,_,j,m,n⟩:=(h.i b).1 V;have:=(wdj.1 h.rs).1 b V;exact⟨k,e,p,o,U,c,j,d.symm,m.symm,f,n⟩
 .rintro⟨k,e,p,o,v,c,d,f,j,m,n⟩;have q:=(h.i (k:Int)).2 ⟨k,p,rfl,(wcl.1 c).1,c,f.symm,m⟩;have s:=(h.i (e:Int)).2 ⟨e,o,rfl,(wcl.1 d).1,d,j.symm,n⟩;match l,q,s with
  |[a],q,s=>
   grind
  |a::b::l,_,_=>simp
def wa8{g:jb}(a:GOk g){em:W8}{al B:W4}(o:∀l∈al,RN g.1.length l)(f:∀l∈B,RN (g.1.length+1) l){c:Int×Int}(h:Two g em al B c):(0<=c.1/\c.1<(g.2.1.length:Int))/\0<=c.2/\c.2<=(g.1.length:Int):=by
 obtain⟨k,_,p,_,_,j,_,q,_,m,_⟩:=h;have i:=wcq j;obtain⟨r,s⟩:=a.left p i;refine⟨U,?_⟩;rcases zhd.1 m with d|⟨_,d⟩
 {have:=zxj o (a.items p i) d;omega};.by_cases n:p.1.toNat<B.length;{have e:B.getD p.1.toNat []=B[p.1.toNat]:=X;rw[e]at d;have:=(f _ (wcm n)).b _ d;omega};grind
def z6h{g:jb}(M:zeu g)(hz:gFd g=zd)(f:GOk g){em:W8}{al B:W4}(q:EmX g em al)(P:Tn (λG=>Ya G g) (λo=>o=B))(w:B.length=g.2.1.length)(i:∀l∈B,RN (g.1.length+1) l):Tn (λG=>Vi G g) (λr=>∃d,r.1=(d.1,d.2.1,d.2.2,())/\CdS g em al B d):=by
 have J:=f.t;have Z:=f.r;unfold Vi;refine Waj (zbz g M) waa λb R=>?_;have y:=R.2 hz;subst y;refine wae rfl (Waj (zn2 M hz f q P w i) waa λa⟨Q,F⟩=>?_);refine Tt.loop (λm s=>∃d,d<=g.2.1.length/\m=g.2.1.length-d/\s=(a,(d:Int),g,(0,0,0,()))/\∀c,Two g em al B c->(d:Int)<=c.1) g.2.1.length waa ⟨0,U,U,rfl,λc h=>(wa8 f q.x.r i h).1.1⟩ λm s⟨d,T,S,D,n⟩ nx A=>?_;subst D;dsimp only;refine wad (λc=>?_) λc=>Tt.pure ⟨(0,0,0),rfl,.inl ⟨rfl,λv h=>?_⟩⟩;rotate_left
 {have I:=n v h;have p:=(wa8 f q.x.r i h).1.2;omega};refine Tt.loop (λm s=>∃j,j<=g.1.length+1/\m=g.1.length+1-j/\s=(a,(d:Int),(j:Int),g,(0,0,0,()))/\∀c,Two g em al B c->c.1=(d:Int)->(j:Int)<=c.2) (g.1.length+1) waa.fst ⟨0,U,Wab,rfl,λc h _=>(wa8 f q.x.r i h).2.1⟩ λm s⟨j,Y,S,D,u⟩ ny C=>?_;subst D;dsimp only;refine wad (λO=>?_) λO=>Tt.b1 ?_
 .refine Waj (zql f Q F _ _) waa.fst.fst λl N=>wad (λv=>?_) λv=>Tt.b1 ?_
  .have H:1<l.length:=U;refine Tt.at H (Tt.pure ⟨(15,(d:Int),(j:Int)),rfl,.inr ⟨((d:Int),(j:Int)),rfl,N.two.1 H,λk h z=>?_⟩⟩);have I:=n k h;rcases z with p|⟨p,L⟩
   {omega};grind
  .rw[wI U U];refine C (g.1.length+1-(j+1)) _ U ⟨j+1,U,rfl,rfl,λk h p=>?_⟩;have L:=u k h p;by_cases e:k.2=(j:Int);{exfalso;have:k=((d:Int),(j:Int)):=Prod.ext p e;rw[this]at h;have:=N.two.2 h;omega};omega
 .rw[wI U U];refine(A (g.2.1.length-(d+1)) _ U ⟨d+1,U,rfl,rfl,λk h=>?_⟩).fst;have I:=n k h;by_cases e:k.1=(d:Int);{have p:=u k h e;have L:=(wa8 f q.x.r i h).2.2;omega};omega
def AtS(g:jb)(em:W8)(al B:W4)(r t:Nat)(z:Int):Prop:=(∃(k:Nat)(p:jk),z=(k:Int)/\g.2.2.1[k]?=some p/\p.1=(r:Int)/\inT em al (B.getD p.1.toNat []) (t:Int) p.2.1)\/(z=-1/\∀(k:Nat)(p:jk),g.2.2.1[k]?=some p->p.1=(r:Int)->¬inT em al (B.getD p.1.toNat []) (t:Int) p.2.1)
def AtS.one{g:jb}{em:W8}{al B:W4}{r t:Nat}{z f:Int}(m:NC g em al B)(h:AtS g em al B r t z)(a:AtS g em al B r t f):z=f:=by
 rcases h with⟨k,p,rfl,i,n,j⟩|⟨rfl,h⟩
 .rcases a with⟨d,e,rfl,b,l,c⟩|⟨_,a⟩
  {rw[m k d p e i b U t j c]};grind
 .rcases a with⟨d,e,rfl,b,l,c⟩|⟨rfl,_⟩
  {grind};rfl
structure TbS(g:jb)(em:List Bool)(al B:List (List Int))(ll:List (List Int)):Prop where
 n:ll.length=g.2.1.length
 w:∀(r:Nat)(row:List Int),ll[r]?=some row->row.length=g.1.length+1
 c:∀(r t:Nat)(row:List Int)(z:Int),ll[r]?=some row->row[t]?=some z->AtS g em al B r t z
def TbS.one{g:jb}{em:W8}{al B:W4}{a b:W4}(m:NC g em al B)(d:TbS g em al B a)(e:TbS g em al B b):a=b:=by apply wfa (by rw[d.n,e.n]);intro r i j;have f:=wch i;have h:=wch j;apply wfa (by rw[d.w _ _ f,e.w _ _ h]);intro t k l;exact(d.c r t _ _ f (wch k)).one m (e.c r t _ _ h (wch l))
def BdS(g:jb)(em:W8)(al B:W4)(x:W4×Int×Unit):Prop:=∃d,CdS g em al B d/\(d.1≠0->x=([],15,()))/\(d.1=0->∃a,x=(a,0,())/\TbS g em al B a)
def BdS.one{g:jb}{em:W8}{al B:W4}{x y:W4×Int×Unit}(h:BdS g em al B x)(k:BdS g em al B y):x=y:=by obtain⟨d,b,n,c⟩:=h;obtain⟨m,i,o,j⟩:=k;have:=b.one i;subst this;by_cases e:d.1=0;{obtain⟨l,rfl,f⟩:=c e;obtain⟨p,rfl,a⟩:=j e;rw[f.one (b.nc e) a]};grind
def tbl_of{g:jb}{em:W8}{al B:W4}{m:PM}(d:GOk g)(h:jdl g em al B m):TbS g em al B (jk9 g.2.1.length (g.1.length+1) m):=by
 have F:=z4z d h;have a:=jl3 F;refine⟨a.n,a.w,λr t row z q s=>?_⟩;have j:=(wcl.1 s).1;rw[a.w r row q]at j;rcases a.c r t row z q s with⟨e,y,A,o⟩|⟨D,o⟩
 {obtain⟨i,l,G⟩:∃i l,e.2=i::l:=by{cases C:e.2 with|nil=>{exact absurd C (h.pm.ne e y)}|cons i l=>simp};obtain⟨k,p,rfl,f,u,_,_,v⟩:=h.pm.says e y i X;rw[A]at u v;exact .inl ⟨k,p,X,f,u.symm,v⟩};.refine .inr ⟨o,λk p f H b=>?_⟩;obtain⟨x,I,L,_⟩:=h.has k p f _ b;grind
def jkh{g:jb}{em re:W8}{al B:W4}(k:zad g)(i:GR g)(a:GOk g)(l:Kn g em re al B):Tn (λn=>Jt n g) (BdS g em al B):=by
 obtain⟨rows,m,e,b,d⟩:=jb3 k a l;obtain⟨r,c,h⟩:=z56 d (ja1 e b);refine(jt7 i a e d.pm.nd (z4z a d)).mono λx f=>⟨r.1,h,λh0=>?_,λh0=>?_⟩
 {rw[f,if_pos];unfold zlr at c;grind};.refine⟨_,?_,tbl_of a d⟩;rw[f,if_neg];intro j;unfold zlr at c;rw[j]at c;obtain⟨z,_,rfl⟩:=wct.1 c;grind
def PdL.at{g:jb}{em:W8}{al B:W4}{r t:Nat}{l:W7}(h:PdL g em al B (r:Int) (t:Int) g.2.2.1.length l):(l=[]->AtS g em al B r t (-1))/\∀a,a∈l->AtS g em al B r t a:=by refine⟨λe=> .inr ⟨rfl,λk p b c d=>?_⟩,λa j=>?_⟩;{have:=(h.i (k:Int)).2 ⟨k,p,rfl,(wcl.1 b).1,b,c,d⟩;grind};.obtain⟨k,p,f,_,b,c,d⟩:=(h.i a).1 j;exact .inl ⟨k,p,f,b,c,d⟩
def jfo{g:jb}(D:zeu g)(hz:gFd g=zd)(f:GOk g){em:W8}{al B:W4}(R:EmX g em al)(S:Tn (λP=>Ya P g) (λo=>o=B))(i:B.length=g.2.1.length)(k:∀l∈B,RN (g.1.length+1) l):Tn (λP=>Yu P g) (BdS g em al B):=by
 have ht:=f.t;have hr:=f.r;unfold Yu;refine Waj (zbz g D) waa λb hb=>?_;have A:=hb.2 hz;subst A;refine wae rfl (Waj (z6h D hz f R S i k) waa λcd⟨x,a3,p⟩=>?_);have C:cd.1.1=x.1:=X;refine wad (λc=>Tt.pure ⟨x,p,λ_=>rfl,λh=>absurd (C.trans h) c⟩) λc=>?_;have h0:x.1=0:=by{grind};refine Waj (zn2 D hz f R S i k) waa λa⟨ha,O⟩=>?_;refine Tt.loop (λm s=>∃(d:Nat)(o:W4),d<=g.2.1.length/\m=g.2.1.length-d/\s=(a,(d:Int),g,o)/\o.length=d/\(∀(r:Nat)row,o[r]?=some row->row.length=g.1.length+1)/\∀r t row z,o[r]?=some row->row[t]?=some z->AtS g em al B r t z) g.2.1.length waa ⟨0,[],U,U,rfl,rfl,λr row h=>by simp at h,λr t row z h=>by simp at h⟩ λm s⟨d,o,hd,hm,w,M,v,u⟩ nx I=>?_;subst w;dsimp only;refine wad (λc=>?_) λc=>Tt.pure ⟨x,p,λh=>absurd h0 h,λ_=>⟨o,rfl,⟨X,v,u⟩⟩⟩;refine Tt.loop (λm s=>∃j n,j<=g.1.length+1/\m=g.1.length+1-j/\s=(a,(d:Int),(j:Int),g,o,n)/\n.length=j/\∀t z,n[t]?=some z->AtS g em al B d t z) (g.1.length+1) waa.fst ⟨0,[],U,U,rfl,rfl,λt z h=>by simp at h⟩ λm s⟨j,n,hj,hm,w,H,G⟩ ny L=>?_;subst w;dsimp only;refine wad (λY=>?_) λY=>?_;{refine Tt.J (λs=>∃z,s=(a,(d:Int),(j:Int),g,o,n++[z])/\AtS g em al B d j z) (λnz q=>?_) λs⟨z,w,a5⟩=>?_;{refine Waj (zql f ha O _ _) waa.fst.fst λl T=>wad (λZ=>?_) λZ=>?_;{have e:l=[]:=wdm U;exact wac _ (ye X U) (q _ ⟨_,rfl,T.at.1 e⟩)};.have Q:0<l.length:=U;exact Tt.at Q (wac _ (ye X U) (q _ ⟨_,rfl,T.at.2 _ (wcm Q)⟩))};.subst w;dsimp only;refine wai ?_;refine L (g.1.length+1-(j+1)) _ U ⟨j+1,n++[z],U,rfl,rfl,X,λt y hy=>?_⟩;grind}
 .have F:j=g.1.length+1:=U;refine wac _ (ye X U) (wai ?_);refine(I (g.2.1.length-(d+1)) _ U ⟨d+1,o++[n],U,rfl,rfl,X,λr row h=>?_,λr t row z h=>?_⟩).fst;all_goals
   by_cases N:r<o.length
   ·rw[wcx N]at h
    first|exact v r row h|exact u r t row z h
   ·rw[wcw U]at h;have:r=d:=by
     have:=(wcl.1 h).1;simp at this;omega
    subst this;rw[M,Nat.sub_self]at h;simp at h;subst h
    first|exact H.trans F|exact G t z
abbrev aE(d:jd):Nat->Nat->Prop:=λi j=>dE d j i
abbrev aS(d:jd):Nat->Prop:=λi=>i<d.2.2.1.length/\0<=Ju d i
def zir{l:W8}{i:Nat}(hi:i<l.length)(h:l[i]=false):l.set i false=l:=by rw[<- h];simp
def z3t{d:jd}(hR:Tn (λnn=>Jb nn d) (λr=>r=true))(hd:DSz d)(hm:MOk d):Tn (λnn=>za6 nn d) (λr=>r=Zj d.2.2.1.length (aE d) (aS d)):=by
 have n0:0<d.2.2.1.length:=hm.n0;have hn:=hd.n;have hw:=hm.w;have f1:0<=d.2.1:=hw.1;have f2:d.2.1<=256:=hw.2;have b9:d.2.2.2.1.length=d.2.2.1.length:=hm.lab;unfold za6;refine Waj hR waa λr hr=>?_;subst hr;refine wae rfl (Tt.b1 (wac _ (mkN (n:=d.2.2.1.length) U U) ?_));generalize hN:d.2.2.1.length=N at n0 hn b9⊢;have c5:=zxz (replicate N false);rw[wci]at c5;refine Tt.loop (λm s=>∃(k:Nat)(a:W8),k<=N+1/\m=N+1-k/\s=((k:Int),d,a)/\a.length=N/\(∀i,onB a i->Rch (aE d) (aS d) i)/\(a=Zj N (aE d) (aS d)\/offs a+k<=N)) (N+1) waa ⟨0,_,U,U,rfl,V,λi hi=>absurd hi zmu,.inr U⟩ λm s⟨k,a,hk,e8,G,ha,d1,d0⟩ nx d6=>?_;subst G;dsimp only;rw[ha];refine wab (λc=>?_) λc=>Tt.pure ?_;rotate_left
 {grind};have c:=wcj c;refine Tt.loop (λm s=>∃(i:Nat)(b:W8),i<=N/\m=N-i/\s=((k:Int),(i:Int),d,b)/\b.length=N/\LeB a b/\(∀i,onB b i->Rch (aE d) (aS d) i)/\(a=b->∀P,P<i->(0<=Ju d P->onB a P)/\∀j,onB a j->dE d P j->onB a P)) N waa.fst ⟨0,a,U,U,rfl,ha,LeB.refl a,d1,λ_ P h=>U⟩ λm s⟨i,b,hi,e7,G,hb,C,y,a2⟩ ny d7=>?_;subst G;dsimp only;rw[hb];refine wab (λc1=>?_) λc1=>?_
 .have c1:=wcj c1;have a3:i<N:=U;have B:i<d.2.2.1.length:=U;have f:i<b.length:=U;have b7:i<d.2.2.2.1.length:=U;have R:Ju d i=d.2.2.2.1[i]:=yf b7;have a0:=atN B;have c6:((d.2.2.1[i]).length:Int)=d.2.1:=by{have:=hm.row i U U;rw[yf (l:=d.2.2.1) B]at this;omega};have D:∀(c:Nat)(hc:c<(d.2.2.1[i]).length),nxt d i c=(d.2.2.1[i])[c]:=λc hc=>zh9 B hc;have T:∀(c:Nat)(hc:c<(d.2.2.1[i]).length), -1<=(d.2.2.1[i])[c]/\(d.2.2.1[i])[c]<d.2.2.1.length:=λc hc=>by{have : -1<=nxt d i (c:Int)/\nxt d i (c:Int)<d.2.2.1.length:=hm.nx i c U (by show(i:Int)<d.2.2.1.length;omega) U (by show(c:Int)<d.2.1;omega);rw[D c hc]at this;exact this};generalize d.2.2.1[i]=row at a0 c6 T D;refine Tt.J (λs=>∃b',s=((k:Int),(i:Int),d,b')/\b'.length=N/\LeB b b'/\(∀i,onB b' i->Rch (aE d) (aS d) i)/\(0<=Ju d i->onB b' i)) (λnz F=>?_) λs⟨b1,G,d2,x,b0,d5⟩=>?_;{refine wac _ (vn a3) (wac _ (atN f) (wab (λI=>?_) λI=>?_));{refine wac _ (vn a3) (wac _ (yw true f) (F _ ⟨_,rfl,by simpa using hb,LeB.set f,λj A=>?_,λ_=>(yr f).2 (.inl rfl)⟩));rcases(yr f).1 A with h|h;{subst h;exact y i (by unfold onB;rw[wch f,I])};.exact y j h};.refine wac _ (atN b7) (wac _ (vn a3) ?_);by_cases u:0<=d.2.2.2.1[i];{rw[wdh u];refine wac _ (yw true f) (F _ ⟨_,rfl,by simpa using hb,LeB.set f,λj A=>?_,λ_=>(yr f).2 (.inl rfl)⟩);rcases(yr f).1 A with h|h;{subst h;exact .base ⟨B,by rw[R];exact u⟩};.exact y j h};.rw[wc3 u];refine wac _ (yw false f) (F _ ⟨b,by rw[zir f I],hb,LeB.refl b,y,λh=>absurd (by rw[<- R];exact h) u⟩)};subst G;dsimp only;refine Tt.loop (λm s=>∃(c:Nat)(p:W8),c<=row.length/\m=row.length-c/\s=((k:Int),(i:Int),(c:Int),d,p)/\p.length=N/\LeB b1 p/\(∀i,onB p i->Rch (aE d) (aS d) i)/\(a=p->∀Z:Nat,Z<c->∀j:Nat,nxt d i Z=j->onB a j->onB a i)) row.length waa.fst.fst ⟨0,b1,U,U,rfl,d2,LeB.refl b1,b0,λ_ Z h=>U⟩ λm s⟨c,p,hc,e6,G,a1,o,v,b5⟩ nz F=>?_;subst G;dsimp only;have g:i<p.length:=U;refine wab (λI=>?_) λI=>?_
  .have I:=wcj I;have M:c<row.length:=U;have hq:=T c M;have a4:=D c M;refine Tt.J (λs=>∃Y,s=((k:Int),(i:Int),(c:Int),d,Y)/\Y.length=N/\LeB p Y/\(∀i,onB Y i->Rch (aE d) (aS d) i)/\(∀j:Nat,nxt d i c=j->onB p j->onB Y i)) (λnu c0=>?_) λs⟨Y,G,d3,S,b4,d4⟩=>?_
   .refine Tt.J (λs=>∃t,s=((k:Int),(i:Int),(c:Int),t,d,p)/\(t=true↔∃j:Nat,nxt d i c=j/\onB p j)) (λnv c4=>?_) λs⟨t,G,ht⟩=>?_
    .refine wac _ a0 (wac _ (atN M) (Tt.b1 (wab (λu=>?_) λu=>c4 _ ⟨false,rfl,⟨λh=>(by cases h),λ⟨j,Q,_⟩=>?_⟩⟩)))
     .have u:=wcj u;obtain⟨z,hz⟩:∃z:Nat,row[c]=(z:Int):=⟨(row[c]).toNat,U⟩
      have O:z<p.length:=U;refine wac _ a0 (wac _ (atN M) ?_);rw[hz];refine wac _ (vn O) (wac _ (atN O) (c4 _ ⟨_,rfl,⟨λh=>⟨z,by rw[a4,hz],by unfold onB;rw[wch O,h]⟩,λ⟨j,Q,H⟩=>?_⟩⟩));rw[a4,hz]at Q;have:z=j:=U;subst this;unfold onB at H;rw[wch O]at H;exact wd5 H
     .have u:=wck u;rw[a4]at Q;omega
    .subst G;dsimp only;refine wab (λu=>?_) λu=>c0 _ ⟨p,rfl,a1,LeB.refl p,v,λj Q H=>by rw[ht.2 ⟨j,Q,H⟩]at u;cases u⟩;refine wac _ (vn g) (wac _ (yw true g) (c0 _ ⟨_,rfl,by simpa using a1,LeB.set g,λj A=>?_,λ_ _ _=>(yr g).2 (.inl rfl)⟩));rcases(yr g).1 A with h|h;{subst h;obtain⟨j,Q,H⟩:=ht.1 u;exact .step (v j H) ⟨B,c,U,by show(c:Int)<d.2.1;omega,Q⟩};.exact v j h
   .subst G;dsimp only;refine Tt.b1 ?_;rw[wI U U];refine F (row.length-(c+1)) _ U ⟨c+1,Y,U,rfl,rfl,d3,o.trans S,b4,λe Z e3 j A b8=>?_⟩;have L:a=p:=((C.trans x).trans o).antisymm (e▸S);by_cases h:Z=c;{subst h;have:=d4 j A (L▸b8);rwa [<- e]at this};.exact b5 L Z U j A b8
  .have I:=wck I;refine Tt.b1 ?_;rw[wI U U];refine(d7 (N-(i+1)) _ U ⟨i+1,p,U,rfl,rfl,a1,(C.trans x).trans o,v,λe P e5=>?_⟩).fst;have L:a=b:=C.antisymm (e▸x.trans o);have a8:a=b1:=(C.trans x).antisymm (e▸o);by_cases h:P=i;{subst h;refine⟨λh=>by have:=d5 h;rwa [<- a8]at this,λj A hE=>?_⟩;obtain⟨Q,Z,h0,H,h3⟩:=hE;obtain⟨q,rfl⟩:=wdw h0;have H:(q:Int)<d.2.1:=H;exact b5 e q U j h3 A};.exact a2 L P U
 .have c1:=wck c1;refine Tt.b1 ?_;rw[wI U U];have c8:Round (aE d) (aS d) a b:=⟨C,y,λe=>⟨λi hi=>(a2 e i (by have:=hi.1;omega)).1 hi.2,λj i A hE=>(a2 e i (by have:=hE.1;omega)).2 j A hE⟩⟩
  exact(d6 (N+1-(k+1)) _ U ⟨k+1,b,U,rfl,rfl,hb,y,c8.next ha d0⟩).fst
abbrev zS:Arr 4 Int:=⟨replicate 4 0,wci⟩
def jvc(b:Nat):zzm zS b=0:=by unfold zzm;have h:∀k,zS.l.getD k 0=0:=λk=>by{grind};simp_all
def jpu(b:Nat):zk8 zS b=false:=by unfold zk8;rw[jvc];rfl
def js5:ze0 zS:=λk=>by grind
def finE_z(E:Nat->Nat->Bool):zwr E zS=E:=by funext a b;unfold zwr;rw[jpu,jpu];simp
def jmo{E:Nat->Nat->Bool}(h:Eqv E){a:Wa}(b:ClsAt E a 256):Tn (λd=>Zz d a) (λr=>r=true):=by unfold Zz;refine Waj (jcp h a b zS js5) waa λr c=>Tt.pure ?_;rw[finE_z]at c;rw[c.one b];simp
def jkf{d:jd}{E:Nat->Nat->Bool}(h:Eqv E)(p:ClsAt E d.1 256)(N:d.2.1=((qw E 256).length:Int))(u:DSz d)(hm:MOk d)(B:∀x∈d.2.2.2.1, -1<=x):Tn (λF=>Jm F d) (λb=>b=true):=by have R:=u.n;have S:=u.l;have O:=hm.n0;have z:=hm.lab;unfold Jm;refine Tt.b1 (Tt.J (λs=>s=((d.2.2.1.length:Int),false,d)) (λG g=>?_) λs a=>?_);{refine Tt.b1 (wae (wc3 U) (wae (wc3 U) ?_));refine Waj (jmo h p) waa λr A=>?_;subst A;refine wae rfl (Waj (z6d _ (zqs h p)) waa λr A=>g _ ?_);grind};subst a;refine wae rfl (Tt.J (λb=>b=true) (λG g=>?_) λs a=>Tt.pure a);refine Tt.loop (λm s=>∃k,k<=d.2.2.1.length/\m=d.2.2.1.length-k/\s=((d.2.2.1.length:Int),true,d.2.2.1,(d.2.2.1.length:Int),(k:Int),d)) d.2.2.1.length waa ⟨0,U,U,rfl⟩ λm s⟨k,L,D,a⟩ Q w=>?_;subst a;dsimp only;refine wad (λc=>?_) (λc=>g.fst _ rfl);have e:k<d.2.2.1.length:=U;have o:=atN e;have t:((d.2.2.1[k]).length:Int)=d.2.1:=by{have:=hm.row k U U;rw[yf e]at this;omega};have y:=u.r _ (wcm e);have f:∀c(p:c<(d.2.2.1[k]).length), -1<=(d.2.2.1[k])[c]/\(d.2.2.1[k])[c]<d.2.2.1.length:=λc p=>by{have : -1<=nxt d k (c:Int)/\nxt d k (c:Int)<d.2.2.1.length:=hm.nx k c U U U U;rw[zh9 e p]at this;omega};refine wac _ o ?_;generalize d.2.2.1[k]=row at o t f y;refine Tt.J (λs=>s=((d.2.2.1.length:Int),true,row,d.2.2.1,(d.2.2.1.length:Int),(k:Int),false,d)) (λH i=>?_) λs a=>?_;{refine Tt.b1 (wae (wc3 U) (Tt.at (show k<d.2.2.2.1.length by omega) (i _ ?_)));have:=B _ (wcm (show k<d.2.2.2.1.length by omega));rw[wc3 U]};subst a;refine wae rfl ?_;dsimp only;refine Tt.loop (λm s=>∃j,j<=row.length/\m=row.length-j/\s=((d.2.2.1.length:Int),true,d.2.2.1,(d.2.2.1.length:Int),(k:Int),row,(row.length:Int),(j:Int),d)) row.length waa.fst ⟨0,U,Wab,rfl⟩ λm s⟨j,I,C,a⟩ H i=>?_;subst a;dsimp only;refine wad (λc=>?_) (λc=>?_);{have q:j<row.length:=U;have M:=f j q;refine Tt.at q (Tt.J (λs=>s=((d.2.2.1.length:Int),true,d.2.2.1,(d.2.2.1.length:Int),(k:Int),row,(row.length:Int),(j:Int),false,d)) (λP v=>?_) λs a=>?_);{refine Tt.b1 (wae (wc3 U) (v _ ?_));grind};.subst a;refine wae rfl (Tt.b1 ?_);dsimp only;rw[wI U U];exact i (row.length-(j+1)) _ U ⟨j+1,U,rfl,rfl⟩};.refine wai ?_;exact(w (d.2.2.1.length-(k+1)) _ U ⟨k+1,U,rfl,rfl⟩).fst
def zg3{α:Type}(f:α->α)(l:List α)(q:Nat):List α:=(l.take q).map f++l.drop q
def jkq{α:Type}{f:α->α}{l:Wam α}{q:Nat}:(zg3 f l q).length=l.length:=by unfold zg3;grind
def jqv{α:Type}{f:α->α}{l:Wam α}{q:Nat}(h:q<l.length):(zg3 f l q)[q]?=some l[q]:=by unfold zg3;grind
def jkn{α:Type}{f:α->α}{l:Wam α}{q:Nat}(h:q<l.length):(zg3 f l q).set q (f l[q])=zg3 f l (q+1):=by unfold zg3;rw[List.set_append_right _ _ X,wcp h,wc8,wc4];simp[wc0,wfb];rw[show q-min q l.length=0 by omega,wcy h];rfl
def jf8{α:Type}{f:α->α}{l:Wam α}{q:Nat}(h:q<l.length)(e:f l[q]=l[q]):zg3 f l (q+1)=zg3 f l q:=by unfold zg3;rw[wcp h,wc8,wc4,wcy h,wda,e];rfl
def jl2{α:Type}{f:α->α}{l:Wam α}:zg3 f l l.length=l.map f:=by simp[zg3]
def kpB(re al:W8)(i:Nat):Bool:=decide (i=0) ||(re.getD i false && al.getD i false)
def keL(a:Nat->Bool)(k:Nat):List Nat:=(range k).filter a
def nuI(a:Nat->Bool)(i:Nat):Int:=if a i=true then((keL a i).length:Int)else -1
def trZ(a:Nat->Bool)(z:Int):Int:=if 0<=z then nuI a z.toNat else z
def zae(d:jd)(a:Nat->Bool):jd:=(d.1,d.2.1,(keL a d.2.2.1.length).map (λ(i:Nat)=>(at' d.2.2.1 (i:Int)).map (trZ a)),(keL a d.2.2.1.length).map (λ(i:Nat)=>Ju d i),())
def zik(a:Nat->Bool)(k:Nat):keL a (k+1)=if a k=true then keL a k++[k]else keL a k:=by unfold keL;rw[we5,wfd];grind
def zpv(a:Nat->Bool)(k:Nat):(keL a k).length<=k:=by have:=List.length_filter_le a (range k);simpa [keL]using this
def z72{a:Nat->Bool}{k i:Nat}(h:i∈keL a k):i<k:=by have:=(weo.1 h).1;grind
structure NuI(kp:Nat->Bool)(n k:Nat)(nu:List Int):Prop where
 l:nu.length=n
 v:∀i,i<k->nu[i]?=some (nuI kp i)
def NuI.next{a:Nat->Bool}{n k:Nat}{b:W7}(h:NuI a n k b)(d:k<n){z:Int}(hz:z=nuI a k):NuI a n (k+1) (b.set k z):=⟨by simpa using h.l,λi c=>by
 rw[wdf];by_cases e:k=i;{subst e;have:=h.l;grind};.rw[if_neg e];exact h.v i U⟩
def z76{a:Nat->Bool}{k:Nat}(h:a k=true):nuI a k=((keL a k).length:Int):=if_pos h
def jgc{a:Nat->Bool}{k:Nat}(h:a k=false):nuI a k=-1:=if_neg X
def zic{α β:Type}{l:Wam α}{f:α->β}{i:Nat}(h:i<l.length):(l.take i).map f++[f l[i]]=(l.take (i+1)).map f:=by rw[wcp h,wc8];rfl
def jv9(d:jd)(S:DSz d)(hm:MOk d)(hR:Tn (λnn=>Jm nn d) (· = true)):Tn (λnn=>Zf nn d) (λr=>r=zae d (kpB (Zj d.2.2.1.length (dE d) (λi=>i=0)) (Zj d.2.2.1.length (aE d) (aS d)))):=by
 have s1:=S.n;have s2:=S.w;have b6:d.2.2.2.1.length=d.2.2.1.length:=hm.lab;unfold Zf;refine Waj hR waa λb' a2=>?_;subst a2;refine wae rfl ?_;refine Waj (zu3 d S hR) waa λre u=>?_;refine Waj (jlq d S hR) waa λB g=>?_;have u:re=Zj d.2.2.1.length (dE d) (λi=>i=0):=by{rcases u with⟨h,_⟩|⟨_,_,h⟩;cases h;exact h};have g:B=Zj d.2.2.1.length (aE d) (aS d):=by{rcases g with⟨h,_⟩|⟨_,_,h⟩;cases h;exact h};rw[<- u,<- g];have c6:re.length=d.2.2.1.length:=by{rw[u,zav]};have b4:B.length=d.2.2.1.length:=by{rw[g,zav]};clear u g;refine Tt.b1 (wac _ (mkN U U) ?_);simp only[wci];generalize (⟨replicate 256 0,wci⟩:Wa)=Z;generalize a6:kpB re B=a;refine Tt.loop (λm s=>∃(k:Nat)(A:W7),k<=d.2.2.1.length/\m=d.2.2.1.length-k/\s=(re,B,(d.2.2.1.length:Int),(k:Int),d,Z,0,A,(keL a k).map (λ(i:Nat)=>(i:Int)),[],[])/\NuI a d.2.2.1.length k A) d.2.2.1.length waa ⟨0,_,U,U,rfl,⟨V,λi h=>U⟩⟩ λm s⟨k,A,hk,Q,y,D⟩ nx a8=>?_;subst y;dsimp only;have c4:=D.l;have a5:=zpv a k;refine wab (λc=>?_) (λc=>?_);{have c:=wcj c;have e:k<d.2.2.1.length:=U;refine Tt.J (λs=>∃(A:W7),s=(re,B,(d.2.2.1.length:Int),(k:Int),d,Z,0,A,(keL a (k+1)).map (λ(i:Nat)=>(i:Int)),[],[])/\NuI a d.2.2.1.length (k+1) A) (λny o=>?_) λs⟨A,y,h1⟩=>?_;{refine wac _ (vn U) (wac _ (yw _ U) ?_);refine Tt.J (λs=>s=(re,B,(k:Int),(d.2.2.1.length:Int),(k:Int),a k,d,Z,0,A.set k (-1),(keL a k).map (λ(i:Nat)=>(i:Int)),[],[])) (λnz p=>?_) λs y=>?_;{have C:a k=(decide (k=0) ||(re.getD k false && B.getD k false)):=by{rw[<- a6];rfl};refine Tt.b1 (wab (λb=>p _ ?_) λb=>?_);{have b:=wcj b;have:k=0:=U;rw[C,wdh this];rfl};have b:=wck b;have P:k<re.length:=U;have O:k<B.length:=U;have er:re.getD k false=re[k]:=by{simp[List.getD,P]};have ea:B.getD k false=B[k]:=by{simp[List.getD,O]};rw[er,ea,wc3 U,Bool.false_or]at C;refine wac _ (atN P) (wab (λT=>wac _ (atN O) (p _ ?_)) λT=>p _ ?_);{rw[C,T];rfl};.rw[C,T];rfl};.subst y;dsimp only;refine wab (λb=>?_) λb=>o _ ⟨_,by rw[zik,if_neg (by rw[b];simp)],D.next e (jgc b).symm⟩;refine wac _ (vn Wag) (wac _ (yw _ Wag) (wac _ (ye X U) (o _ ⟨_,by rw[zik,if_pos b,wc8];rfl,?_⟩)));rw[List.set_set];exact D.next e (by rw[z76 b];simp)};.subst y;refine Tt.b1 ?_;dsimp only;rw[wI U U];exact a8 (d.2.2.1.length-(k+1)) _ U ⟨k+1,_,U,rfl,rfl,h1⟩};have c:=wck c;have a4:k=d.2.2.1.length:=U;subst a4;obtain⟨W,hW⟩:∃W:Nat,d.2.1=(W:Int):=⟨d.2.1.toNat,U⟩
 unfold zae;have G:∀j∈keL a d.2.2.1.length,j<d.2.2.1.length:=λj h=>z72 h;generalize keL a d.2.2.1.length=K at a5 G⊢;rw[wc0];refine Tt.loop (λm s=>∃(i:Nat),i<=K.length/\m=K.length-i/\s=((K.length:Int),(i:Int),d,Z,0,A,d.1,d.2.1,K.map (λ(i:Nat)=>(i:Int)),[],[],(K.take i).map (λ(i:Nat)=>(at' d.2.2.1 (i:Int)).map (trZ a)),(K.take i).map (λ(i:Nat)=>Ju d i))) K.length waa.fst ⟨0,U,U,rfl⟩ λm s⟨i,hi,Q,y⟩ ny o=>?_;subst y;dsimp only;refine wab (λc=>?_) (λc=>Tt.pure ?_);rotate_left
 {grind};have c:=wcj c;have e:i<K.length:=U;have N:=G _ (wcm e);have M:=zic (f:=λ(i:Nat)=>(at' d.2.2.1 (i:Int)).map (trZ a)) e;have R:=zic (f:=λ(i:Nat)=>Ju d i) e;have c1:(K.map (λ(i:Nat)=>(i:Int)))[i]?=some ((K[i]:Nat):Int):=by{simp[e]};refine wac _ (vn (by simpa using e)) (wac _ (Qf U (by assumption)) ?_);generalize K[i]=j at N M R;have x:=hm.row j U U;have a1:=atN N;have a7:=atN (l:=d.2.2.2.1) (k:=j) U;have Y:Ju d j=d.2.2.2.1[j]:=yf U;have I:∀(c:Nat)(hc:c<(d.2.2.1[j]).length), -1<=(d.2.2.1[j])[c]/\(d.2.2.1[j])[c]<d.2.2.1.length:=λc hc=>by{rw[yf (l:=d.2.2.1) N]at x;have : -1<=nxt d j (c:Int)/\nxt d j (c:Int)<d.2.2.1.length:=hm.nx j c U U U U;rw[zh9 N hc]at this;omega};simp only[yf (l:=d.2.2.1) N]at x M;rw[hW];refine wac _ (mkN (n:=W) U U) (wac _ a1 ?_);generalize d.2.2.1[j]=row at x M I;have a3:jpm (replicate W (0:Int)) row=some (((min (replicate W (0:Int)).length row.length:Nat):Int),row):=by{unfold jpm;congr 2;rw[wci,wd2 U,wdu Wag,wc2]};refine wac _ a3 ?_;refine Tt.loop (λm s=>∃(q:Nat),q<=row.length/\m=row.length-q/\s=((j:Int),(K.length:Int),(i:Int),(row.length:Int),(q:Int),d,Z,0,A,d.1,(W:Int),zg3 (trZ a) row q,K.map (λ(i:Nat)=>(i:Int)),[],[],(K.take i).map (λ(i:Nat)=>(at' d.2.2.1 (i:Int)).map (trZ a)),(K.take i).map (λ(i:Nat)=>Ju d i))) row.length waa.fst.fst ⟨0,U,Wab,Wab⟩ λm s⟨q,c5,Q,y⟩ nz p=>?_;subst y;dsimp only;refine wab (λc=>?_) (λc=>?_)
 .have c:=wcj c;have F:q<row.length:=U;have L:q<(zg3 (trZ a) row q).length:=by{rw[jkq];omega};have a9:=I _ F;refine Tt.J (λs=>s=((j:Int),(K.length:Int),(i:Int),(row.length:Int),(q:Int),d,Z,0,A,d.1,(W:Int),zg3 (trZ a) row (q+1),K.map (λ(i:Nat)=>(i:Int)),[],[],(K.take i).map (λ(i:Nat)=>(at' d.2.2.1 (i:Int)).map (trZ a)),(K.take i).map (λ(i:Nat)=>Ju d i))) (λc7 H=>?_) λs y=>?_
  .refine wac _ (vn L) (wac _ (Qf U (by simpa using jqv F)) ?_);refine wab (λb=>?_) λb=>H _ ?_
   .have b:=wcj b;have z:=jkn (f:=trZ a) F;have b0:trZ a row[q]=nuI a (row[q]).toNat:=by{unfold trZ;omega};rw[b0]at z;obtain⟨t,et⟩:∃t:Nat,row[q]=(t:Int):=⟨(row[q]).toNat,U⟩
    rw[et]at a9 z⊢;refine wac _ (vn U) (wac (nuI a t) (Qf U (by simpa using D.v t U)) (wac _ (vn L) (wac _ (yw _ L) (H _ ?_))));rw[<- z];rfl
   .have b:=wck b;rw[jf8 F (by unfold trZ;omega)]
  .subst y;refine Tt.b1 ?_;dsimp only;rw[wI U U];exact p (row.length-(q+1)) _ U ⟨q+1,U,rfl,rfl⟩
 .have c:=wck c;have:q=row.length:=U;subst this;rw[jl2];refine wac _ (ye X U) (wac _ a7 (wac _ (ye X U) (Tt.b1 ?_)));rw[wI U U];rw[hW]at o;rw[<- Y];exact(o (K.length-(i+1)) _ U ⟨i+1,U,rfl,X⟩).fst
def jg9(d:jd)(S:DSz d)(hm:MOk d)(hR:Tn (λnn=>Jb nn d) (λr=>r=true)):Tn (λnn=>Yk nn d) (λr=>r=zae d (kpB (Zj d.2.2.1.length (dE d) (λi=>i=0)) (Zj d.2.2.1.length (aE d) (aS d)))):=by
 have s1:=S.n;have s2:=S.w;have b5:=hm.lab;unfold Yk;refine Waj hR waa λb' a1=>?_;subst a1;refine wae rfl (Waj (zkj hR S hm) waa λre I=>?_);refine Waj (z3t hR S hm) waa λy F=>?_;rw[<- I,<- F];have c4:re.length=d.2.2.1.length:=by{rw[I,zav]};have b2:y.length=d.2.2.1.length:=by{rw[F,zav]};clear I F;refine Tt.b1 (wac _ (mkN U U) ?_);generalize (⟨replicate 256 0,wci⟩:Wa)=Z;generalize a4:kpB re y=a;refine Tt.loop (λm s=>∃k o,k<=d.2.2.1.length/\m=d.2.2.1.length-k/\s=(re,y,((keL a k).length:Int),(k:Int),d,Z,0,o,[],[])/\NuI a d.2.2.1.length k o) d.2.2.1.length waa ⟨0,_,U,U,rfl,⟨V,λi h=>U⟩⟩ λm s⟨k,o,hk,Q,g,p⟩ nx a6=>?_;subst g;dsimp only;have R:=p.l;have c0:=zpv a k;rw[R];refine wab (λc=>?_) (λc=>?_);{have c:=wcj c;have G:k<d.2.2.1.length:=U;refine Tt.J (λs=>∃o,s=(re,y,((keL a (k+1)).length:Int),(k:Int),d,Z,0,o,[],[])/\NuI a d.2.2.1.length (k+1) o) (λny B=>?_) λs⟨o,g,h1⟩=>?_;{refine wac _ (vn G) (wac _ (yw _ U) ?_);refine Tt.J (λs=>s=(re,y,((keL a k).length:Int),(k:Int),a k,d,Z,0,o.set k (-1),[],[])) (λnz u=>?_) λs g=>?_;{have z:a k=(decide (k=0) ||(re.getD k false && y.getD k false)):=by{rw[<- a4];rfl};refine Tt.b1 (wab (λb=>u _ ?_) λb=>?_);{have b:=wcj b;have:k=0:=U;rw[z,wdh this];rfl};have b:=wck b;have P:k<re.length:=U;have O:k<y.length:=U;have er:re.getD k false=re[k]:=by{simp[List.getD,P]};have ea:y.getD k false=y[k]:=by{simp[List.getD,O]};rw[er,ea,wc3 U,Bool.false_or]at z;refine wac _ (atN P) (wab (λT=>wac _ (atN O) (u _ ?_)) λT=>u _ ?_);{rw[z,T];rfl};.rw[z,T];rfl};.subst g;dsimp only;refine wab (λb=>?_) λb=>B _ ⟨_,by rw[zik,if_neg (by rw[b];simp)],p.next G (jgc b).symm⟩;refine wac _ (vn Wag) (wac _ (yw _ Wag) (Tt.b1 ?_));rw[wI U U];refine B _ ⟨_,by rw[zik,if_pos b,wc1];rfl,?_⟩;rw[List.set_set];exact p.next G (by rw[z76 b])};.subst g;refine Tt.b1 ?_;dsimp only;rw[wI U U];exact a6 (d.2.2.1.length-(k+1)) _ U ⟨k+1,_,U,rfl,rfl,h1⟩};have c:=wck c;have a2:k=d.2.2.1.length:=U;subst a2;obtain⟨W,hW⟩:∃W:Nat,d.2.1=(W:Int):=⟨d.2.1.toNat,U⟩
 refine Tt.loop (λm s=>∃i,i<=d.2.2.1.length/\m=d.2.2.1.length-i/\s=((i:Int),d,Z,0,o,d.1,d.2.1,[],[],(keL a i).map (λ(i:Nat)=>(at' d.2.2.1 (i:Int)).map (trZ a)),(keL a i).map (λi=>Ju d i))) d.2.2.1.length waa.fst ⟨0,U,U,rfl⟩ λm s⟨j,hi,Q,g⟩ ny B=>?_;subst g;dsimp only;rw[R];refine wab (λc=>?_) (λc=>Tt.pure ?_);rotate_left
 {have c:=wck c;have:j=d.2.2.1.length:=U;subst this;rfl};have c:=wcj c;have M:j<d.2.2.1.length:=U;have b4:=zpv a j;have L:=zik a j;refine Tt.J (λs=>s=((j:Int),d,Z,0,o,d.1,d.2.1,[],[],(keL a (j+1)).map (λ(i:Nat)=>(at' d.2.2.1 (i:Int)).map (trZ a)),(keL a (j+1)).map (λi=>Ju d i))) (λc5 e=>?_) λs g=>?_;rotate_left
 {subst g;refine Tt.b1 ?_;dsimp only;rw[wI U U];exact B (d.2.2.1.length-(j+1)) _ U ⟨j+1,U,rfl,rfl⟩};refine wac _ (vn M) (wac (nuI a j) (Qf U (by simpa using p.v j M)) (wab (λb=>e _ ?_) λb=>?_));{have b:=wcj b;rw[L,if_neg];intro h;rw[z76 h]at b;omega};have b:=wck b;have a3:a j=true:=by{cases h:a j with|true=>{rfl}|false=>rw[jgc h]at b;omega};rw[if_pos a3]at L;rw[L,wc8,wc8]at e;have x:=hm.row j U U;have N:=atN M;have a5:=atN (l:=d.2.2.2.1) (k:=j) U;have Y:Ju d j=d.2.2.2.1[j]:=yf U;have D:∀(c:Nat)(hc:c<(d.2.2.1[j]).length), -1<=(d.2.2.1[j])[c]/\(d.2.2.1[j])[c]<d.2.2.1.length:=λc hc=>by{rw[yf M]at x;have : -1<=nxt d j (c:Int)/\nxt d j (c:Int)<d.2.2.1.length:=hm.nx j c U U U U;rw[zh9 M hc]at this;omega};have C:=yf M;rw[C]at x;simp only[wda,wec,C]at e;generalize d.2.2.1[j]=row at x N D e;refine Tt.loop (λm s=>∃(q:Nat),q<=row.length/\m=row.length-q/\s=((j:Int),(q:Int),d,Z,0,o,d.1,d.2.1,(row.take q).map (trZ a),[],[],(keL a j).map (λ(i:Nat)=>(at' d.2.2.1 (i:Int)).map (trZ a)),(keL a j).map (λ(i:Nat)=>Ju d i))) row.length waa.fst.fst ⟨0,U,Wab,rfl⟩ λm s⟨q,c1,Q,g⟩ nz u=>?_;subst g;dsimp only;refine wab (λc=>?_) (λc=>?_)
 .have c:=wcj c;have H:q<row.length:=U;have a7:=D _ H;have a9:=zic (f:=trZ a) H;refine wac _ N (wac _ (atN H) ?_);refine Tt.J (λs=>s=((j:Int),(q:Int),trZ a row[q],d,Z,0,o,d.1,d.2.1,(row.take q).map (trZ a),[],[],(keL a j).map (λ(i:Nat)=>(at' d.2.2.1 (i:Int)).map (trZ a)),(keL a j).map (λ(i:Nat)=>Ju d i))) (λnv A=>?_) λs g=>?_
  .refine wab (λb=>?_) λb=>A _ ?_
   .have b:=wcj b;have a8:trZ a row[q]=nuI a (row[q]).toNat:=by{unfold trZ;omega};rw[a8]at A;obtain⟨t,et⟩:∃t:Nat,row[q]=(t:Int):=⟨(row[q]).toNat,U⟩
    rw[et]at a7 A⊢;exact wac _ (vn U) (wac (nuI a t) (Qf U (by simpa using p.v t U)) (A _ rfl))
   .have b:=wck b;rw[show trZ a row[q]=row[q] by unfold trZ;omega]
  .subst g;dsimp only;refine wac _ (ye X U) (Tt.b1 ?_);rw[wI U U,a9];exact u (row.length-(q+1)) _ U ⟨q+1,U,rfl,rfl⟩
 .have c:=wck c;have:q=row.length:=U;subst this;rw[wc7];refine wac _ (ye X U) (wac _ a5 (wac _ (ye X U) ?_));rw[<- Y];exact e.fst _ rfl
def z6u{c:Prop}[Decidable c]{d:jc}(h:(if c then d else zd).1=0)(a:d.1≠0):¬c:=λk=>a X
def jtr{g:jb}{i:Nat}{p:jk}(h:(zob g i p).1=0):PrOk g p:=by unfold zob at h;split at h;{omega};split at h;{omega};.refine⟨U,U,U,λx a=>?_⟩;obtain⟨k,b⟩:=wdc a;unfold jl1 at h;exact itE_ok (zg5 h (itE g x,(i:Int),(k:Int)+1,()) (wcq (i:=k) X))
def jra{g:jb}(h:gFd g=zd):GOk g:=by have c:(gFd g).1=0:=by{rw[h]};unfold gFd at c;have a:=zg5 c;simp only[wcu]at a;have b:∀p∈g.2.2.1,PrOk g p:=λp b=>by{obtain⟨i,d⟩:=wdc b;exact jtr (a (zob g i p) (.inr (.inr (.inr (.inr (.inl (wcq (by rw[zon,we8,d];rfl))))))))};have f:=z6u (a _ (.inl (wcq (i:=0) rfl))) (show(4:Int)≠0 by simp);have j:=z6u (a _ (.inl (wcq (i:=1) rfl))) (show(4:Int)≠0 by simp);have k:=z6u (a _ (.inl (wcq (i:=2) rfl))) (show(4:Int)≠0 by simp);have l:=z6u (a (zln g) (.inr (.inr (.inr (.inr (.inr (.inl (wcr.2 rfl)))))))) V;exact⟨U,U,U,λt e=>V6 (z7z h t e),λp h=>⟨(b p h).l0,(b p h).l1⟩,λp h=>(b p h).n,λp h=>(b p h).it,U⟩
def joo{g:jb}(a:zad g)(hz:gFd g=zd):GR g/\GOk g:=by refine⟨?_,jra hz⟩;unfold GR Je;exact Waj (ji6 g a) waa λr b=>Tt.pure X
def jj7(g:jb):jc:=fs2 10 0 (g.1.map λx=>!zk1 x.2.1) 0
abbrev cD(c:Int×Int×Int):jc:=(c.1,c.2.1,c.2.2,())
def jtt(g:jb)(re mk:W8)(c:Int×Int×Int):List jc:=[jj7 g,fsF 13 re 0,fsF 14 mk 0,cD c]
structure FmA(g:jb)(em re mk:List Bool)(al B:List (List Int))(c:Int×Int×Int):Prop where
 k:KnX g em re al B
 m:mk.length=g.2.1.length/\(∀p∈g.2.2.1,mkT true mk p)/\MSn true g mk
 hM:Tn (λnn=>Yd nn g) (λr=>r=mk)
 c:CdS g em al B c
def FmA_of{g:jb}(b:zad g)(hz:gFd g=zd):∃e re mk d B c,FmA g e re mk d B c:=by obtain⟨f,a⟩:=joo b hz;obtain⟨e,re,d,B,i⟩:=KnX_of g b f a;obtain⟨mk,j,h⟩:=(jpl g b f a).val;obtain⟨C,_,c,_,k⟩:=jde b f a i.kn;exact⟨e,re,mk,d,B,c,i,h,j,k⟩
def jf1(d:jd)(B:DSz d)(hm:MOk d)(F:Tn (λz=>Jm z d) (· = true)):Tn (λz=>zz z d) (λr=>r.length<=300/\∀x,x∈r↔LbR d x):=by have P:=B.n;have D:d.2.2.2.1.length=d.2.2.1.length:=hm.lab;unfold zz;refine Waj (zu3 d B F) waa λr u=>?_;have u:r=Zj d.2.2.1.length (dE d) (λi=>i=0):=by{rcases u with⟨h,_⟩|⟨_,_,h⟩;cases h;exact h};have H:r.length=d.2.2.1.length:=by{rw[u,zav]};refine Tt.loop (λm s=>∃(k:Nat)(l:W7),k<=r.length/\m=r.length-k/\s=(r,(r.length:Int),(k:Int),d,l)/\l.length<=k/\∀x,x∈l↔∃i:Nat,i<k/\onB r i/\d.2.2.2.1[i]?=some x/\0<=x) r.length waa ⟨0,_,U,U,rfl,V,λx=>⟨λh=>(by cases h),λ⟨i,h,_⟩=>U⟩⟩ λm s⟨k,l,L,G,q,C,v⟩ M w=>?_;subst q;dsimp only;refine wab (λc=>?_) (λc=>?_);{have c:=wcj c;have g:k<r.length:=U;have b:k<d.2.2.2.1.length:=U;have t:∀{y:W7},(∀x,x∈y↔x∈l\/(onB r k/\d.2.2.2.1[k]?=some x/\0<=x))->∀x,x∈y↔∃i:Nat,i<k+1/\onB r i/\d.2.2.2.1[i]?=some x/\0<=x:=λ{y}h x=>by{rw[h,v];constructor;{rintro(⟨i,f,a⟩|a);{exact⟨i,U,a⟩};.exact⟨k,U,a⟩};.rintro⟨i,f,a⟩;by_cases e:i=k;{subst e;exact .inr a};.exact .inl ⟨i,U,a⟩};refine Tt.J (λs=>∃l,s=(r,(r.length:Int),(k:Int),d,l)/\l.length<=k+1/\∀x,x∈l↔∃i:Nat,i<k+1/\onB r i/\d.2.2.2.1[i]?=some x/\0<=x) (λN o=>?_) λs⟨l,q,C,v⟩=>?_;{refine wac _ (atN g) ?_;refine Tt.J (λs=>s=((k:Int),r,(r.length:Int),(k:Int),(r[k] && decide (0<=d.2.2.2.1[k])),d,l)) (λO p=>?_) λs q=>?_;{refine wab (λc=>wac _ (atN b) (p _ ?_)) λc=>p _ ?_;{rw[c,wes]};.rw[c];rfl};.subst q;dsimp only;refine wab (λj=>?_) λj=>o _ ⟨l,rfl,U,t λx=>⟨.inl,λh=>h.elim id λ⟨f,a,A⟩=>?_⟩⟩;{simp only[wco,wc9]at j;refine wac _ (atN b) (wac _ (ye W U) (o _ ⟨_,rfl,W,t λx=>?_⟩));rw[wcu,wcr];refine or_congr Iff.rfl ⟨λh=>?_,λ⟨f,a,A⟩=>?_⟩;{subst h;exact⟨by unfold onB;rw[wch g,j.1],wch b,j.2⟩};.rw[wch b]at a;exact(wd5 a).symm};.unfold onB at f;rw[wch g]at f;rw[wch b]at a;rw[wd5 f,wd5 a,wes]at j;exact absurd A (wck j)};.subst q;refine Tt.b1 ?_;dsimp only;rw[wI U U];exact w (r.length-(k+1)) _ U ⟨k+1,_,U,rfl,rfl,C,v⟩};.have c:=wck c;have I:(ze1 l).length=l.length:=zqp _;refine wac _ (sm7 U) (wac _ (sm7 U) (Tt.pure ⟨?_,λx=>?_⟩));{have:=zwm (ze1 l);omega};.rw[(znu _ (zkb _)).2,z41,v];unfold LbR;rw[<- u];constructor;{rintro⟨i,f,a⟩;exact⟨i,a⟩};.rintro⟨i,a⟩;exact⟨i,by have:=z7n a.1;omega,a⟩
def jg3(D:jc)(b:jd)(a:W4):jd×W4×jc×Unit:=if D.1=0 then(b,a,D,())else(zD,[],D,())
def jpy{g:jb}(O:zad g)(ht:g.1.length<=12)(hz:gFd g=zd){em re mk:W8}{al B:W4}{c:Int×Int×Int}(N:FmA g em re mk al B c){n:jl}{bd:jd×Int×Int×Unit}{lt:W7}{tr:jd}{tb:W4×Int×Unit}(hF:Tn (λj=>zew j g.1) (λr=>r=n))(hB:Tn (λj=>zbt j n g.2.2.2.2.1) (λr=>r=bd))(hT:bd.2.2.1=0->Tn (λj=>zz j bd.1) (λr=>r=lt))(hl:lt.length<=1000000)(Y:bd.2.2.1=0->Tn (λj=>Zf j bd.1) (λr=>r=tr))(T:Tn (λj=>Jt j g) (λr=>r=tb)):Tn (λj=>zg j g) (λr=>r=jg3 (jy (jtt g re mk c++[zq2 g.1.length bd.2.2.1 lt])) tr tb.1):=by
 obtain⟨hR,o⟩:=joo O hz;have hk:=N.k;generalize a:jy (jtt g re mk c++[zq2 g.1.length bd.2.2.1 lt])=D;have a:jy [jj7 g,fsF 13 re 0,fsF 14 mk 0,cD c,zq2 g.1.length bd.2.2.1 lt]=D:=a;unfold zg;refine Tt.J (λs=>∃(Z:Wa)(z:jc)(L:jb)(d:jd)(p:W4)(q:W7)(u:W4),s=(g,Z,z,L,d,D,p,q,u)/\(D.1=0->bd.2.2.1=0/\d=bd.1)) (λnx G=>?_) λs⟨Z,z,L,d,p,q,u,hs,R⟩=>?_
 .have b:∀{Z z L}{d:jd}{e:jc}{p q u},¬e.1=0->D=e->Tt wa1 (λi=>nx i (g,Z,z,L,d,e,p,q,u)) _:=λR l=>G _ ⟨_,_,_,_,_,_,_,by rw[l],λh=>absurd X R⟩;refine Waj (z5g g O _) waa λd1 C=>?_;rw[hz]at C;subst C;refine wae rfl (Waj (jki O o _) waa λx hx=>?_);have hx:x=jj7 g:=hx;rw[<- hx]at a;refine wad (λc=>b c ?_) λA=>?_;{rw[<- a];simp[jy];grind};have A:=wea.1 A;refine Waj (jj3 o _ hk.kn.hrl hk.kn.hRe) waa λy hy=>?_;rw[<- hy]at a;refine wad (λc=>b c ?_) λI=>?_;{rw[<- a];simp[jy];rw[if_pos A,if_neg c]};have I:=wea.1 I;refine Waj (jke o _ N.m.1 N.hM) waa λw hw=>?_;rw[<- hw]at a;refine wad (λc=>b c ?_) λP=>?_;{rw[<- a];simp[jy];rw[if_pos A,if_pos I,if_neg c]};have P:=wea.1 P;refine Waj (jli O hR o hk.kn _) waa λv⟨q5,h5,S⟩=>?_;have hq:=S.one N.c;subst hq;rw[<- show v=cD q5 from h5]at a;refine wad (λc=>b c ?_) λQ=>?_;{rw[<- a];simp[jy];grind};have Q:=wea.1 Q;have f:D=zq2 g.1.length bd.2.2.1 lt:=by{rw[<- a];simp[jy];rw[if_pos A,if_pos I,if_pos P,if_pos Q];split;{rename_i h;unfold zq2 at h⊢;split at h;{rename_i S;rw[if_pos S];exact(jgb V h).symm};.cases h};rfl};refine Tt.J (λs=>∃(Z:Wa)(z:jc)(d:jd)(e:jc)(p:W4)(q:W7)(u:W4),s=(g,Z,z,g,d,e,p,q,u)/\((e.1≠0/\D=e)\/(e.1=0/\bd.2.2.1=0/\d=bd.1))) (λny H=>?_) λs⟨Z,z,d,e,p,q,u,hs,l⟩=>?_;{refine Waj hF waa λn hn=>?_;subst hn;refine Waj hB waa λd hd=>?_;subst hd;exact wab (λc=>H _ ⟨_,_,_,_,_,_,_,rfl,.inl ⟨V,by rw[f];unfold zq2;grind⟩⟩) λc=>H _ ⟨_,_,_,_,_,_,_,rfl,.inr ⟨rfl,X,rfl⟩⟩}
  .subst hs;dsimp only;rcases l with⟨l,M⟩|⟨l,M,h7⟩
   {exact wah (wdh l) (b l M)};.subst h7;refine wae (wc3 U) (Waj (jkl U bd.1 _ hl (hT M)) waa λe2 b4=>?_);have h8:D=e2:=by{rw[f];unfold zq2;grind};have F:=G (g,Z,z,g,bd.1,e2,p,q,u) ⟨_,_,_,_,_,_,_,by rw[h8],λ_=>⟨M,rfl⟩⟩;exact wab (λ_=>F) λ_=>F
 .subst hs;dsimp only;unfold jg3;refine wad (λc=>Tt.pure ?_) λc=>?_;{grind};have c:=wea.1 c;obtain⟨l,rfl⟩:=R c;rw[if_pos c];exact Waj T waa λt ht=>Waj (Y l) waa λm hm=>Tt.pure X
def jes{g:jb}(k:zad g)(hz:(gFd g).1≠0):Tn (λl=>zg l g) (λr=>r=(zD,[],gFd g,())):=by
 unfold zg;refine Tt.J (λs=>s.2.2.2.2.2.1=gFd g) (λn i=>?_) λs j=>?_;.exact Waj (z5g g k _) waa λm h=>(wah (wdh X) (i _ h))
 .obtain⟨a,b,c,d,e,f,x⟩:=s;dsimp only at j⊢;subst j;exact wah (wdh hz) (Tt.pure rfl)
def zbq(st:W8)(x:Rx):W8:=
 if x.kind=1 then false::st else if x.kind=2 then true::st else match st with
 |[]=>[]
 |b::r=>if x.kind=5\/x.kind=7 then true::r else if x.kind=6 then b::r else match r with
  |[]=>[]
  |a::r=>if x.kind=3 then(a && b)::r else(a ||b)::r
def z5p(e:E):∀st,(post e).foldl zbq st=yh e::st:=by induction e with|set=>{intro st;rfl}|empty=>{intro st;rfl}|cat a b c d=>{intro st;simp[post,web,c,d,zbq,Qw,yh]}|alt a b c d=>{intro st;simp[post,web,c,d,zbq,Qw,yh]}|star a f=>{intro st;simp[post,web,f,zbq,Qw,yh]}|plus a f=>{intro st;simp[post,web,f,zbq,Qw,yh]}|opt a f=>intro st;simp[post,web,f,zbq,Qw,yh]
def nuB(f:jo):Bool:=f.1 && decide (f.2.1=0)
def ztf(f:jo):Prop:=f.1=true->0<=f.2.1/\f.2.1<=1099511627776
def cat_ex(a b:jo)(n:ztf a)(o:ztf b):Tn (λp=>Z9 p a b) (λr=>ztf r/\nuB r=(nuB a && nuB b)):=by unfold Z9;refine Tt.J (λs=>(!(a.1 && b.1))=s.1/\a=s.2.1/\b=s.2.2.1) (λj d=>?_) (λs⟨k,l,m⟩=>?_);{refine Tt.b1 (wab (λc=>d _ ⟨?_,rfl,rfl⟩) λc=>d _ ⟨?_,rfl,rfl⟩);{have:a.1=false:=by{simpa using c};simp[this]};.have:a.1=true:=by{simpa using c};simp[this]};.obtain⟨v,w,x,y⟩:=s;dsimp only at k l m⊢;subst k l m;refine wab (λc=>Tt.pure ⟨λh=>V,?_⟩) λc=>?_;{unfold nuB;cases f:a.1<;>cases e:b.1<;>simp[f,e]at c⊢};have i:a.1=true/\b.1=true:=by{simpa using c};obtain⟨q,t⟩:=n i.1;obtain⟨b1,u⟩:=o i.2;have g:∀r,r.1=true->r.2.1=min (T.w64 (a.2.1+b.2.1)) 1099511627776->ztf r/\nuB r=(nuB a && nuB b):=λr f e=>by{rw[wI U U]at e;refine⟨λ_=>U,?_⟩;unfold nuB;grind};refine Tt.J (λs=>s.2.2.2.1=true/\s.2.2.2.2.1=min (T.w64 (a.2.1+b.2.1)) 1099511627776) (λj d=>(wab (λ_=>Waj (zc8 _ _) waa λ_ _=>d _ ⟨rfl,rfl⟩) λ_=>Waj (zc8 _ _) waa λ_ _=>d _ ⟨rfl,rfl⟩)) (λs⟨f,e⟩=>?_);.refine Tt.J (λs=>s.2.1=true/\s.2.2.1=min (T.w64 (a.2.1+b.2.1)) 1099511627776) (λj d=>?_) (λs⟨f,e⟩=>Tt.pure (g _ f e));exact wab (λ_=>Waj (zc8 _ _) waa λ_ _=>d _ ⟨f,e⟩) λ_=>d _ ⟨f,e⟩
def jfv(a b:jo)(g:ztf a)(h:ztf b):Tn (λi=>Q6 i a b) (λr=>ztf r/\nuB r=(nuB a ||nuB b)):=by unfold Q6;refine wab (λc=>Tt.pure ⟨h,?_⟩) λe=>wab (λc=>Tt.pure ⟨g,?_⟩) λf=>?_;{have:a.1=false:=by{simpa using c};unfold nuB;grind};{have:b.1=false:=by{simpa using c};unfold nuB;rw[this];simp};have e:a.1=true:=by{simpa using e};have f:b.1=true:=by{simpa using f};obtain⟨j,k⟩:=g e;obtain⟨b1,l⟩:=h f;refine Tt.J (λs=>s.1=true/\s.2.1=min a.2.1 b.2.1) (λo d=>(wab (λ_=>Waj (zc8 _ _) waa λ_ _=>Waj (zc8 _ _) waa λ_ _=>d _ ⟨rfl,rfl⟩) λ_=>Waj (zc8 _ _) waa λ_ _=>Waj (zc8 _ _) waa λ_ _=>d _ ⟨rfl,rfl⟩)) (λs⟨m,n⟩=>Tt.pure ⟨λ_=>U,?_⟩);.unfold nuB;grind
def zxt{α:Type}{l:Wam α}(h:l.length=1):∃a,l=[a]:=by
 match l,h with
 |[a],_=>simp
def jif{α:Type}{l:Wam α}(h:l.length=2):∃a b,l=[a,b]:=by
 match l,h with
 |[a,b],_=>simp
def jrn(x:jh)(l:Wam jo)(n:Nat)(e:arK x.1=some n)(m:l.length=n)(k:∀f∈l,ztf f):Tn (λO=>Q3 O x l) (λr=>ztf r/\∀st,zbq ((l.map nuB).reverse++st) (qv x)=nuB r::st):=by
 have p:(qv x).kind=x.1:=rfl;have h0:ztf (true,0,0,false,⟨replicate 4 0,wci⟩,⟨replicate 4 0,wci⟩,()):=λ_=>⟨V,V⟩
 unfold Q3;refine wab (λc=>?_) λA=>?_;{have c:=wcj c;rw[c]at e;cases e;have:=wex.1 m;subst this;refine wab (λ_=>Tt.pure ⟨λh=>V,λst=>?_⟩) λ_=>Tt.pure ⟨λ_=>⟨V,V⟩,λst=>?_⟩;{unfold zbq;rw[p,if_pos c];rfl};.unfold zbq;rw[p,if_pos c];rfl};have A:=wck A;refine wab (λc=>?_) λB=>wab (λc=>?_) λC=>wab (λc=>?_) λD=>?_;{have c:=wcj c;rw[c]at e;cases e;obtain⟨a,b,rfl⟩:=jif m;refine wac a rfl (wac b rfl (Waj (cat_ex a b (k _ V) (k _ V)) waa λr⟨i,j⟩=>Tt.pure ⟨i,λst=>?_⟩));rw[j];unfold zbq;grind};{have c:=wcj c;rw[c]at e;cases e;obtain⟨a,b,rfl⟩:=jif m;refine wac a rfl (wac b rfl (Waj (jfv a b (k _ V) (k _ V)) waa λr⟨i,j⟩=>Tt.pure ⟨i,λst=>?_⟩));rw[j];unfold zbq;grind};{have c:=wcj c;rw[c]at e;cases e;obtain⟨a,rfl⟩:=zxt m;refine wac a rfl (Waj (jfv _ a h0 (k _ V)) waa λr⟨i,j⟩=>Tt.pure ⟨i,λst=>?_⟩);rw[j];unfold zbq;rw[p,c];rfl};.have B:=wck B;have C:=wck C;have D:=wck D;refine Tt.J (λs=>l=s.1/\decide (x.1=5\/x.1=6)=s.2.1/\x=s.2.2.1/\(true,0,0,false,⟨replicate 4 0,wci⟩,⟨replicate 4 0,wci⟩,())=s.2.2.2.2) (λG d=>?_) (λs⟨u,v,H,I⟩=>?_);{refine Tt.b1 (wab (λc=>d _ ⟨rfl,?_,rfl,rfl⟩) λc=>Tt.b1 (d _ ⟨rfl,?_,rfl,rfl⟩));{grind};grind};.obtain⟨Q,R,S,T,Y⟩:=s;dsimp only at u v H I⊢;subst u v H I;refine wab (λc=>?_) λc=>?_;{have c:=wcj c;have w:n=1:=by{rcases c with c|c<;>(rw[c]at e;cases e;rfl)};subst w;obtain⟨a,rfl⟩:=zxt m;have F:=k a V;refine wac a rfl (Tt.J (λs=>x=s.1/\(true,0,0,false,⟨replicate 4 0,wci⟩,⟨replicate 4 0,wci⟩,())=s.2.2.1/\ztf s.2.2.2/\nuB s.2.2.2=nuB a) (λG d=>wab (λ_=>d _ ⟨rfl,rfl,F,rfl⟩) λ_=>d _ ⟨rfl,rfl,F,rfl⟩) (λs⟨u,v,y,q⟩=>?_));obtain⟨Z,z,t,o⟩:=s;dsimp only at u v y q⊢;subst u v;refine Tt.J (λs=>ztf s.2/\∀st,zbq ((([a]:Wam jo).map nuB).reverse++st) (qv x)=nuB s.2::st) (λG d=>?_) (λs N=>Tt.pure N);refine wab (λg=>Waj (jfv _ o h0 y) waa λr⟨i,j⟩=>d _ ⟨i,λst=>?_⟩) λg=>d _ ⟨y,λst=>?_⟩;{have g:=wcj g;rw[j];unfold zbq;rw[p,g];rfl};.have g:=wck g;have P:=c.resolve_left g;rw[q];unfold zbq;grind};.have c:=wck c;have M:x.1=2/\n=0:=by{unfold arK at e;grind};obtain⟨L,rfl⟩:=M;have:=wex.1 m;subst this;refine Tt.pure ⟨h0,λst=>?_⟩;unfold zbq;rw[p,L];rfl
def jjs(l:Wam jh)(y:Y3 l=0):Tn (λS=>Y2 S l) (λr=>nuB r=yh (qm l)):=by have G:=V6 y;unfold Y2;refine Tt.J (λs=>nuB s.2=yh (qm l)) (λnw C=>?_) (λs i=>Tt.pure i);refine Waj (jd6 l (by have:=G.2;omega)) waa λe H=>?_;rw[y]at H;subst H;obtain⟨q,F⟩:=G;refine wae rfl (Tt.loop (λm s=>∃k f st,k<=l.length/\m=l.length-k/\s=(l,(l.length:Int),(k:Int),f,st)/\zk7 (l.take k) 0=some st.length/\st.length<=k/\(∀f∈st,ztf f)/\((l.take k).map qv).foldl zbq []=(st.map nuB).reverse) l.length waa ⟨0,_,[],U,U,rfl,rfl,V,V,rfl⟩ λm s⟨k,f,st,Y,Z,i,z,R,B,d⟩ nx D=>?_);subst i;dsimp only;refine wab (λc=>?_) (λc=>?_);{have c:=wcj c;have j:k<l.length:=U;obtain⟨n,g,P,O⟩:=zr6 q j z;have L:((l.take (k+1)).map qv).foldl zbq []=zbq (st.map nuB).reverse (qv l[k]):=by{rw[wcp j,wc8,web,d];rfl};refine wac _ (atN j) (Tt.J (λs=>s=((n:Int),l,(l.length:Int),(k:Int),f,st,l[k])) (λny o=>?_) (λs i=>?_));{refine Tt.J (λs=>∃b,s=(0,l,(l.length:Int),(k:Int),(l[k]).1,b,f,st,l[k])/\(b=true↔((l[k]).1=3\/(l[k]).1=4))) (λnz u=>?_) (λs⟨b,i,p⟩=>?_);{refine Tt.b1 (wab (λc=>u _ ⟨_,rfl,?_⟩) (λc=>Tt.b1 (u _ ⟨_,rfl,?_⟩)));{have:=wcj c;simp[this]};.have:=wck c;simp[this]};.subst i;dsimp only;refine wab (λc=>o _ ?_) (λc=>?_);{have:=p.1 c;rw[arK,if_pos this]at g;cases g;rfl};.have x:¬((l[k]).1=3\/(l[k]).1=4):=λh=>by{rw[p.2 h]at c;cases c};refine Tt.J (λs=>∃b,s=(0,l,(l.length:Int),(k:Int),b,f,st,l[k])/\(b=true↔((l[k]).1=5\/(l[k]).1=6\/(l[k]).1=7))) (λnu d=>?_) (λs⟨b,i,p⟩=>?_);{refine Tt.b1 (wab (λc=>d _ ⟨_,rfl,?_⟩) (λc=>Tt.b1 (wab (λv=>d _ ⟨_,rfl,?_⟩) (λv=>Tt.b1 (d _ ⟨_,rfl,?_⟩)))));{have:=wcj c;simp[this]};{have:=wcj v;simp[this]};.have w:=wck c;have N:=wck v;simp[w,N]};.subst i;dsimp only;rw[arK,if_neg x]at g;refine wab (λc=>o _ ?_) (λc=>o _ ?_);{rw[if_pos (p.1 c)]at g;cases g;rfl};.rw[if_neg (λh=>by rw[p.2 h]at c;cases c)]at g;split at g<;>cases g;rfl};.subst i;dsimp only;refine Tt.b1 ?_;rw[wI U U];have M:(st.length:Int)-(n:Int)=((st.length-n:Nat):Int):=U;rw[M];refine wac (st.length-n) (by unfold zpn;simp) ?_;have A:(st.drop (st.length-n)).length=n:=X;refine wac _ (ye X U) ?_;rw[wet];refine Waj (jrn _ _ n g A λf I=>B f (wfi I)) waa.fst λr⟨r1,r2⟩=>?_;refine wac (st.take (st.length-n)) (by unfold zak;simp) (wac _ (ye X U) (Tt.b1 ?_));rw[wI U U];have T:(st.take (st.length-n)++[r]).length=st.length-n+1:=V;refine D (l.length-(k+1)) _ U ⟨k+1,f,_,U,rfl,rfl,X,U,λf I=>?_,?_⟩;{grind};.have Q:st.map nuB=(st.take (st.length-n)).map nuB++(st.drop (st.length-n)).map nuB:=V;grind};.have c:=wck c;have t:k=l.length:=U;rw[t,wc7,q]at z;rw[t,wc7,zmg y,z5p]at d;have w:=(wd5 z).symm;obtain⟨a,rfl⟩:=zxt w;refine wac _ (vn V) (wac a rfl (C.fst _ ?_));grind
def jg2{l:Wam jh}(a:Y3 l=0):zk1 l=yh (qm l):=by have d:Tn (λh=>yp h l) (λx=>x=yh (qm l)):=by{unfold yp;refine Tt.bind ?_ λz hz=>Tt.pure hz;unfold Y7;refine Waj (jjs l a) waa λr b=>wab (λc=>Tt.pure ?_) λc=>Tt.pure ?_;{have c:r.1=false:=X;rw[<- b];unfold nuB;grind};.have c:r.1=true:=X;rw[<- b];unfold nuB;grind};have e:=jar l (by have:=(V6 a).2;omega);obtain⟨r,⟨N,f⟩,rfl⟩:=d;obtain⟨s,⟨M,g⟩,rfl⟩:=e;exact wd5 ((g (N+M) U).symm.trans (f (N+M) U))
def of7(i:Nat)(c:Int):Vk i c=some (ofK c):=by unfold Vk J ofK;simp only[ja,ifB,ifD];by_cases a:c=1;{subst a;rfl};by_cases b:c=2;{subst b;rfl};by_cases d:c=3;{subst d;rfl};by_cases e:c=4;{subst e;rfl};by_cases f:c=5;{subst f;rfl};by_cases g:c=6;{subst g;rfl};by_cases h:c=7;{subst h;rfl};simp[a,b,d,e,f,g,h]
abbrev mx(b:Bool):List (List Bool):=[[b]]
def was{α:Type}{f:Nat->Wal α}{r:α}(k:Nat)(h:∀n,f (n+k)=some r):Tn f (λx=>x=r):=⟨r,⟨k,λn a=>by
 obtain⟨m,rfl⟩:=Nat.exists_eq_add_of_le' a;grind⟩,rfl⟩
def e_same:Tn (λa=>zjs a []) (λx=>x=mx true):=was 8 λn=>Wab
def e_set(a:Wb):Tn (λb=>zlk b a []) (λx=>x=mx false):=was 8 λn=>Wab
def jfm(a b:Bool):Tn (λc=>Zw c (mx a) (mx b) []) (λx=>x=mx (a ||b)):=was 8 λn=>by cases a<;>cases b<;>kernel_rfl
def joz(a b:Bool):Tn (λc=>zcd c (mx a) (mx b) []) (λx=>x=mx (a && b)):=was 8 λn=>by cases a<;>cases b<;>kernel_rfl
def jhz(a:Bool):Tn (λb=>zek b (mx a) []) (λx=>x=mx a):=was 12 λn=>by cases a<;>kernel_rfl
def ofK_ar{z:Int}{n:Nat}(h:arK z=some n):ofK z=(n:Int):=by unfold arK at h;unfold ofK;grind
def jp9(l:Wam jh)(hc:Y3 l=0):Tn (λY=>zd3 Y l []) (λr=>r=mx (yh (qm l))):=by
 have hW:=V6 hc;obtain⟨M,Z⟩:=hW;unfold zd3;refine Tt.loop (λm s=>∃k st,k<=l.length/\m=l.length-k/\s=(l,[],(k:Int),st.map mx)/\zk7 (l.take k) 0=some st.length/\st.length<=k/\((l.take k).map qv).foldl zbq []=st.reverse) l.length waa ⟨0,[],U,rfl,rfl,Wab,V,rfl⟩ ?_;rintro _ _ ⟨k,st,hk,rfl,rfl,R,a8,G⟩ nx T;dsimp only;refine wab (λc=>?_) (λc=>?_)
 .have c:=wcj c;have w:k<l.length:=U;obtain⟨n,o,a6,S⟩:=zr6 M w R;have O:((l.take (k+1)).map qv).foldl zbq []=zbq st.reverse (qv l[k]):=by{rw[wcp w,wc8,web,G];rfl};have t:(qv l[k]).kind=(l[k]).1:=rfl;have P:∀b,zbq st.reverse (qv l[k])=b::(st.take (st.length-n)).reverse->Tt wa1.mul (λp=>ja (zak (st.map mx) ((st.length-n:Nat):Int)) λr=>ja (apO 24 [] r) λs=>ja (apO 24 s [mx b]) λu=>ja (some (w64 ((k:Int)+1))) λv=>nx p (l,[],v,u)) (λr=>r=mx (yh (qm l))):=λb Q=>by{refine wac (st.map mx |>.take (st.length-n)) (by unfold zak;simp) (wac _ (ye X U) (wac _ (ye X U) (Tt.b1 ?_)));rw[wI U U];refine T (l.length-(k+1)) _ U ⟨k+1,st.take (st.length-n)++[b],U,rfl,V,by rw[S];simp,X,?_⟩;rw[O,Q];simp};refine wac _ (atN w) (Waj (was (f:=λY=>Vk Y (l[k]).1) 0 λm=>of7 m (l[k]).1) waa.fst λq hq=>?_);rw[ofK_ar o]at hq;subst hq;refine Tt.b1 ?_;have ez:w64 (((st.map mx).length:Int)-(n:Int))=((st.length-n:Nat):Int):=by{rw[wI U X];grind};rw[ez];refine Waj e_same waa.fst λm e=>?_;subst e;refine wac _ (atN w) ?_;refine Tt.J (λs=>∃b,s=(l,[],(k:Int),((st.length-n:Nat):Int),mx b,st.map mx)/\zbq st.reverse (qv l[k])=b::(st.take (st.length-n)).reverse) (λny g=>?_) (λs⟨b,hs,Q⟩=>by subst hs;exact P b Q);have two:n=2->∃a b r,st=r++[a,b]/\st.take (st.length-n)=r/\(st.map mx)[st.length-n]?=some (mx a)/\(st.map mx)[st.length-n+1]?=some (mx b):=λh=>by
   subst h;rcases List.eq_nil_or_concat st with h|⟨r,b,h⟩
   {grind}
   .rcases List.eq_nil_or_concat r with I|⟨r2,a,I⟩
    {grind};.refine⟨a,b,r2,X,by subst I;subst h;simp,?_,?_⟩;{subst I;subst h;simp};.subst I;subst h;simp
  have one:n=1->∃a r,st=r++[a]/\st.take (st.length-n)=r/\(st.map mx)[st.length-n]?=some (mx a):=λh=>by
   subst h;rcases List.eq_nil_or_concat st with h|⟨r,b,h⟩
   {grind};grind
  have zero:n=0->(st.take (st.length-n)).reverse=st.reverse:=λh=>by{subst h;simp};have d:∀{j:Nat}{x:W5},(st.map mx)[j]?=some x->jq (st.map mx).length (j:Int)=some (j:Int)/\atL (st.map mx) (j:Int)=some x:=λ{j x}h=>⟨vn (wcl.1 h).1,Qf U (by assumption)⟩
  have w1:w64 (((st.length-n:Nat):Int)+1)=((st.length-n+1:Nat):Int):=by{rw[wI U U];rfl};refine wab (λH=>?_) λH=>?_;{have H:=wcj H;have h0:n=0:=by{rw[H]at o;cases o;rfl};refine wac _ (atN w) (Waj (e_set _) waa.fst λm e=>?_);subst e;exact g _ ⟨false,rfl,by rw[zero h0];unfold zbq;grind⟩};have H:=wck H;refine wab (λA=>?_) λA=>?_;{have A:=wcj A;obtain⟨a,b,r,y,z,i,L⟩:=two (by rw[A]at o;cases o;rfl);refine wac _ (d i).1 (wac _ (d i).2 ?_);rw[w1];refine wac _ (d L).1 (wac _ (d L).2 (Waj (joz a b) waa.fst λm e=>?_));subst e;exact g _ ⟨a && b,rfl,by rw[z,y];unfold zbq;rw[t,A];simp⟩};have A:=wck A;refine wab (λB=>?_) λB=>?_;{have B:=wcj B;obtain⟨a,b,r,y,z,i,L⟩:=two (by rw[B]at o;cases o;rfl);refine wac _ (d i).1 (wac _ (d i).2 ?_);rw[w1];refine wac _ (d L).1 (wac _ (d L).2 (Waj (jfm a b) waa.fst λm e=>?_));subst e;exact g _ ⟨a ||b,rfl,by rw[z,y];unfold zbq;rw[t,B];simp⟩};have B:=wck B;refine wab (λF=>?_) λF=>?_;{have F:=wcj F;obtain⟨a,r,y,z,i⟩:=one (by rw[F]at o;cases o;rfl);refine wac _ (d i).1 (wac _ (d i).2 (Waj (jfm true a) waa.fst λm e=>?_));subst e;exact g _ ⟨true ||a,rfl,by rw[z,y];unfold zbq;rw[t,F];simp⟩};have F:=wck F;refine wab (λD=>?_) λD=>?_;{have D:=wcj D;obtain⟨a,r,y,z,i⟩:=one (by rw[D]at o;cases o;rfl);refine wac _ (d i).1 (wac _ (d i).2 (Waj (jhz a) waa.fst λm e=>?_));subst e;exact g _ ⟨a,rfl,by rw[z,y];unfold zbq;rw[t,D];simp⟩};have D:=wck D;refine wab (λC=>?_) λC=>?_;{have C:=wcj C;obtain⟨a,r,y,z,i⟩:=one (by rw[C]at o;cases o;rfl);refine wac _ (d i).1 (wac _ (d i).2 (Waj (jhz a) waa.fst λm e=>?_));subst e;refine Waj (jfm true a) waa.fst λm e=>?_;subst e;exact g _ ⟨true ||a,rfl,by rw[z,y];unfold zbq;rw[t,C];simp⟩};have C:=wck C;have I:(l[k]).1=2/\n=0:=by{unfold arK at o;grind};exact g _ ⟨true,rfl,by rw[zero I.2];unfold zbq;grind⟩
 .have c:=wck c;have N:k=l.length:=U;rw[N,wc7,M]at R;rw[N,wc7,zmg hc,z5p]at G;have h1:=(wd5 R).symm;obtain⟨a,rfl⟩:=zxt h1;simp at G;refine wac _ (vn V) (wac (mx a) rfl (Tt.pure X))
def jt4{l:Wam jh}(a:Y3 l=0):Tn (λf=>zf0 f l []) (λb=>b=zk1 l):=by
 have o:=(V6 a).2;rw[jg2 a];unfold zf0;refine Tt.bind (R:=λr=>r=if yh (qm l)=true then [0]else []) (Tt.call (?_:Tn (λf=>zct f l [] 0) _) waa) λr j=>?_
 .unfold zct;refine Tt.J (λs=>s=(l,[],0,false,[])) (λp e=>?_) (λs k=>?_);{refine Waj (zio l U) waa λc h=>?_;rw[a]at h;subst h;exact Tt.b1 (wae rfl (wae rfl (e _ rfl)))}
  .subst k;refine wae rfl (Waj (jp9 l a) waa λg i=>?_);subst i;refine wac [yh (qm l)] rfl ?_;cases yh (qm l)
   .exact⟨_,⟨8,λn d=>by
     obtain⟨m,rfl⟩:=Nat.exists_eq_add_of_le' d;rfl⟩,rfl⟩
   .exact⟨_,⟨8,λn d=>by
     obtain⟨m,rfl⟩:=Nat.exists_eq_add_of_le' d;rfl⟩,rfl⟩
 .subst j;cases yh (qm l);{exact Tt.pure rfl};.exact Tt.pure rfl
def jbx{a:Int}{l:W8}{k:Nat}(b:k<l.length)(h:fsF a l 0=fsF a (l.drop k) k):(l[k]=true->fsF a l 0=fsF a (l.drop (k+1)) (k+1))/\(l[k]=false->fsF a l 0=(a,(k:Int),0,())):=by rw[wcy b]at h;refine⟨λe=>?_,λe=>?_⟩;{rw[h,e];rfl};.rw[h,e];rfl
def jgu{g:jb}(P:zeu g)(Y:g.1.length<=12)(hz:gFd g=zd){re mk:W8}{c:Int×Int×Int}(N:Tn (λh=>zk h g) (λr=>r=re))(R:re.length=g.2.1.length)(M:Tn (λh=>Y0 h g) (λr=>r=mk))(Q:mk.length=g.2.1.length)(L:Tn (λh=>Vi h g) (λr=>r.1=cD c))(S:c.1=0->cD c=zd):Tn (λh=>Yh h g) (λd=>d=jy (jtt g re mk c)):=by have z:=jra hz;have T:=z.r;have l:=z7z hz;unfold Yh jtt;simp[jy];refine Waj (zlu g P) waa λd C=>?_;rw[hz]at C;subst C;refine wae rfl (Tt.loop (λm s=>∃k,k<=g.1.length/\m=g.1.length-k/\s=((k:Int),g,(0,0,0,()))/\jj7 g=fs2 10 0 ((g.1.drop k).map λx=>!zk1 x.2.1) k) g.1.length waa ⟨0,U,Wab,rfl,rfl⟩ λm s⟨k,D,F,n,a⟩ J v=>?_);subst n;dsimp only;refine wad (λG=>?_) λG=>?_;{have f:k<g.1.length:=U;rw[wcy f,wda]at a;refine Tt.at f (Waj (jt4 (l _ (wcm f))) waa.fst λb O=>?_);subst O;refine wab (λj=>Tt.pure ?_) λj=>Tt.b1 ?_;{rw[j]at a;have e:jj7 g=(10,(k:Int),0,()):=a;grind};.rw[j]at a;rw[wI U U];exact v (g.1.length-(k+1)) _ U ⟨k+1,U,rfl,rfl,a⟩};have q:(jj7 g).1=0:=by{rw[a,wdu U];rfl};rw[if_pos q];refine Waj N waa.fst λr B=>Waj M waa.fst λi u=>?_;subst B u;refine Tt.loop (λm s=>∃k,k<=g.2.1.length/\m=g.2.1.length-k/\s=(r,i,(k:Int),g,(0,0,0,()))/\fsF 13 r 0=fsF 13 (r.drop k) k) g.2.1.length waa.fst ⟨0,U,Wab,rfl,rfl⟩ λm s⟨k,D,F,n,a⟩ ny w=>?_;subst n;dsimp only;refine wad (λj=>?_) λj=>?_;{have f:k<r.length:=U;obtain⟨p,I⟩:=jbx f a;refine Tt.at f (wab (λo=>Tt.pure ?_) λo=>Tt.b1 ?_);{grind};.rw[wI U U];exact w (g.2.1.length-(k+1)) _ U ⟨k+1,U,rfl,rfl,p (by simpa using o)⟩};have A:(fsF 13 r 0).1=0:=by{rw[a,wdu U];rfl};rw[if_pos A];refine Tt.loop (λm s=>∃k,k<=g.2.1.length/\m=g.2.1.length-k/\s=(i,(k:Int),g,(0,0,0,()))/\fsF 14 i 0=fsF 14 (i.drop k) k) g.2.1.length waa.fst.fst ⟨0,U,Wab,rfl,rfl⟩ λm s⟨k,D,F,n,a⟩ nz y=>?_;subst n;dsimp only;refine wad (λo=>?_) λo=>?_;{have f:k<i.length:=U;obtain⟨p,I⟩:=jbx f a;refine Tt.at f (wab (λH=>Tt.pure ?_) λH=>Tt.b1 ?_);{grind};.rw[wI U U];exact y (g.2.1.length-(k+1)) _ U ⟨k+1,U,rfl,rfl,p X⟩};.have t:(fsF 14 i 0).1=0:=by{rw[a,wdu U];rfl};rw[if_pos t];refine Waj L waa.fst.fst.fst λx Z=>Tt.pure ?_;grind
def jea{g:jb}(ht:g.1.length<=12){P:Wam jc}{n:jl}{bd:jd×Int×Int×Unit}{lt:W7}{D:jd}{C:W4×Int×Unit}(L:Tn (λf=>Yh f g) (λd=>d=jy P))(I:Tn (λf=>zcb f g.1) (λr=>r=n))(H:Tn (λf=>zay f n g.2.2.2.2.1) (λr=>r=bd))(M:bd.2.2.1=0->Tn (λf=>yu f bd.1) (λr=>∀x,x∈r↔x∈lt))(v:bd.2.2.1=0->Tn (λf=>yu f bd.1) (λr=>r.length<=1000000))(w:bd.2.2.1=0->Tn (λf=>Yk f bd.1) (λr=>r=D))(u:Tn (λf=>Yu f g) (λr=>r=C)):Tn (λf=>Qo f g) (λr=>r=jg3 (jy (P++[zq2 g.1.length bd.2.2.1 lt])) D C.1):=by rw[vy];unfold Qo jg3;refine Waj L waa λd O=>?_;rw[<- O];refine wad (λc=>Tt.pure ?_) λc=>?_;{grind};have c:=wea.1 c;rw[if_pos c];refine Waj I waa λn' R=>?_;subst R;refine Waj H waa λb N=>?_;subst N;refine wad (λj=>Tt.pure ?_) λj=>?_;{have e:jy [zq2 g.1.length b.2.2.1 lt]=(16,0,0,()):=by{unfold zq2;rw[if_neg j];rfl};rw[e];rfl};have j:=wea.1 j;have e:jy [zq2 g.1.length b.2.2.1 lt]=fs2 13 1 ((range g.1.length).map λ(i:Nat)=>decide ((i:Int)∈lt)) 0:=by{unfold zq2;rw[if_pos j];simp only[jy];split;{rename_i h;exact(jgb V h).symm};rfl};rw[e];refine Waj (wbz (M j) (v j)) waa λl⟨Q,y⟩=>?_;generalize T:((range g.1.length).map λ(i:Nat)=>decide ((i:Int)∈lt))=q;have Y:q.length=g.1.length:=X;have A:∀i(h:i<q.length),q[i]=decide ((i:Int)∈l):=λi h=>by{have G:decide ((i:Int)∈l)=decide ((i:Int)∈lt):=by{rw[decide_eq_decide];exact Q _};rw[G];simp[<- T]};refine Tt.loop (λm s=>∃i,i<=g.1.length/\m=g.1.length-i/\s=(l,(i:Int),g,⟨replicate 256 0,wci⟩,0,(0,0,0,()),b.1,[],[])/\fs2 13 1 q 0=fs2 13 1 (q.drop i) i) g.1.length waa ⟨0,U,Wab,rfl,rfl⟩ λm s⟨i,hi,hm,J,a⟩ nx z=>?_;subst J;dsimp only;refine wad (λF=>?_) λF=>?_;{have p:i<q.length:=U;rw[wcy p,A i p]at a;refine Waj (zdz l _ y) waa.fst λo S=>?_;rw[<- S]at a;refine wab (λk=>Tt.pure ?_) λk=>Tt.b1 ?_;{have k:o=false:=X;rw[k]at a;rw[a];rfl};.have k:o=true:=X;rw[k]at a;rw[wI U U];exact z (g.1.length-(i+1)) _ U ⟨i+1,U,rfl,rfl,a⟩};.rw[wdu U]at a;rw[a];exact Waj u waa.fst λt B=>Waj (w j) waa.fst λr Z=>Tt.pure (by rw[B,Z];rfl)
def z7j{g:jb}(e:zeu g)(hz:(gFd g).1≠0):Tn (λb=>Qo b g) (λr=>r=(zD,[],gFd g,())):=by have c:Tn (λb=>Yh b g) (λd=>d=gFd g):=by{unfold Yh;refine Waj (zlu g e) waa λd a=>?_;subst a;exact wah (wdh hz) (Tt.pure rfl)};unfold Qo;refine Waj c waa λd a=>?_;subst a;exact wah (wdh hz) (Tt.pure rfl)
def jt1{d:jd}{a:Nat->Bool}(b:DSz d):(zae d a).2.2.1.length<=1000000/\(∀l∈(zae d a).2.2.1,l.length<=1000000)/\(zae d a).2.2.2.1.length<=1000000:=by have f:=b.n;have g:=zpv a d.2.2.1.length;unfold zae;refine⟨X,λl e=>?_,X⟩;obtain⟨i,c,rfl⟩:=wc6.1 e;have h:=z72 c;have j:=b.r _ (zgz (z:=(i:Int)) U U);grind
def jvr{a:Nat->Bool}(h0:a 0=true):∀{N:Nat},0<N->0<(keL a N).length
 |N+1,_=>by have:0∈keL a (N+1):=by{unfold keL;grind};grind
def jp7{a:Nat->Bool}{N:Nat}:∀{i:Nat},i<N->a i=true->(keL a i).length<(keL a N).length:=by intro i b c;induction N with|zero=>{omega}|succ N d=>rw[zik];grind
def jq8{d:jd}{a:Nat->Bool}(m:DSz d)(hm:MOk d)(h0:a 0=true):DSz (zae d a)/\MOk (zae d a):=by
 have x:=m.n;have v:0<d.2.2.1.length:=hm.n0;have y:=zpv a d.2.2.1.length;have f:∀i:Int,0<=i->i<((zae d a).2.2.1.length:Int)->∃j,j<d.2.2.1.length/\at' (zae d a).2.2.1 i=(at' d.2.2.1 (j:Int)).map (trZ a):=λi k b=>by
  obtain⟨n,rfl⟩:∃n:Nat,i=(n:Int):=⟨i.toNat,U⟩
  have h:n<(zae d a).2.2.1.length:=U;rw[yf h];unfold zae at h⊢;simp only[wc0]at h;simp only[List.getElem_map];exact⟨_,z72 (wcm h),rfl⟩
 refine⟨⟨m.c,m.w,?_,?_,λl o=>?_⟩,⟨?_,?_,m.w,λi k b=>?_,λi c k b s g=>?_⟩⟩;{unfold zae;simp only[wc0];omega};{unfold zae;simp only[wc0];omega};{unfold zae at o;obtain⟨i,k,rfl⟩:=wc6.1 o;have A:=z72 k;rw[wc0];exact m.r _ (zgz (l:=d.2.2.1) (z:=(i:Int)) U U)};{unfold zae;simp only[wc0];exact jvr h0 v};{unfold zae;simp only[wc0]};{obtain⟨j,t,e⟩:=f i k b;rw[e,wc0];exact hm.row (j:Int) U U}
 .obtain⟨j,t,e⟩:=f i k b;have g:c<d.2.1:=g;have B:=hm.row (j:Int) U U;have p:=hm.nx (j:Int) c U U s g;obtain⟨n,rfl⟩:∃n:Nat,c=(n:Int):=⟨c.toNat,U⟩
  have h:n<(at' d.2.2.1 (j:Int)).length:=U;rw[e,yf (l:=(at' d.2.2.1 (j:Int)).map (trZ a)) (by rw[wc0];exact h),List.getElem_map];rw[yf (l:=at' d.2.2.1 (j:Int)) h]at p;generalize (at' d.2.2.1 (j:Int))[n]=z at p;have q:(zae d a).2.2.1.length=(keL a d.2.2.1.length).length:=by{unfold zae;simp only[wc0]};rw[q];unfold trZ;by_cases hz:0<=z;{rw[if_pos hz];unfold nuI;split;{rename_i u;have:=jp7 (N:=d.2.2.1.length) (i:=z.toNat) U u;omega};.omega};.rw[if_neg hz];omega
def jup{d:jd}{E:Nat->Nat->Bool}(h:Eqv E)(n:ClsAt E d.1 256)(o:d.2.1=((qw E 256).length:Int))(c:DSz d)(hm:MOk d){m:Nat}(s:m<=1000000)(g:∀x∈d.2.2.2.1, -1<=x/\x<(m:Int)):∃lt,lt.length<=1000000/\Tn (λa=>zz a d) (λr=>r=lt)/\Tn (λa=>yu a d) (λr=>∀x,x∈r↔x∈lt)/\Tn (λa=>yu a d) (λr=>r.length<=1000000)/\∃j,j 0=true/\Tn (λa=>Zf a d) (λr=>r=zae d j)/\Tn (λa=>Yk a d) (λr=>r=zae d j):=by
 have k:=jkf h n o c hm λx e=>(g x e).1;have l:=z3r h n o c hm λx e=>(g x e).1;obtain⟨lt,p,q,f⟩:=(jf1 d c hm k).val;have b:=zyz l c hm;refine⟨lt,U,p,b.mono λr b x=>(b.2 x).trans (f x).symm,b.mono λr b=>?_,_,rfl,jv9 d c hm k,jg9 d c hm l⟩;have t:RN m r:=⟨b.1,λx e=>by
  obtain⟨i,_,u,v⟩:=(b.2 x).1 e;exact⟨v,(g x (wcq u)).2⟩⟩
 have:=t.len;omega
def zD_b:(zD:jd).2.2.1.length<=1000000/\(∀l∈(zD:jd).2.2.1,l.length<=1000000)/\(zD:jd).2.2.2.1.length<=1000000:=V
def jg1(g:jb)(J:GBu g)(hn:(∀x∈g.1,x.1.length<=9223372036854775807)/\(∀x∈g.2.1,x.length<=9223372036854775807)/\∀x∈g.2.2.1,x.2.1.length<=9223372036854775807)(ho:∀t∈g.1,∀x∈t.2.1,ze0 x.2.1):∃r:jd×W4×jc×Unit,Tn (λj=>zg j g) (λx=>x=r)/\Tn (λj=>Qo j g) (λx=>x=r) /\
  (r.1.2.2.1.length<=1000000/\(∀l∈r.1.2.2.1,l.length<=1000000)/\r.1.2.2.2.1.length<=1000000)/\(r.2.1.length<=1000000/\∀l∈r.2.1,l.length<=1000000)/\(r.2.2.1.1=0->DSz r.1/\MOk r.1/\Tn (λj=>Ja j r.1.1) (λx=>x=r.1.2.1)):=by
 have h1:=J.t;have h2:=J.r;have h3:=J.p;have h4:=J.n;have h5:=J.s;have Q:zad g:=⟨⟨U,U,U⟩,λx hx=>by have:=zyc hx;omega⟩
 have u:zeu g:=⟨Q,hn.1,hn.2.1,hn.2.2⟩
 by_cases hz:gFd g=zd
 rotate_left
 ·have O:(gFd g).1≠0:=λh=>hz (z4x h);exact⟨_,jes Q O,z7j u O,zD_b,V,λh=>absurd h O⟩
 obtain⟨b2,z⟩:=joo Q hz;obtain⟨em,re,mk,al,B,c,R⟩:=FmA_of Q hz;have S:=R.k;have b:=S.kn
 -- the reference's sets
 obtain⟨r2,a2,c6⟩:=(z3f g u hz z).val;obtain⟨m2,c1,c7⟩:=(zuy g u hz z true).val;obtain⟨e2,b8,c4⟩:=(zuy g u hz z false).val;obtain rfl:=jcc c6 ⟨b.hrl,b.rest,b.recl,S.res⟩;obtain rfl:=jcb c7 R.m;obtain rfl:=jcb c4 ⟨b.hel,S.emt,S.ems⟩;have hM:Tn (λj=>Y0 j g) (λr=>r=m2):=by
  unfold Y0;exact Waj c1 waa λr M=>Tt.pure M
 have hE:Tn (λj=>Js j g) (λr=>r=e2):=by
  unfold Js;exact Waj b8 waa λr M=>Tt.pure M
 have hA:EmX g e2 al:=⟨⟨hE,b.hel,b.fic⟩,S.als⟩
 have hF:=z8y g u hz z hA a2 b.hrl b.hBl S.Bs b.hBe b.foc;have hC:Tn (λj=>Vi j g) (λr=>r.1=cD c):=(z6h u hz z hA hF b.hBl b.hBr).mono λr⟨d,e,hd⟩=>by
  rw[e,hd.one R.c]
 have b7:c.1=0->cD c=zd:=λh=>by
  rcases R.c with⟨rfl,_⟩|⟨q,rfl,_⟩
  ·rfl
  ·cases h
 have hP:=jgu u U hz a2 b.hrl hM R.m.1 hC b7
 -- the tables
 obtain⟨tb,b4,Z⟩:=(jkh Q b2 z b).val;have Y:Tn (λj=>Yu j g) (λr=>r=tb):=(jfo u hz z hA hF b.hBl b.hBr).mono λr M=>M.one Z;have b5:tb.1.length<=1000000/\∀l∈tb.1,l.length<=1000000:=by
  obtain⟨d,_,k1,k2⟩:=Z;by_cases e:d.1=0
  ·obtain⟨ll,rfl,a0⟩:=k2 e;refine⟨by have:=a0.n;dsimp only;omega,λl hl=>?_⟩;obtain⟨i,hi⟩:=wdc hl;have:=a0.w i l hi;omega
  ·rw[k1 e];simp
 -- the machines
 have L:=z7z hz;obtain⟨I,hZ,hO⟩:=netK_R L U;have G:=z5k (P:=ze0) ho g.1.length (wcs _);have F:=jgv hz;obtain⟨v,hB,a,ha,D⟩:=(jmc (Ym g.1 g.1.length) (N:=zdt g.1) U hZ G I g.2.2.2.2.1 F h5).val;have a9:Tn (λj=>zbt j (Ym g.1 g.1.length) g.2.2.2.2.1) (λr=>r=v):=(jkx (Ym g.1 g.1.length) (N:=zdt g.1) U hZ G I _ F h5).mono λr⟨a',b6,M⟩=>by
  obtain rfl:=ClsAt.one b6 ha;rw[M,D]
 have b1:=jsv g.1 U L U;have T:=jfn g.1 U L U;have H:=ziw (Ym g.1 g.1.length).1;have hW:=zeb (Zn (Ym g.1 g.1.length).1) 256;have hD:DSz v.1:=by
  rw[D];exact juo ⟨_,zqs H ha⟩ hW F h5
 have f:∃lt A,lt.length<=1000000/\(A.2.2.1.length<=1000000/\(∀l∈A.2.2.1,l.length<=1000000)/\A.2.2.2.1.length<=1000000)/\(v.2.2.1=0->DSz A/\MOk A/\Tn (λj=>Ja j A.1) (λx=>x=A.2.1))/\(v.2.2.1=0->Tn (λj=>zz j v.1) (λr=>r=lt)/\Tn (λj=>yu j v.1) (λr=>∀x,x∈r↔x∈lt)/\Tn (λj=>yu j v.1) (λr=>r.length<=1000000)/\Tn (λj=>Zf j v.1) (λr=>r=A)/\Tn (λj=>Yk j v.1) (λr=>r=A)):=by
  by_cases h0:v.2.2.1=0
  rotate_left
  ·exact⟨[],zD,V,zD_b,λh=>absurd h h0,λh=>absurd h h0⟩
  have hs:∃q,zok (Ym g.1 g.1.length) a (qw (Zn (Ym g.1 g.1.length).1) 256).length g.2.2.2.2.1 202 0 [[]] [] []=some (some q):=by
   rw[D]at h0;cases e:zok (Ym g.1 g.1.length) a (qw (Zn (Ym g.1 g.1.length).1) 256).length g.2.2.2.2.1 202 0 [[]] [] []with
   |none=>rw[e]at h0;cases h0
   |some o=>
    cases o with
    |none=>rw[e]at h0;cases h0
    |some q=>exact⟨q,rfl⟩
  obtain⟨q,hq⟩:=hs;obtain⟨hm,hl⟩:=jqw hW F (m:=(g.1.length:Int)) U hO I.o hq;have y:v.1=(a,((qw (Zn (Ym g.1 g.1.length).1) 256).length:Int),q.2.1,q.2.2,()):=by rw[D,hq];rfl
  obtain⟨lt,k1,k2,k3,k4,kp,k0,k5,k6⟩:=jup (d:=v.1) H (by rw[y];exact ha) (by rw[y]) hD (by rw[y];exact hm) (m:=g.1.length) U (by rw[y];exact hl);have a3:=jq8 hD (by rw[y];exact hm) k0;exact⟨lt,_,k1,jt1 hD,λ_=>⟨a3.1,a3.2,(zn4 H (a:=v.1.1) (by rw[y];exact ha)).mono λx hx=>by rw[hx];show _=v.1.2.1;rw[y]⟩,λ_=>⟨k2,k3,k4,k5,k6⟩⟩
 obtain⟨lt,A,c0,c3,a1,f⟩:=f;have a8:=jpy Q U hz R b1 a9 (λh=>(f h).1) c0 (λh=>(f h).2.2.2.1) b4;have b3:=jea U hP T hB (λh=>(f h).2.1) (λh=>(f h).2.2.1) (λh=>(f h).2.2.2.2) Y;refine⟨_,a8,b3,?_,?_,λh=>?_⟩
 ·unfold jg3;split
  ·exact c3
  ·exact zD_b
 ·unfold jg3;split
  ·exact b5
  ·simp
 ·unfold jg3 at h⊢;split at h
  ·rename_i C;rw[if_pos C];have h3:=zg5 C (zq2 g.1.length v.2.2.1 lt) V;refine a1 ?_;by_cases e:v.2.2.1=0
   ·exact e
   ·unfold zq2 at h3;rw[if_neg e]at h3;cases h3
  ·rename_i C;exact absurd h C
abbrev bS(d:jd)(lb:Int):Nat->Prop:=λi=>i<d.2.2.1.length/\Ju d i=lb
def z2e{d:jd}(g:Int)(hd:DSz d)(hm:MOk d):Tn (λnn=>zbd nn d g) (λr=>r=Zj d.2.2.1.length (aE d) (bS d g)):=by
 have n0:0<d.2.2.1.length:=hm.n0;have hn:=hd.n;have hw:=hm.w;have e9:0<=d.2.1:=hw.1;have f0:d.2.1<=256:=hw.2;have c4:d.2.2.2.1.length=d.2.2.1.length:=hm.lab;unfold zbd;refine Tt.b1 (wac _ (mkN (n:=d.2.2.1.length) U U) ?_);generalize hN:d.2.2.1.length=N at n0 hn c4⊢;have c7:=zxz (replicate N false);rw[wci]at c7;refine Tt.loop (λm s=>∃(k:Nat)(a:W8),k<=N+1/\m=N+1-k/\s=(g,(k:Int),d,a)/\a.length=N/\(∀i,onB a i->Rch (aE d) (bS d g) i)/\(a=Zj N (aE d) (bS d g)\/offs a+k<=N)) (N+1) waa ⟨0,_,U,U,rfl,V,λi hi=>absurd hi zmu,.inr U⟩ λm s⟨k,a,hk,e7,H,ha,d2,a9⟩ nx d7=>?_;subst H;dsimp only;rw[ha];refine wab (λc=>?_) λc=>Tt.pure ?_;rotate_left
 {have c:=wck c;rcases a9 with h|h;{exact h};.omega};have c:=wcj c;refine Tt.loop (λm s=>∃(i:Nat)(b:W8),i<=N/\m=N-i/\s=(g,(k:Int),(i:Int),d,b)/\b.length=N/\LeB a b/\(∀i,onB b i->Rch (aE d) (bS d g) i)/\(a=b->∀P,P<i->(Ju d P=g->onB a P)/\∀j,onB a j->dE d P j->onB a P)) N waa.fst ⟨0,a,U,U,rfl,ha,LeB.refl a,d2,λ_ P h=>U⟩ λm s⟨i,b,hi,e6,H,hb,D,A,a1⟩ ny d8=>?_;subst H;dsimp only;rw[hb];refine wab (λc1=>?_) λc1=>?_
 .have c1:=wcj c1;have a3:i<N:=U;have C:i<d.2.2.1.length:=U;have f:i<b.length:=U;have b9:i<d.2.2.2.1.length:=U;have R:Ju d i=d.2.2.2.1[i]:=yf b9;have b0:=atN C;have c8:((d.2.2.1[i]).length:Int)=d.2.1:=by{have:=hm.row i U (by show(i:Int)<d.2.2.1.length;omega);rw[yf (l:=d.2.2.1) C]at this;exact this};have F:∀(c:Nat)(hc:c<(d.2.2.1[i]).length),nxt d i c=(d.2.2.1[i])[c]:=λc hc=>zh9 C hc;have T:∀(c:Nat)(hc:c<(d.2.2.1[i]).length), -1<=(d.2.2.1[i])[c]/\(d.2.2.1[i])[c]<d.2.2.1.length:=λc hc=>by{have : -1<=nxt d i (c:Int)/\nxt d i (c:Int)<d.2.2.1.length:=hm.nx i c U (by show(i:Int)<d.2.2.1.length;omega) U (by show(c:Int)<d.2.1;omega);rw[F c hc]at this;exact this};generalize d.2.2.1[i]=row at b0 c8 T F;refine Tt.J (λs=>∃b',s=(g,(k:Int),(i:Int),d,b')/\b'.length=N/\LeB b b'/\(∀i,onB b' i->Rch (aE d) (bS d g) i)/\(Ju d i=g->onB b' i)) (λnz G=>?_) λs⟨b1,H,d3,y,b5,d6⟩=>?_;{refine wac _ (vn a3) (wac _ (atN f) (wab (λL=>?_) λL=>?_));{refine wac _ (vn a3) (wac _ (yw true f) (G _ ⟨_,rfl,by simpa using hb,LeB.set f,λj B=>?_,λ_=>(yr f).2 (.inl rfl)⟩));rcases(yr f).1 B with h|h;{subst h;exact A i (by unfold onB;rw[wch f,L])};.exact A j h};.refine wac _ (atN b9) (wac _ (vn a3) ?_);by_cases v:d.2.2.2.1[i]=g;{rw[wdh v];refine wac _ (yw true f) (G _ ⟨_,rfl,by simpa using hb,LeB.set f,λj B=>?_,λ_=>(yr f).2 (.inl rfl)⟩);rcases(yr f).1 B with h|h;{subst h;exact .base ⟨C,R.trans v⟩};.exact A j h};.rw[wc3 v];refine wac _ (yw false f) (G _ ⟨b,by rw[zir f L],hb,LeB.refl b,A,λh=>absurd (R.symm.trans h) v⟩)};subst H;dsimp only;refine Tt.loop (λm s=>∃(c:Nat)(u:W8),c<=row.length/\m=row.length-c/\s=(g,(k:Int),(i:Int),(c:Int),d,u)/\u.length=N/\LeB b1 u/\(∀i,onB u i->Rch (aE d) (bS d g) i)/\(a=u->∀Z:Nat,Z<c->∀j:Nat,nxt d i Z=j->onB a j->onB a i)) row.length waa.fst.fst ⟨0,b1,U,U,rfl,d3,LeB.refl b1,b5,λ_ Z h=>U⟩ λm s⟨c,u,hc,e5,H,a0,p,x,b7⟩ nz G=>?_;subst H;dsimp only;have o:i<u.length:=U;refine wab (λL=>?_) λL=>?_
  .have L:=wcj L;have a2:c<row.length:=U;have hq:=T c a2;have a4:=F c a2;refine Tt.J (λs=>∃Y,s=(g,(k:Int),(i:Int),(c:Int),d,Y)/\Y.length=N/\LeB u Y/\(∀i,onB Y i->Rch (aE d) (bS d g) i)/\(∀j:Nat,nxt d i c=j->onB u j->onB Y i)) (λnu c5=>?_) λs⟨Y,H,d4,S,b6,d5⟩=>?_
   .refine wac _ b0 (wac _ (atN a2) (Tt.J (λs=>∃t,s=(g,(k:Int),(i:Int),(c:Int),t,d,u)/\(t=true↔∃j:Nat,nxt d i c=j/\onB u j)) (λnv c6=>?_) λs⟨t,H,ht⟩=>?_))
    .refine Tt.b1 (wab (λv=>?_) λv=>c6 _ ⟨false,rfl,⟨λh=>(by cases h),λ⟨j,Q,_⟩=>?_⟩⟩)
     .have v:=wcj v;obtain⟨z,hz⟩:∃z:Nat,row[c]=(z:Int):=⟨(row[c]).toNat,U⟩
      have O:z<u.length:=U;rw[hz];refine wac _ (vn O) (wac _ (atN O) (c6 _ ⟨_,rfl,⟨λh=>⟨z,by rw[a4,hz],by unfold onB;rw[wch O,h]⟩,λ⟨j,Q,I⟩=>?_⟩⟩));rw[a4,hz]at Q;have:z=j:=U;subst this;unfold onB at I;rw[wch O]at I;exact wd5 I
     .have v:=wck v;rw[a4]at Q;omega
    .subst H;dsimp only;refine wab (λv=>?_) λv=>c5 _ ⟨u,rfl,a0,LeB.refl u,x,λj Q I=>by rw[ht.2 ⟨j,Q,I⟩]at v;cases v⟩;refine wac _ (vn o) (wac _ (yw true o) (c5 _ ⟨_,rfl,by simpa using a0,LeB.set o,λj B=>?_,λ_ _ _=>(yr o).2 (.inl rfl)⟩));rcases(yr o).1 B with h|h;{subst h;obtain⟨j,Q,I⟩:=ht.1 v;exact .step (x j I) ⟨C,c,U,by show(c:Int)<d.2.1;omega,Q⟩};.exact x j h
   .subst H;dsimp only;refine Tt.b1 ?_;rw[wI U U];refine G (row.length-(c+1)) _ U ⟨c+1,Y,U,rfl,rfl,d4,p.trans S,b6,λe Z e2 j B c0=>?_⟩;have M:a=u:=((D.trans y).trans p).antisymm (e▸S);by_cases h:Z=c;{subst h;have:=d5 j B (M▸c0);rwa [<- e]at this};.exact b7 M Z U j B c0
  .have L:=wck L;refine Tt.b1 ?_;rw[wI U U];refine(d8 (N-(i+1)) _ U ⟨i+1,u,U,rfl,rfl,a0,(D.trans y).trans p,x,λe P e4=>?_⟩).fst;have M:a=b:=D.antisymm (e▸y.trans p);have a8:a=b1:=(D.trans y).antisymm (e▸p);by_cases h:P=i;{subst h;refine⟨λh=>by have:=d6 h;rwa [<- a8]at this,λj B hE=>?_⟩;obtain⟨Q,Z,h0,I,h3⟩:=hE;obtain⟨q,rfl⟩:=wdw h0;have I:(q:Int)<d.2.1:=I;exact b7 e q U j h3 B};.exact a1 M P U
 .have c1:=wck c1;refine Tt.b1 ?_;rw[wI U U];have d0:Round (aE d) (bS d g) a b:=⟨D,A,λe=>⟨λi hi=>(a1 e i (by have:=hi.1;omega)).1 hi.2,λj i B hE=>(a1 e i (by have:=hE.1;omega)).2 j B hE⟩⟩
  exact(d7 (N+1-(k+1)) _ U ⟨k+1,b,U,rfl,rfl,hb,A,d0.next ha a9⟩).fst
def z14{d:jd}(t:Int)(hd:DSz d)(hm:MOk d):Tn (λnn=>zd1 nn d t) (λr=>r=Zj d.2.2.1.length (aE d) (bS d t)):=by
 have n0:0<d.2.2.1.length:=hm.n0;have hn:=hd.n;have g8:0<=d.2.1:=hm.w.1;have g9:d.2.1<=256:=hm.w.2;have c8:d.2.2.2.1.length=d.2.2.1.length:=hm.lab;unfold zd1;refine Tt.b1 (wac _ (mkN (n:=d.2.2.1.length) U U) ?_);generalize hN:d.2.2.1.length=N at n0 hn c8⊢;refine Tt.loop (λm s=>∃(o:Bool)(a:W8),m=2*offs a+(if o=true then 1 else 0)/\s=(t,o,d,a)/\a.length=N/\(∀i,onB a i->Rch (aE d) (bS d t) i)/\(o=false->a=Zj N (aE d) (bS d t))) _ waa ⟨true,_,rfl,rfl,V,λi hi=>absurd hi zmu,λh=>X⟩ λm s⟨o,a,f0,M,ha,b5,e4⟩ nx f5=>?_;subst M;dsimp only;refine wab (λc=>?_) λc=>Tt.pure (e4 c);subst c;rw[hN];refine Tt.loop (λm s=>∃(i:Nat)(o:Bool)(b:W8),i<=N/\m=N-i/\s=(t,o,d.2.2.1,(N:Int),(i:Int),d,b)/\b.length=N/\LeB a b/\(∀i,onB b i->Rch (aE d) (bS d t) i)/\(o=true->offs b<offs a)/\(o=false->a=b/\∀Q,Q<i->(Ju d Q=t->onB a Q)/\∀j,onB a j->dE d Q j->onB a Q)) N waa.fst ⟨0,false,a,U,Wab,rfl,ha,LeB.refl a,b5,(λh=>X),λ_=>⟨rfl,λQ h=>U⟩⟩ λm s⟨i,o,b,hi,g5,M,hb,d0,G,a3,y⟩ ny f6=>?_;subst M;dsimp only;refine wab (λc1=>?_) λc1=>?_
 ·have c1:=wcj c1;have g4:i<N:=U;have I:i<d.2.2.1.length:=U;have p:i<b.length:=U;have c7:i<d.2.2.2.1.length:=U;have c9:Ju d i=d.2.2.2.1[i]:=yf c7;have b6:=atN I;have d8:((d.2.2.1[i]).length:Int)=d.2.1:=by
   have:=hm.row i U U;rw[yf (l:=d.2.2.1) I]at this;omega
  have L:∀(c:Nat)(hc:c<(d.2.2.1[i]).length),nxt d i c=(d.2.2.1[i])[c]:=λc hc=>zh9 I hc;have Y:∀(c:Nat)(hc:c<(d.2.2.1[i]).length), -1<=(d.2.2.1[i])[c]/\(d.2.2.1[i])[c]<d.2.2.1.length:=λc hc=>by
   have : -1<=nxt d i (c:Int)/\nxt d i (c:Int)<d.2.2.1.length:=hm.nx i c U U U U;rw[L c hc]at this;exact this
  generalize d.2.2.1[i]=row at b6 d8 Y L
  -- what is so of the state behind a row
  refine Tt.J (λs=>∃(g:Bool)(D:W8),s=(t,g,d.2.2.1,(N:Int),(i:Int),d,D)/\D.length=N/\LeB b D/\(∀i,onB D i->Rch (aE d) (bS d t) i)/\(g=true->offs D<offs a)/\(g=false->a=D/\(Ju d i=t->onB a i)/\∀j,onB a j->dE d i j->onB a i)/\(g=false->o=false)) (λnz d5=>?_) λs⟨g,b1,M,e5,d1,b7,d3,T,f1⟩=>?_
  ·refine wac _ b6 (wac _ (vn U) (wac _ (atN p) (wab (λc2=>?_) λc2=>?_)))
   ·have d6:onB b i:=by unfold onB;rw[wch p,c2]
    exact d5 _ ⟨o,b,rfl,hb,LeB.refl b,G,a3,λh=>⟨(y h).1,λ_=>(y h).1▸d6,λ_ _ _=>(y h).1▸d6⟩,id⟩
   ·have Z:b[i]?=some false:=by rw[wch p,c2]
    refine wac _ (atN c7) (wac _ (vn U) (wac _ (yw _ p) ?_))
    let Pc:Nat->Prop:=λc=>Ju d i=t\/∃B j:Nat,B<c/\nxt d i B=j/\onB b j
    refine Tt.loop (λm s=>∃(c:Nat)(u:W8),c<=row.length/\m=row.length-c/\s=(t,o,(i:Int),d.2.2.1,(N:Int),(i:Int),row,(row.length:Int),(c:Int),d,u)/\((u=b/\¬Pc c)\/(u=b.set i true/\Pc c))) row.length waa.fst.fst ⟨0,_,U,U,rfl,?_⟩ λm s hI nw f4=>?_
    ·by_cases e:d.2.2.2.1[i]=t
     ·rw[wdh e];exact .inr ⟨rfl,.inl (c9.trans e)⟩
     ·rw[wc3 e];refine .inl ⟨zir p c2,λh=>?_⟩;omega
    obtain⟨c,u,hc,e9,M,hP⟩:=hI;subst M;dsimp only;have e6:u.length=N:=by rcases hP with⟨rfl,_⟩|⟨rfl,_⟩<;>simp[hb]
    have f:i<u.length:=U;refine wab (λc3=>?_) λc3=>?_
    ·have c3:=wcj c3;have H:c<row.length:=U;have hq:=Y c H;have a4:=L c H;refine wac _ (atN H) (Tt.J (λs=>∃b3,s=(t,o,(i:Int),d.2.2.1,(N:Int),(i:Int),row,(row.length:Int),(c:Int),d,b3)/\((b3=b/\¬Pc (c+1))\/(b3=b.set i true/\Pc (c+1)))) (λnu a5=>?_) λs⟨b3,M,e3⟩=>?_)
     ·refine wac _ (vn f) (wac _ (atN f) (wab (λR=>?_) λR=>?_))
      ·refine wac _ (vn f) (wac _ (yw true f) (a5 _ ⟨_,rfl,.inr ?_⟩));rcases hP with⟨rfl,_⟩|⟨rfl,hp⟩
       ·rw[c2]at R;cases R
       ·refine⟨V,?_⟩;rcases hp with hp|⟨B,j,h1,v,F⟩
        ·exact .inl hp
        ·exact .inr ⟨B,j,U,v,F⟩
      ·have e7:u=b/\¬Pc c:=by
        rcases hP with h|⟨rfl,_⟩
        ·omega
        ·simp at R
       obtain⟨rfl,A⟩:=e7;refine Tt.b1 (wab (λc5=>?_) λc5=>?_)
       ·have c5:=wcj c5;obtain⟨z,hz⟩:∃z:Nat,row[c]=(z:Int):=⟨(row[c]).toNat,U⟩
        have P:z<u.length:=U;rw[hz];refine wac _ (vn P) (wac _ (atN P) (wac _ (vn f) (wac _ (yw _ f) (a5 _ ⟨_,rfl,?_⟩))));cases e:u[z]with
        |true=>exact .inr ⟨rfl,.inr ⟨c,z,U,by rw[a4,hz],by unfold onB;rw[wch P,e]⟩⟩
        |false=>
         refine .inl ⟨zir p c2,λh=>?_⟩;rcases h with h|⟨B,j,h1,v,F⟩
         ·exact A (.inl h)
         ·by_cases e2:B=c
          ·subst e2;rw[a4,hz]at v;have:z=j:=U;subst this;unfold onB at F;rw[wch P,e]at F;cases F
          ·exact A (.inr ⟨B,j,U,v,F⟩)
       ·have c5:=wck c5;refine wac _ (vn f) (wac _ (yw false f) (a5 _ ⟨_,rfl,.inl ⟨zir p c2,λh=>?_⟩⟩));rcases h with h|⟨B,j,h1,v,F⟩
        ·exact A (.inl h)
        ·by_cases e2:B=c
         ·subst e2;rw[a4]at v;omega
         ·exact A (.inr ⟨B,j,U,v,F⟩)
     ·subst M;dsimp only;refine Tt.b1 ?_;rw[wI U U];exact f4 (row.length-(c+1)) _ (by rw[e9];exact Nat.sub_lt_sub_left H (weu c)) ⟨c+1,b3,H,rfl,rfl,e3⟩
    ·have c3:=wck c3;have ec:c=row.length:=Nat.le_antisymm hc (Int.ofNat_le.1 (Int.not_lt.1 c3));subst ec
     -- behind the row
     have x:(u=b/\¬Pc row.length)\/(u=b.set i true/\Pc row.length):=hP;have S:LeB b u:=by rcases x with⟨rfl,_⟩|⟨rfl,_⟩<;>first|exact LeB.refl _|exact LeB.set p
     have b8:∀k,onB u k->Rch (aE d) (bS d t) k:=λk hk=>by
      rcases x with⟨rfl,_⟩|⟨rfl,hp⟩
      ·exact G k hk
      ·rcases(yr p).1 hk with h|h
       ·subst h;rcases hp with h|⟨B,j,h1,v,F⟩
        ·exact .base ⟨I,h⟩
        ·exact .step (G j F) ⟨I,B,U,by show(B:Int)<d.2.1;omega,v⟩
       ·exact G k h
     have b9:∀g,(g=true↔o=true\/onB u i)->∃(C:Bool)(D:W8),(t,g,d.2.2.1,(N:Int),(i:Int),d,u)=(t,C,d.2.2.1,(N:Int),(i:Int),d,D)/\D.length=N/\LeB b D/\(∀i,onB D i->Rch (aE d) (bS d t) i)/\(C=true->offs D<offs a)/\(C=false->a=D/\(Ju d i=t->onB a i)/\∀j,onB a j->dE d i j->onB a i)/\(C=false->o=false):=λg h=>by
      have g7:offs u<=offs b:=by
       rcases S.offs with e|e
       ·rw[e];exact wcs _
       ·omega
      refine⟨g,u,rfl,e6,S,b8,λe=>?_,λe=>?_,λe=>?_⟩
      ·rcases h.1 e with e|e
       ·have:=a3 e;omega
       ·rcases x with⟨rfl,_⟩|⟨rfl,_⟩
        ·unfold onB at e;rw[Z]at e;cases e
        ·have h1:=zl7 Z;rcases d0.offs with e2|e2
         ·rw[<- e2]at h1⊢;omega
         ·omega
      ·have f2:o=false:=by cases hh:o with
        |false=>rfl
        |true=>rw[h.2 (.inl hh)]at e;cases e
       have f3:¬onB u i:=λhh=>by rw[h.2 (.inr hh)]at e;cases e
       rcases x with⟨rfl,A⟩|⟨rfl,_⟩
       ·have O:=(y f2).1;refine⟨O,λh=>absurd (.inl h) A,λj hj hE=>?_⟩;obtain⟨_,B,h0,v,F⟩:=hE;obtain⟨q,rfl⟩:=wdw h0;have v:(q:Int)<d.2.1:=v;exact absurd (.inr ⟨q,j,U,F,O▸hj⟩) A
       ·exact absurd ((yr p).2 (.inl rfl)) f3
      ·cases hh:o with
       |false=>rfl
       |true=>rw[h.2 (.inl hh)]at e;cases e
     refine(Tt.J (λs=>∃g,s=(t,g,d.2.2.1,(N:Int),(i:Int),d,u)/\(g=true↔o=true\/onB u i)) (λnv d4=>?_) λs⟨g,M,d2⟩=>?_)
     ·refine wab (λR=>d4 _ ⟨true,rfl,⟨λ_=> .inl R,λ_=>rfl⟩⟩) λR=>?_;refine wac _ (vn f) (wac _ (atN f) (d4 _ ⟨_,rfl,?_⟩));rw[R];unfold onB;rw[wch f];simp
     ·subst M;dsimp only;exact(d5 _ (b9 g d2)).fst
  ·subst M;dsimp only;refine Tt.b1 ?_;rw[wI U U];refine f6 (N-(i+1)) _ U ⟨i+1,g,b1,U,rfl,rfl,e5,d0.trans d1,b7,d3,λe=>⟨(T e).1,λQ g3=>?_⟩⟩;by_cases h:Q=i
   ·subst h;exact(T e).2
   ·have O:=(y (f1 e)).2 Q U;exact O
 ·have c1:=wck c1;refine(f5 (2*offs b+(if o=true then 1 else 0)) _ ?_ ⟨o,b,rfl,rfl,hb,G,λe=>?_⟩).fst
  ·rw[f0];cases o with
   |true=>
    have v:=a3 rfl;show 2*offs b+1<2*offs a+1;exact Nat.succ_lt_succ (Nat.mul_lt_mul_of_pos_left v Wah)
   |false=>
    have v:=(y rfl).1;rw[<- v];exact weu _
  ·obtain⟨rfl,x⟩:=y e;exact z64 hb b5 (λi hi=>(x i (by have:=hi.1;omega)).1 hi.2) λj i hj hE=>(x i (by have:=hE.1;omega)).2 j hj hE
inductive RchP{α:Type}(E:α->α->Prop)(S:α->Prop):α->Prop
 |base {i:α}:S i->RchP E S i
 |step {i j:α}:RchP E S i->E i j->RchP E S j
def E37c(d:jd)(L:W8)(a:Int)(c:Nat)(p q:Nat×Nat):Prop:=
 (c:Int)<d.2.1/\nxt d p.1 c=(q.1:Int)/\(p.2=d.2.2.1.length/\q.2=d.2.2.1.length\/p.2<d.2.2.1.length/\∃z:Nat,nxt d p.2 c=(z:Int)/\onB L z/\(q.2=z\/q.2=d.2.2.1.length/\Ju d z=a))
def V37(d:jd)(p:Nat×Nat):Prop:=p.1<d.2.2.1.length/\p.2<=d.2.2.1.length
def S37(d:jd)(a:Int)(p:Nat×Nat):Prop:=p.1<d.2.2.1.length/\Ju d p.1=a/\p.2=0
abbrev E37(d:jd)(L:List Bool)(lb:Int):Nat×Nat->Nat×Nat->Prop:=λp q=>∃c,E37c d L lb c p q
abbrev R37(d:jd)(L:List Bool)(la lb:Int):Nat×Nat->Prop:=RchP (E37 d L lb) (S37 d la)
def G37(d:jd)(L:W8)(b a:Int)(q:Nat×Nat):Prop:=∃p,R37 d L b a p/\E37 d L a p q
def E37c.val{d:jd}{L:W8}{f:Int}{c:Nat}{p q:Nat×Nat}(hm:MOk d)(e:V37 d p)(h:E37c d L f c p q):V37 d q:=by
 obtain⟨a,j,b⟩:=h;have n:=hm.nx p.1 c U (by have:=e.1;omega) U a;have g:nxt d p.1 c=at' (at' d.2.2.1 (p.1:Int)) (c:Int):=rfl;refine⟨U,?_⟩;rcases b with b|⟨k,z,l,_,m⟩
 {omega};.have o:=hm.nx p.2 c U U U a;have i:nxt d p.2 c=at' (at' d.2.2.1 (p.2:Int)) (c:Int):=rfl;omega
def R37.val{d:jd}{L:W8}{b e:Int}(hm:MOk d){p:Nat×Nat}(h:R37 d L b e p):V37 d p:=by induction h with|base h=>{exact⟨h.1,by have:=h.2.2;omega⟩}|step _ h a=>obtain⟨c,h⟩:=h;exact h.val hm a
def Q1(N:Nat)(p:Nat×Nat):Arr 2 Int:=⟨[(p.1:Int),if p.2=N then -1 else(p.2:Int)],rfl⟩
def juv{N:Nat}{p q:Nat×Nat}:zaj (Q1 N p) (Q1 N q)=decide (p=q):=by obtain⟨a,b⟩:=p;obtain⟨x,y⟩:=q;show(([(a:Int),if b=N then -1 else(b:Int)]:W7) == [(x:Int),if y=N then -1 else(y:Int)])=_;grind
def zdx(N:Nat)(sp:List (Nat×Nat)):List ((Arr 2 Int)×Bool×Unit):=sp.map λp=>(Q1 N p,true,())
def z96{N:Nat}{q:Nat×Nat}:∀{sp:Wam (Nat×Nat)},zl zaj (zdx N sp) (Q1 N q)=if q∈sp then some true else none
 |[]=>rfl
 |p::sp=>by
  show(match zaj (Q1 N q) (Q1 N p)with
   |true=>some true
   |false=>zl zaj (zdx N sp) (Q1 N q))=_
  rw[juv,z96];grind
section
variable{ι β:Type}{D:Fi ι}{Q:β → Prop}
def z75{N:Nat}{sp wp:Wam (Nat×Nat)}{q:Nat×Nat}{k:Arr 2 Int}{F:ι->Wam ((Arr 2 Int)×Bool×Unit)->Wam (Arr 2 Int)->Wal β}(g:k=Q1 N q)(j:wp.length<=1000000)(h:∀b,(q∈sp/\b=[]\/q∉sp/\b=[q])->Tt D (λi=>F i (zdx N (sp++b)) ((wp++b).map (Q1 N))) Q):
  Tt D (λi=>ja (some (zl zaj (zdx N sp) k)) λd=>ifB (!(gD false d)) (ja (some (Yq zaj (zdx N sp) k true)) λe=>ja (apO 16 (wp.map (Q1 N)) [k]) λf=>F i e f) (F i (zdx N sp) (wp.map (Q1 N)))) Q:=by
 subst g;refine Tt.b1 ?_;have a:=z96 (N:=N) (q:=q) (sp:=sp);by_cases c:q∈sp
 ·rw[if_pos c]at a;rw[a];have:=h [] (.inl ⟨c,rfl⟩);rw[wc2,wc2]at this
  assumption
 ·rw[if_neg c]at a;rw[a];refine wah rfl (Tt.b1 ?_);rw[zj2 a];refine wac _ (ye X U) ?_;have:=h [q] (.inr ⟨c,rfl⟩);unfold zdx at this⊢
  grind
end
structure St37(d:jd)(L:List Bool)(la lb:Int)(dp wp:List (Nat×Nat))(bad:Bool):Prop where
 nd:(dp++wp).Nodup
 rch:∀p∈dp++wp,R37 d L la lb p
 st:∀p,S37 d la p->p∈dp++wp
 cl:∀p∈dp,∀q,E37 d L lb p q->q∈dp++wp
 bd:bad=true↔∃p∈dp,∃q,E37 d L lb p q/\0<=Ju d q.1
def jus(N:Nat):List (Nat×Nat):=(range N).flatMap λi=>(range (N+1)).map λk=>(i,k)
def jnn{N:Nat}{p:Nat×Nat}:p∈jus N↔p.1<N/\p.2<=N:=by unfold jus;grind
def jsp{α:Type}{N:Nat}(f:Nat->Nat->α):∀l:Wam Nat,(l.flatMap λi=>(range N).map λk=>f i k).length=l.length*N
 |[]=>V
 |i::l=>by rw[wdk,wc1,jsp f l];grind
def jnj(N:Nat):(jus N).length=N*(N+1):=by unfold jus;rw[jsp];simp
def z6l{α:Type}[DecidableEq α]:∀{l m:Wam α},l.Nodup->(∀x∈l,x∈m)->l.length<=m.length
 |[],m,_,_=>wdy _
 |x::l,m,h,a=>by rw[wfg]at h;have c:=a x V;have b:=z6l h.2 λy d=>(List.mem_erase_of_ne (show y≠x from λe=>h.1 X)).2 (a y X);grind
def zx3{N:Nat}{l:Wam (Nat×Nat)}(h:l.Nodup)(a:∀p∈l,p.1<N/\p.2<=N):l.length<=N*(N+1):=by rw[<- jnj];exact z6l h λp b=>jnn.2 (a p b)
def St37.len{d:jd}{L:W8}{e f:Int}{b wp:Wam (Nat×Nat)}{a:Bool}(hm:MOk d)(h:St37 d L e f b wp a):(b++wp).length<=d.2.2.1.length*(d.2.2.1.length+1):=zx3 h.nd λp c=>(h.rch p c).val hm
def zxi{α:Type}{l:Wam α}{q:α}(h:l.Nodup)(a:q∉l):(l++[q]).Nodup:=by grind
def jw6{d:jd}(H:DSz d)(hm:MOk d)(L:W8)(b k:Int)(D:Wa)(F:Int)(G:W4):
  Tn (λA=>Zx A (b,d.2.2.2.1,D,F,G,d.1,d.2.1,d.2.2.1,k,false,L,[],[])) (λr=>∃sp,St37 d L b k [] sp false/\r=(d.2.2.2.1,d.1,d.2.1,d.2.2.1,k,false,L,zdx d.2.2.1.length sp,sp.map (Q1 d.2.2.1.length))):=by
 have T:=hm.n0;have P:=H.n;have o:=hm.lab;generalize R:d.2.2.1.length=N at *;show Tn (λA=>jm _ A _) _;refine Tt.loop (λm s=>∃(i:Nat)(sp:Wam (Nat×Nat)),i<=N/\m=N-i/\s=(b,(N:Int),(i:Int),d.2.2.2.1,d.1,d.2.1,d.2.2.1,k,false,L,zdx N sp,sp.map (Q1 N))/\sp.Nodup/\∀p,p∈sp↔p.1<i/\Ju d p.1=b/\p.2=0) N waa ⟨0,[],U,Wab,by rw[o];rfl,List.nodup_nil,λp=>V⟩ λm s⟨i,sp,S,O,u,g,v⟩ Y z=>?_;subst u;dsimp only;refine wab (λc=>?_) λc=>Tt.pure ⟨sp,⟨g,λp j=> .base ?_,λp j=>?_,λp j=>X,⟨λh=>(by cases h),λ⟨p,j,_⟩=>by cases j⟩⟩,rfl⟩
 ·have c:=wcj c;have M:i<N:=U;have e:i<d.2.2.2.1.length:=U;have B:Ju d i=d.2.2.2.1[i]:=yf e;have C:sp.length<=N*(N+1):=zx3 g λp j=>X;have f:sp.length<=1000000:=by
   have:N*(N+1)<=300*301:=Nat.mul_le_mul P U;omega
  refine Tt.J (λs=>∃a,s=(b,(N:Int),(i:Int),d.2.2.2.1,d.1,d.2.1,d.2.2.1,k,false,L,zdx N a,a.map (Q1 N))/\a.Nodup/\∀p,p∈a↔p.1<i+1/\Ju d p.1=b/\p.2=0) (λZ t=>?_) λs⟨a,u,w,x⟩=>?_
  ·refine wac _ (vn e) (wac _ (atN e) (wab (λl=>?_) λl=>?_))
   ·have l:=wcj l;refine Tt.J (λs=>∃a,s=(b,(N:Int),(i:Int),d.2.2.2.1,d.1,d.2.1,d.2.2.1,k,false,L,zdx N a,a.map (Q1 N))/\a.Nodup/\∀p,p∈a↔p.1<i+1/\Ju d p.1=b/\p.2=0) (λnv y=>?_) λs u=>?_
    ·refine z75 (q:=(i,0)) (by unfold Q1;grind) f λQ I=>y _ ?_
     grind
    ·obtain⟨a,rfl,w,x⟩:=u;exact t _ ⟨a,rfl,w,x⟩
   ·have l:=wck l;refine t _ ⟨sp,rfl,g,λp=>?_⟩
    grind
  ·subst u;dsimp only;refine Tt.b1 ?_;rw[wI U U];exact z (N-(i+1)) _ U ⟨i+1,a,U,rfl,rfl,w,x⟩
 ·have c:=wck c;have:=(v p).1 X;exact⟨U,this.2⟩
 ·have c:=wck c;have w:=j.1;simpa using(v p).2 ⟨U,j.2⟩
def jwq{d:jd}(hd:DSz d)(hm:MOk d)(L:W8)(hL:L.length=d.2.2.1.length)(la v:Int){sp:Wam (Nat×Nat)}(g7:St37 d L la v [] sp false):
  Tn (λnn=>Z3 nn (d.2.2.2.1,d.1,d.2.1,d.2.2.1,v,false,L,zdx d.2.2.1.length sp,sp.map (Q1 d.2.2.1.length))) (λr=>∃F B,St37 d L la v F [] B/\r=(d.2.2.2.1,d.1,d.2.1,d.2.2.1,v,B,L,zdx d.2.2.1.length F,[])):=by
 have n0:0<d.2.2.1.length:=hm.n0;have hn:=hd.n;have k9:0<=d.2.1:=hm.w.1;have l0:d.2.1<=256:=hm.w.2;have f1:d.2.2.2.1.length=d.2.2.1.length:=hm.lab;have hT:d.2.2.1.length*(d.2.2.1.length+1)<=90300:=by
  have:d.2.2.1.length*(d.2.2.1.length+1)<=300*301:=Nat.mul_le_mul hn U;omega
 generalize hN:d.2.2.1.length=N at n0 hn f1 hT hL⊢;have Z:∀{F wp B},St37 d L la v F wp B->(F++wp).length<=N*(N+1):=λh=>hN▸h.len hm;generalize j6:N*(N+1)=T at hT Z;show Tn (λnn=>jm _ nn _) _;refine Tt.loop (λm s=>∃(F wp:Wam (Nat×Nat))(B:Bool),St37 d L la v F wp B/\m=2*(T-(F++wp).length)+wp.length/\s=(d.2.2.2.1,d.1,d.2.1,d.2.2.1,v,B,L,zdx N (F++wp),wp.map (Q1 N))) _ waa ⟨[],sp,false,g7,rfl,rfl⟩ λm s⟨F,wp,B,O,d1,I⟩ nx g5=>?_;subst I;dsimp only;have e0:=Z O;refine wab (λc=>?_) λc=>?_
 rotate_left
 ·have c:=wck c;have:wp=[]:=by simpa using c
  subst this;exact Tt.pure ⟨F,B,O,V⟩
 have c:=wcj c
 match wp,O,d1,e0,c with
 |[],_,_,_,c=>simp at c
 |p::o,O,d1,e0,c=>
  have d2:=(O.rch p V).val hm;have k7:p.1<N:=hN▸d2.1;have k8:p.2<=N:=hN▸d2.2;have i0:jq ((p::o).map (Q1 N)).length 0=some 0:=vn (k:=0) V;have a0:atL ((p::o).map (Q1 N)) 0=some (Q1 N p):=rfl;have o1:zpn ((p::o).map (Q1 N)) 1=some 1:=by
   unfold zpn;simp;rw[wdh (show(1:Int)<=(o.length:Int)+1 by omega)]
  refine wac _ i0 (wac _ a0 (wac _ o1 ?_));have g2:((p::o).map (Q1 N)).drop 1=o.map (Q1 N):=rfl;rw[g2];have Y:F++p::o=F++[p]++o:=V;generalize hA:F++p::o=A at Y;obtain⟨W,hW⟩:∃W:Nat,d.2.1=(W:Int):=⟨d.2.1.toNat,U⟩
  have j7:W<=256:=U;refine Tt.loop (λm s=>∃(c:Nat)(g:Wam (Nat×Nat))(b1:Bool),c<=W/\m=W-c/\s=(d.2.1,(c:Int),d.1,d.2.1,d.2.2.1,v,b1,d.2.2.2.1,L,zdx N (A++g),Q1 N p,(o++g).map (Q1 N))/\(A++g).Nodup/\(∀q∈g,E37 d L v p q)/\(∀D:Nat,D<c->∀q,E37c d L v D p q->q∈A++g)/\(b1=true↔B=true\/∃D:Nat,D<c/\∃q,E37c d L v D p q/\0<=Ju d q.1)) W waa.fst ⟨0,[],B,U,U,by rw[wc2,wc2];rfl,by rw[wc2,<- hA];exact O.nd,λq f=>(by cases f),λD h=>U,⟨.inl,λh=>by
    rcases h with h|⟨D,h,_⟩
    ·exact h
    ·omega⟩⟩ λm s⟨c,g,b1,hc,k6,I,R,b4,e5,e4⟩ ny g6=>?_
  subst I;dsimp only;refine wab (λc1=>?_) λc1=>?_
  rotate_left
  ·-- behind the row
   have c1:=wck c1;obtain rfl:c=W:=U;have d9:St37 d L la v (F++[p]) (o++g) b1:=by
    have e:F++[p]++(o++g)=A++g:=by rw[Y];simp only[wc4]
    refine⟨by rw[e];exact R,λq f=>?_,λq f=>?_,λq f r hr=>?_,?_⟩
    ·rw[e,wcu]at f;rcases f with f|f
     ·exact O.rch q (by rw[hA];exact f)
     ·exact .step (O.rch p V) (b4 q f)
    ·rw[e,wcu];exact .inl (hA▸O.st q f)
    ·rw[e];rw[wcu]at f;rcases f with f|f
     ·exact wem _ (hA▸O.cl q f r hr)
     ·simp at f;subst f;obtain⟨D,d0⟩:=hr;exact e5 D (by have:=d0.1;omega) r d0
    ·rw[e4,O.bd];constructor
     ·rintro(⟨q,j,u⟩|⟨D,_,q,j,u⟩)
      ·exact⟨q,wem _ j,u⟩
      ·exact⟨p,V,q,⟨D,j⟩,u⟩
     ·rintro⟨q,j,r,⟨D,u⟩,G⟩;rw[wcu]at j;rcases j with j|j
      ·exact .inl ⟨q,j,r,⟨D,u⟩,G⟩
      ·simp at j;subst j;exact .inr ⟨D,by have:=u.1;omega,r,u,G⟩
   have e9:=Z d9;have e1:(F++[p]++(o++g)).length=(F++p::o).length+g.length:=Wag;have e2:(F++[p]++(o++g))=A++g:=by rw[Y];simp only[wc4]
   refine(g5 (2*(T-(F++[p]++(o++g)).length)+(o++g).length) _ ?_ ⟨F++[p],o++g,b1,d9,rfl,by rw[e2]⟩).fst;rw[d1,e1];rw[e1]at e9;simp only[wc1,wd4]at e9⊢;omega
  -- a class
  have c1:=wcj c1;have j8:c<W:=U;have a7:∀(i:Nat)(hi:i<d.2.2.1.length),((d.2.2.1[i]).length:Int)=d.2.1:=λi hi=>by
   have:=hm.row i U U;rwa [yf (l:=d.2.2.1) hi]at this
  have c0:∀(i:Nat)(hi:i<d.2.2.1.length)(e6:c<(d.2.2.1[i]).length),nxt d i c=(d.2.2.1[i])[c] /\ -1<=(d.2.2.1[i])[c]/\(d.2.2.1[i])[c]<N:=λi hi e6=>by
   have j:=zh9 hi e6;have : -1<=nxt d i (c:Int)/\nxt d i (c:Int)<d.2.2.1.length:=hm.nx i c U U U U;rw[j]at this;exact⟨j,U,U⟩
  have a4:p.1<d.2.2.1.length:=d2.1;have f3:c<(d.2.2.1[p.1]).length:=by have:=a7 p.1 a4;omega
  obtain⟨b5,g8,h0⟩:=c0 p.1 a4 f3
  -- how a class is left
  have f0:(A++g).length<=1000000/\(o++g).length<=1000000:=by
   have j:=zx3 (N:=N) R λq f=>by
    rw[wcu]at f;have hv:V37 d q:=by
     rcases f with f|f
     ·exact(O.rch q (by rw[hA];exact f)).val hm
     ·exact R37.val hm (.step (O.rch p V) (b4 q f))
    exact⟨by have:=hv.1;omega,by have:=hv.2;omega⟩
   have u:(o++g).length<=(A++g).length:=by rw[Y];simp only[wc1,wd4,wff];omega
   omega
  refine Tt.J (λs=>∃(b:Wam (Nat×Nat))(H:Bool),s=(d.2.1,(c:Int),d.1,d.2.1,d.2.2.1,v,H,d.2.2.2.1,L,zdx N (A++(g++b)),Q1 N p,(o++(g++b)).map (Q1 N))/\∃S:Wam (Nat×Nat),(∀q,E37c d L v c p q↔q∈S)/\(A++(g++b)).Nodup/\(∀q∈b,q∈S)/\(∀q∈S,q∈A++(g++b))/\(H=true↔b1=true\/∃q∈S,0<=Ju d q.1)) (λnu a2=>?_) λs⟨b,H,I,S,k1,k2,k3,k4,k5⟩=>?_
  rotate_left
  ·subst I;dsimp only;refine Tt.b1 ?_;rw[wI U U];refine g6 (W-(c+1)) _ U ⟨c+1,g++b,H,U,rfl,rfl,k2,λq f=>?_,λD d0 q f=>?_,?_⟩
   ·rw[wcu]at f;rcases f with f|f
    ·exact b4 q f
    ·exact⟨c,(k1 q).2 (k3 q f)⟩
   ·by_cases e:D=c
    ·subst e;exact k4 q ((k1 q).1 f)
    ·have:=e5 D U q f;rw[<- wc4];exact wem _ this
   ·rw[k5,e4];constructor
    ·rintro((h|⟨D,j,u⟩)|⟨q,j,u⟩)
     ·exact .inl h
     ·exact .inr ⟨D,U,u⟩
     ·exact .inr ⟨c,U,q,(k1 q).2 j,u⟩
    ·rintro(h|⟨D,j,q,u,G⟩)
     ·exact .inl (.inl h)
     ·by_cases e:D=c
      ·subst e;exact .inr ⟨q,(k1 q).1 u,G⟩
      ·exact .inl (.inr ⟨D,U,q,u,G⟩)
  have none:(∀q,¬E37c d L v c p q)->∃(b:Wam (Nat×Nat))(H:Bool),(d.2.1,(c:Int),d.1,d.2.1,d.2.2.1,v,b1,d.2.2.2.1,L,zdx N (A++g),Q1 N p,(o++g).map (Q1 N))=(d.2.1,(c:Int),d.1,d.2.1,d.2.2.1,v,H,d.2.2.2.1,L,zdx N (A++(g++b)),Q1 N p,(o++(g++b)).map (Q1 N))/\∃S:Wam (Nat×Nat),(∀q,E37c d L v c p q↔q∈S)/\(A++(g++b)).Nodup/\(∀q∈b,q∈S)/\(∀q∈S,q∈A++(g++b))/\(H=true↔b1=true\/∃q∈S,0<=Ju d q.1):=λh=>
   ⟨[],b1,by rw[wc2],[],λq=>⟨λf=>absurd f (h q),λf=>by cases f⟩,by rw[wc2];exact R,λq f=>(by cases f),λq f=>(by cases f),⟨.inl,λh=>by
    rcases h with h|⟨q,f,_⟩
    ·exact h
    ·cases f⟩⟩
  have g3:atL (Q1 N p).l 0=some (p.1:Int):=rfl;have e8:atL (Q1 N p).l 1=some (if p.2=N then(-1:Int)else(p.2:Int)):=rfl;have j0:jq 2 0=some 0:=rfl;have j1:jq 2 1=some 1:=rfl;refine wac _ j0 (wac _ g3 (wac _ (atN a4) (wac _ (atN f3) (wab (λc2=>?_) λc2=>?_))))
  ·have c2:=wcj c2;exact a2 _ (none λq f=>by have:=f.2.1;omega)
  have c2:=wck c2;obtain⟨z,hz⟩:∃z:Nat,(d.2.2.1[p.1])[c]=(z:Int):=⟨((d.2.2.1[p.1])[c]).toNat,U⟩
  rw[hz];rw[hz]at b5 g8 h0 c2;have l3:z<N:=U;have Q:z<d.2.2.2.1.length:=U;have a1:Ju d z=d.2.2.2.1[z]:=yf Q;refine wac _ j1 (wac _ e8 (wab (λc3=>?_) λc3=>?_))
  ·-- done
   have a6:p.2=N:=by
    have c3:=wcj c3;split at c3
    ·assumption
    ·omega
   have hS:∀q,E37c d L v c p q↔q∈[(z,N)]:=λq=>by
    rw[wcr];constructor
    ·rintro⟨_,u,G⟩;rw[hN]at G;have e1:q.1=z:=U;rcases G with⟨_,G⟩|⟨G,_⟩
     ·exact Prod.ext e1 G
     ·omega
    ·rintro rfl;exact⟨U,b5,.inl ⟨by rw[hN];exact a6,by rw[hN]⟩⟩
   refine Tt.J (λs=>∃H,s=(d.1,d.2.1,d.2.2.1,v,H,d.2.2.2.1,L,zdx N (A++g),(⟨[(z:Int),(-1)],rfl⟩:Arr 2 Int),(o++g).map (Q1 N))/\(H=true↔b1=true\/0<=Ju d z)) (λnv C=>?_) λs⟨H,I,b0⟩=>?_
   ·refine wac _ (vn Q) (wac _ (atN Q) (wab (λM=>?_) λM=>?_))
    ·exact C _ ⟨true,rfl,⟨λ_=> .inr (by rw[a1];exact wcj M),λ_=>rfl⟩⟩
    ·exact C _ ⟨b1,rfl,⟨.inl,λh=>by
      rcases h with h|h
      ·exact h
      ·rw[a1]at h;exact absurd h (wck M)⟩⟩
   ·subst I;dsimp only;refine Tt.J (λs=>∃b,s=(d.1,d.2.1,d.2.2.1,v,H,d.2.2.2.1,L,zdx N (A++g++b),(o++g++b).map (Q1 N))/\((z,N)∈A++g/\b=[]\/(z,N)∉A++g/\b=[(z,N)])) (λnw a3=>?_) λs⟨b,I,j⟩=>?_
    ·exact z75 (N:=N) (sp:=A++g) (wp:=o++g) (q:=(z,N)) (by unfold Q1;simp) f0.2 λb j=>a3 _ ⟨b,rfl,j⟩
    ·subst I;dsimp only;refine a2 _ ⟨b,H,by rw[wc4,wc4],_,hS,?_,?_,?_,?_⟩
     ·rw[<- wc4];rcases j with⟨_,rfl⟩|⟨j,rfl⟩
      ·rwa [wc2]
      ·exact zxi R j
     ·rcases j with⟨_,rfl⟩|⟨_,rfl⟩
      ·intro q f;cases f
      ·exact λq f=>f
     ·intro q f;rw[wcr]at f;subst f;rw[<- wc4];rcases j with⟨j,rfl⟩|⟨_,rfl⟩
      ·rwa [wc2]
      ·simp
     ·rw[b0];constructor
      ·rintro(h|h)
       ·exact .inl h
       ·exact .inr ⟨_,wcr.2 rfl,h⟩
      ·rintro(h|⟨q,f,h⟩)
       ·exact .inl h
       ·rw[wcr]at f;subst f;exact .inr h
  ·-- a place
   have a6:p.2≠N:=λe=>by
    have c3:=wck c3;rw[if_pos e]at c3;exact c3 rfl
   have a5:p.2<d.2.2.1.length:=U;have f4:c<(d.2.2.1[p.2]).length:=by have:=a7 p.2 a5;omega
   obtain⟨a8,h8,h9⟩:=c0 p.2 a5 f4;refine wac _ j1 (wac _ (by rw[e8,if_neg a6]) (wac _ (atN a5) (wac _ (atN f4) ?_)));generalize k0:(d.2.2.1[p.2])[c]=g9 at a8 h8 h9;refine Tt.J (λs=>∃t,s=((z:Int),g9,d.2.1,(c:Int),t,d.1,d.2.1,d.2.2.1,v,b1,d.2.2.2.1,L,zdx N (A++g),Q1 N p,(o++g).map (Q1 N))/\(t=false↔∃y:Nat,g9=(y:Int)/\onB L y)) (λnv C=>?_) λs⟨t,I,ht⟩=>?_
   ·refine Tt.b1 (wab (λM=>?_) λM=>?_)
    ·have M:=wcj M;exact C _ ⟨true,rfl,⟨λh=>(by cases h),λ⟨y,h,_⟩=>U⟩⟩
    ·have M:=wck M;obtain⟨y,hy⟩:∃y:Nat,g9=(y:Int):=⟨g9.toNat,U⟩
     subst hy;have P:y<L.length:=U;refine wac _ (vn P) (wac _ (atN P) (C _ ⟨_,rfl,?_⟩));constructor
     ·intro h;refine⟨y,rfl,?_⟩;unfold onB;rw[wch P];simpa using h
     ·rintro⟨y2,j,u⟩;have:y=y2:=U;subst this;unfold onB at u;rw[wch P]at u;simpa using u
   subst I;dsimp only;refine wab (λM=>?_) λM=>?_
   ·refine a2 _ (none λq f=>?_);obtain⟨_,_,G⟩:=f;rw[hN]at G;rcases G with⟨G,_⟩|⟨_,y,h4,h5,_⟩
    ·exact a6 G
    ·rw[a8]at h4;rw[ht.2 ⟨y,h4,h5⟩]at M;cases M
   obtain⟨y,rfl,P⟩:=ht.1 M;have l2:y<N:=U;have d3:y<d.2.2.2.1.length:=U;have f2:Ju d y=d.2.2.2.1[y]:=yf d3;have e3:∀q,E37c d L v c p q↔q=(z,y)\/q=(z,N)/\Ju d y=v:=λq=>by
    constructor
    ·rintro⟨_,u,G⟩;rw[hN]at G;have e1:q.1=z:=U;rcases G with⟨G,_⟩|⟨_,y2,h4,h5,h6⟩
     ·exact absurd G a6
     ·rw[a8]at h4;have:y=y2:=U;subst this;rcases h6 with h6|⟨h6,h7⟩
      ·exact .inl (Prod.ext e1 h6)
      ·exact .inr ⟨Prod.ext e1 h6,h7⟩
    ·rintro(rfl|⟨rfl,h7⟩)
     ·exact⟨U,b5,.inr ⟨U,y,a8,P,.inl rfl⟩⟩
     ·exact⟨U,b5,.inr ⟨U,y,a8,P,.inr ⟨by rw[hN],h7⟩⟩⟩
   refine Tt.J (λs=>∃H,s=(d.1,d.2.1,d.2.2.1,v,H,d.2.2.2.1,L,zdx N (A++g),(⟨[(z:Int),(y:Int)],rfl⟩:Arr 2 Int),(o++g).map (Q1 N))/\(H=true↔b1=true\/0<=Ju d z)) (λnv C=>?_) λs⟨H,I,b0⟩=>?_
   ·refine wac _ (vn Q) (wac _ (atN Q) (wab (λM=>?_) λM=>?_))
    ·exact C _ ⟨true,rfl,⟨λ_=> .inr (by rw[a1];exact wcj M),λ_=>rfl⟩⟩
    ·exact C _ ⟨b1,rfl,⟨.inl,λh=>by
      rcases h with h|h
      ·exact h
      ·rw[a1]at h;exact absurd h (wck M)⟩⟩
   subst I;dsimp only;refine Tt.J (λs=>∃b,s=(d.1,d.2.1,d.2.2.1,v,H,d.2.2.2.1,L,zdx N (A++g++b),(o++g++b).map (Q1 N))/\((z,y)∈A++g/\b=[]\/(z,y)∉A++g/\b=[(z,y)])) (λnw a3=>?_) λs⟨b,I,j⟩=>?_
   ·exact z75 (N:=N) (sp:=A++g) (wp:=o++g) (q:=(z,y)) (by unfold Q1;simp only[show ¬y=N by omega,if_false]) f0.2 λb j=>a3 _ ⟨b,rfl,j⟩
   subst I;dsimp only;have b9:(A++(g++b)).Nodup:=by
    rw[<- wc4];rcases j with⟨_,rfl⟩|⟨j,rfl⟩
    ·rwa [wc2]
    ·exact zxi R j
   have b8:(z,y)∈A++(g++b):=by
    rw[<- wc4];rcases j with⟨j,rfl⟩|⟨_,rfl⟩
    ·rwa [wc2]
    ·simp
   have b7:∀q∈b,q=(z,y):=by
    rcases j with⟨_,rfl⟩|⟨_,rfl⟩
    ·intro q f;cases f
    ·intro q f;simpa using f
   rw[wc4,wc4];refine wac _ (vn d3) (wac _ (atN d3) (wab (λc5=>?_) λc5=>?_))
   ·have c5:=f2.trans (wcj c5);refine Tt.J (λs=>∃b3,s=(d.1,d.2.1,d.2.2.1,v,b3,d.2.2.2.1,L,zdx N (A++(g++b)),(⟨[(z:Int),(-1)],rfl⟩:Arr 2 Int),(o++(g++b)).map (Q1 N))/\(b3=true↔b1=true\/0<=Ju d z)) (λnv C=>?_) λs⟨b3,I,g1⟩=>?_
    ·refine wac _ (vn Q) (wac _ (atN Q) (wab (λc6=>?_) λc6=>?_))
     ·exact C _ ⟨true,rfl,⟨λ_=> .inr (by rw[a1];exact wcj c6),λ_=>rfl⟩⟩
     ·exact C _ ⟨H,rfl,b0⟩
    subst I;dsimp only;have g4:(o++(g++b)).length<=1000000:=by
     have h5:b.length<=1:=by rcases j with⟨_,rfl⟩|⟨_,rfl⟩<;>simp
     have h6:=zx3 (N:=N) R λq f=>by
      rw[wcu]at f;have hv:V37 d q:=by
       rcases f with f|f
       ·exact(O.rch q (by rw[hA];exact f)).val hm
       ·exact R37.val hm (.step (O.rch p V) (b4 q f))
      exact⟨by have:=hv.1;omega,by have:=hv.2;omega⟩
     have h7:(o++g).length<=(A++g).length:=by rw[Y];simp only[wc1,wd4,wff];omega
     simp only[wc1]at h6 h7⊢;omega
    refine Tt.J (λs=>∃x,s=(d.1,d.2.1,d.2.2.1,v,b3,d.2.2.2.1,L,zdx N (A++(g++b)++x),(o++(g++b)++x).map (Q1 N))/\((z,N)∈A++(g++b)/\x=[]\/(z,N)∉A++(g++b)/\x=[(z,N)])) (λnw a3=>?_) λs⟨x,I,u⟩=>?_
    ·exact z75 (N:=N) (sp:=A++(g++b)) (wp:=o++(g++b)) (q:=(z,N)) (by unfold Q1;simp) g4 λx u=>a3 _ ⟨x,rfl,u⟩
    subst I;dsimp only;refine a2 _ ⟨b++x,b3,by simp only[wc4],[(z,y),(z,N)],λq=>?_,?_,?_,?_,?_⟩
    ·rw[e3];simp[c5]
    ·have e:A++(g++(b++x))=A++(g++b)++x:=by simp only[wc4]
     rw[e];rcases u with⟨_,rfl⟩|⟨u,rfl⟩
     ·rwa [wc2]
     ·exact zxi b9 u
    ·intro q f;rw[wcu]at f;rcases f with f|f
     ·rw[b7 q f];simp
     ·rcases u with⟨_,rfl⟩|⟨_,rfl⟩
      ·cases f
      ·simp at f;subst f;simp
    ·intro q f;have e:A++(g++(b++x))=A++(g++b)++x:=by simp only[wc4]
     rw[e];simp only[wdb,List.not_mem_nil,or_false]at f;rcases f with rfl|rfl
     ·exact wem _ b8
     ·rcases u with⟨u,rfl⟩|⟨_,rfl⟩
      ·rwa [wc2]
      ·simp
    ·rw[g1];constructor
     ·rintro(h|h)
      ·exact .inl h
      ·exact .inr ⟨(z,y),V,h⟩
     ·rintro(h|⟨q,f,h⟩)
      ·exact .inl h
      ·simp only[wdb,List.not_mem_nil,or_false]at f;rcases f with rfl|rfl<;>exact .inr h
   ·have c5:¬Ju d y=v:=λe=>wck c5 (f2.symm.trans e);refine a2 _ ⟨b,H,rfl,[(z,y)],λq=>?_,b9,λq f=>?_,λq f=>?_,?_⟩
    ·rw[e3];simp[c5]
    ·rw[b7 q f];simp
    ·rw[wcr]at f;subst f;exact b8
    ·rw[b0];constructor
     ·rintro(h|h)
      ·exact .inl h
      ·exact .inr ⟨(z,y),V,h⟩
     ·rintro(h|⟨q,f,h⟩)
      ·exact .inl h
      ·rw[wcr]at f;subst f;exact .inr h
def onM(m:W5)(p:Nat×Nat):Prop:=∃r,m[p.1]?=some r/\onB r p.2
structure MSz(N:Nat)(m:List (List Bool)):Prop where
 len:m.length=N
 row:∀(i:Nat)(r:List Bool),m[i]?=some r->r.length=N+1
def zwh(m:W5):Nat:=(m.map offs).sum
def MSz.at{N:Nat}{m:W5}(h:MSz N m){i:Nat}(hi:i<N):∃r,m[i]?=some r/\r.length=N+1:=by have a:i<m.length:=by{rw[h.len];omega};exact⟨m[i],wch a,h.row i _ (wch a)⟩
section
variable{N i k:Nat}{m:List (List Bool)}{r:List Bool}
def MSz.set(h:MSz N m)(c:m[i]?=some r)(b:Bool):MSz N (m.set i (r.set k b)):=⟨by rw[wdz];exact h.len,λj s a=>by
 rw[wdf]at a;split at a;{split at a;{cases a;rw[wdz];exact h.row i r c};grind};.exact h.row j s a⟩
def zjq(c:m[i]?=some r)(b:k<r.length){p:Nat×Nat}:onM (m.set i (r.set k true)) p↔p=(i,k)\/onM m p:=by have d:=(wcl.1 c).1;unfold onM;rw[wdf];by_cases e:i=p.1;{rw[if_pos e,if_pos U];subst e;constructor;{rintro⟨s,a,h⟩;cases a;rcases(yr b).1 h with h|h;{grind};grind};.rintro(h|⟨s,a,h⟩);{exact⟨_,rfl,(yr b).2 (.inl (by rw[h]))⟩};.rw[c]at a;cases a;exact⟨_,rfl,(yr b).2 (.inr h)⟩};grind
def zru(d:m[i]?=some r)(h:onB r k):m.set i (r.set k true)=m:=by have b:r.set k true=r:=by{obtain⟨c,a⟩:=wcl.1 h;rw[<- a];simp};obtain⟨c,a⟩:=wcl.1 d;rw[b,<- a];simp
def z1c:∀{m:W5}{i:Nat},m[i]?=some r->r[k]?=some false->zwh (m.set i (r.set k true))+1=zwh m
 |[],i,h,_=>X
 |s::m,0,h,a=>by simp at h;subst h;have:=zl7 a;unfold zwh;grind
 |s::m,i+1,h,a=>by simp[List.getElem?_cons_succ]at h;have:=z1c h a;unfold zwh at this⊢;grind
def rdM(e:m[i]?=some r)(c:k<r.length):atL m (i:Int)=some r/\jq m.length (i:Int)=some (i:Int)/\(ja (atL m (i:Int)) λs=>jq s.length (k:Int))=some (k:Int)/\(ja (atL m (i:Int)) λs=>atL s (k:Int))=some r[k]/\∀b,(ja (atL m (i:Int)) λs=>ja (yi s (k:Int) b) λt=>some (m.set (i:Int).toNat t))=some (m.set i (r.set k b)):=by obtain⟨d,f⟩:=wcl.1 e;have a:atL m (i:Int)=some r:=by{assumption};refine⟨a,vn d,?_,?_,λb=>?_⟩;{rw[a];exact vn c};{rw[a];exact atN c};.rw[a];simp only[ja];rw[yw b c];simp
end
structure FI37(d:jd)(L:List Bool)(la lb:Int)(all got:List (List Bool)):Prop where
 a:MSz d.2.2.1.length all
 g:MSz d.2.2.1.length got
 sa:∀p,onM all p->R37 d L la lb p
 sg:∀p,onM got p->G37 d L la lb p
 st:∀p,S37 d la p->onM all p
 le:∀p,onM got p->onM all p
def Cl37(d:jd)(L:W8)(b:Int)(all a:W5):Prop:=∀p q,onM all p->E37 d L b p q->onM a q
def FI37.all{d:jd}{L:W8}{c b:Int}{all a:W5}(h:FI37 d L c b all a)(g:Cl37 d L b all a):(∀p,onM all p↔R37 d L c b p)/\∀p,onM a p↔G37 d L c b p:=by have f:∀p,R37 d L c b p->onM all p:=λp e=>by{induction e with|base e=>{exact h.st _ e}|step _ k l=>exact h.le _ (g _ _ l k)};exact⟨λp=>⟨h.sa p,f p⟩,λq=>⟨h.sg q,λ⟨p,i,j⟩=>g p q (f p i) j⟩⟩
structure RI37(d:jd)(L:List Bool)(la lb:Int)(all0 got0:List (List Bool))(P:Nat×Nat->Nat->Prop)(mo:Bool)(all got:List (List Bool)):Prop where
 fi:FI37 d L la lb all got
 dec:mo=true->zwh got<zwh got0
 same:mo=false->all=all0/\got=got0
 pr:mo=false->∀p c q,P p c->onM all0 p->E37c d L lb c p q->onM got0 q
def RI37.mono{d:jd}{L:W8}{n g:Int}{a b all f:W5}{P j:Nat×Nat->Nat->Prop}{i:Bool}(h:RI37 d L n g a b P i all f)(r:i=false->∀p c q,j p c->onM a p->E37c d L g c p q->P p c\/onM b q):RI37 d L n g a b j i all f:=
 ⟨h.fi,h.dec,h.same,λe p c q o k l=>by
  rcases r e p c q o k l with m|m
  ·exact h.pr e p c q m k l
  omega⟩
def RI37.put{d:jd}{L:W8}{A B:Int}{j k all b:W5}{P:Nat×Nat->Nat->Prop}{u:Bool}(h:RI37 d L A B j k P u all b){z y:Nat}{C c:W8}(n:all[z]?=some C)(l:b[z]?=some c)(x:y<C.length)(i:y<c.length)(F:G37 d L A B (z,y)){s:Bool}(q:s=true↔u=true\/c[y]=false):
  RI37 d L A B j k P s (all.set z (C.set y true)) (b.set z (c.set y true)):=by
 have H:R37 d L A B (z,y):=by
  obtain⟨p,m,t⟩:=F;exact .step m t
 have r:c[y]=true->onB c y:=λe=>by unfold onB;rw[wch i,e]
 have I:zwh (b.set z (c.set y true))<=zwh b:=by
  cases e:c[y]with
  |true=>rw[zru l (r e)];exact wcs _
  |false=>have:=z1c l (show c[y]?=some false by rw[wch i,e]);omega
 have v:s=false->u=false/\all.set z (C.set y true)=all/\b.set z (c.set y true)=b:=λe=>by
  have m:u=false:=by
   cases o:u with
   |false=>rfl
   |true=>rw[q.2 (.inl o)]at e;cases e
  have t:c[y]=true:=by
   cases o:c[y]with
   |true=>rfl
   |false=>rw[q.2 (.inr o)]at e;cases e
  have D:onM all (z,y):=h.fi.le _ ⟨c,l,r t⟩;obtain⟨M,w,G⟩:=D;have w:all[z]?=some M:=w;rw[n]at w;cases w;exact⟨m,zru n G,zru l (r t)⟩
 refine⟨⟨h.fi.a.set n true,h.fi.g.set l true,λp f=>?_,λp f=>?_,λp f=>(zjq n x).2 (.inr (h.fi.st p f)),λp f=>?_⟩,λe=>?_,λe=>?_,λe=>h.pr (v e).1⟩
 ·rcases(zjq n x).1 f with rfl|f
  ·exact H
  ·exact h.fi.sa p f
 ·rcases(zjq l i).1 f with rfl|f
  ·exact F
  ·exact h.fi.sg p f
 ·rcases(zjq l i).1 f with rfl|f
  ·exact(zjq n x).2 (.inl rfl)
  ·exact(zjq n x).2 (.inr (h.fi.le p f))
 ·rcases q.1 e with e|e
  ·have:=h.dec e;omega
  ·have m:=z1c l (show c[y]?=some false by rw[wch i,e]);cases o:u with
   |true=>have:=h.dec o;omega
   |false=>rw[(h.same o).2]at m⊢;rw[(h.same o).2]at *;omega
 ·obtain⟨m,t,D⟩:=v e;rw[t,D];exact h.same m
def zog(d:jd)(a:Int)(N j:Nat):W8:=(replicate (N+1) false).set 0 (decide (Ju d j=a))
def zwx(d:jd)(a:Int)(N i:Nat):W5:=(range i).map (zog d a N)
def z4g{d:jd}{a:Int}{N j k:Nat}:onB (zog d a N j) k↔k=0/\Ju d j=a:=by unfold onB zog;grind
def ini_FI{d:jd}(L:W8)(e l:Int):FI37 d L e l (zwx d e d.2.2.1.length d.2.2.1.length) (replicate d.2.2.1.length (replicate (d.2.2.1.length+1) false)):=by have j:∀i r,(zwx d e d.2.2.1.length d.2.2.1.length)[i]?=some r->i<d.2.2.1.length/\r=zog d e d.2.2.1.length i:=λi r h=>by{unfold zwx at h;obtain⟨b,a⟩:=wcl.1 h;simp at b a;exact⟨b,a.symm⟩};have k:∀p,¬onM (replicate d.2.2.1.length (replicate (d.2.2.1.length+1) false)) p:=λp⟨r,b,a⟩=>by{obtain⟨f,g⟩:=wcl.1 b;simp at g;subst g;exact zmu a};refine⟨⟨by unfold zwx;simp,λi r h=>by rw[(j i r h).2];unfold zog;simp⟩,⟨V,λi r h=>?_⟩,λp⟨r,b,a⟩=>?_,λp c=>absurd c (k p),λp c=>?_,λp c=>absurd c (k p)⟩;{grind};{obtain⟨f,g⟩:=j _ _ b;rw[g,z4g]at a;exact .base ⟨f,a.2,a.1⟩};.obtain⟨b,a,f⟩:=c;exact⟨zog d e d.2.2.1.length p.1,by unfold zwx;grind,z4g.2 ⟨f,a⟩⟩
def P37(i k c:Nat)(p:Nat×Nat)(a:Nat):Prop:=p.1<i\/p.1=i/\(p.2<k\/p.2=k/\a<c)
def zy6{d:jd}(Q v:Int)(hd:DSz d)(hm:MOk d):Tn (λnn=>zaz nn d Q v) (λr=>∃all b,r=(all,b,())/\FI37 d (Zj d.2.2.1.length (aE d) (bS d v)) Q v all b/\Cl37 d (Zj d.2.2.1.length (aE d) (bS d v)) v all b):=by
 have n0:0<d.2.2.1.length:=hm.n0;have hn:=hd.n;have n2:0<=d.2.1:=hm.w.1;have n3:d.2.1<=256:=hm.w.2;have e9:d.2.2.2.1.length=d.2.2.1.length:=hm.lab;have e5:=z2e v hd hm;have e6:(Zj d.2.2.1.length (aE d) (bS d v)).length=d.2.2.1.length:=zav _ _ _;generalize Zj d.2.2.1.length (aE d) (bS d v)=L at e5 e6⊢;have b9:=ini_FI (d:=d) L Q v;generalize hN:d.2.2.1.length=N at n0 hn e9 e6 b9;unfold zaz;refine Tt.b1 ?_;rw[hN];refine Tt.loop (λm s=>∃i:Nat,i<=N/\m=N-i/\s=(Q,v,(N:Int),(i:Int),d,zwx d Q N i,replicate i (replicate (N+1) false))) N waa ⟨0,U,U,rfl⟩ λm s I nx b5=>?_;obtain⟨i,hi,h9,M⟩:=I;subst M;dsimp only;refine wab (λc=>?_) λc=>?_
 ·-- a row more
  have c:=wcj c;have m1:i<N:=U;have e8:i<d.2.2.2.1.length:=U;have f0:Ju d i=d.2.2.2.1[i]:=yf e8;have hw:w64 ((N:Int)+1)=((N+1:Nat):Int):=by rw[wI U U];rfl
  have d4:(zwx d Q N i).length=i:=by unfold zwx;simp
  refine Tt.b1 ?_;rw[hw];refine wac _ (mkN U U) (wac _ (ye (by rw[d4];simp;omega) U) (Tt.b1 ?_));rw[hw];refine wac _ (mkN U U) (wac _ (ye Wag U) ?_);have hr:(zwx d Q N i++[replicate (N+1) false])[i]?=some (replicate (N+1) false):=by
   rw[wcw U,d4];simp
  obtain⟨q1,q2,q3,_,q5⟩:=rdM (k:=0) hr V;refine wac _ q2 (wac _ q1 (wac _ (atN e8) (wac _ q3 (wac _ (q5 _) (Tt.b1 ?_)))));rw[wI U U];refine b5 (N-(i+1)) _ U ⟨i+1,U,rfl,?_⟩;have e1:(zwx d Q N i++[replicate (N+1) false]).set i ((replicate (N+1) false).set 0 (decide (d.2.2.2.1[i]=Q)))=zwx d Q N (i+1):=by
   rw[List.set_append_right _ _ U,d4];unfold zwx;rw[we5,wc8];simp only[Nat.sub_self,List.set_cons_zero,wda,wec];unfold zog;rw[f0]
  rw[e1,List.replicate_succ' (n:=i)];rfl
 -- the rounds
 have c:=wck c;obtain rfl:i=N:=U;clear c hi h9 b5 nx;refine Waj e5 waa.fst λz hz=>?_;subst hz;refine Tt.loop (λm s=>∃(C:Bool)(all b:W5),m=2*zwh b+(if C=true then 1 else 0)/\s=(v,(i:Int),z,C,d,all,b)/\FI37 d z Q v all b/\(C=false->Cl37 d z v all b)) _ waa.fst ⟨true,_,_,rfl,rfl,b9,λh=>by cases h⟩ λm s I nx b5=>?_;obtain⟨C,G,A,i0,M,hF,hC⟩:=I;subst M;dsimp only;refine wab (λc=>?_) λc=>Tt.pure ⟨G,A,rfl,hF,hC c⟩;subst c;refine Tt.loop (λm s=>∃(a:Nat)(C:Bool)(all b:W5),a<=i/\m=i-a/\s=(v,(i:Int),z,C,(a:Int),d,all,b)/\RI37 d z Q v G A (P37 a 0 0) C all b) i waa.fst.fst ⟨0,false,G,A,U,U,rfl,hF,λh=>(by cases h),λ_=>⟨rfl,rfl⟩,λ_ p c q h=>by unfold P37 at h;omega⟩ λm s I ny i3=>?_;obtain⟨a,C,all,b,ha,m4,M,O⟩:=I;subst M;dsimp only;refine wab (λc=>?_) λc=>?_
 rotate_left
 ·-- behind a round
  have c:=wck c;obtain rfl:a=i:=U;refine(b5 (2*zwh b+(if C=true then 1 else 0)) _ ?_ ⟨C,all,b,rfl,rfl,O.fi,λe=>?_⟩).fst
  ·rw[i0];cases C with
   |true=>
    have f:=O.dec rfl;show 2*zwh b+1<2*zwh A+1;omega
   |false=>
    rw[(O.same rfl).2];exact weu _
  ·obtain⟨rfl,rfl⟩:=O.same e;intro p q hp ⟨R,h8⟩;have hv:=(hF.sa p hp).val hm;exact O.pr e p R q (.inl (by have:=hv.1;omega)) hp h8
 have c:=wcj c;have l7:a<i:=U;have a0:a<d.2.2.1.length:=U;refine Tt.loop (λm s=>∃(k:Nat)(C:Bool)(all b:W5),k<=i+1/\m=i+1-k/\s=(v,(i:Int),z,C,(a:Int),(k:Int),d,all,b)/\RI37 d z Q v G A (P37 a k 0) C all b) (i+1) waa.fst.fst.fst ⟨0,C,all,b,U,U,rfl,O⟩ λm s I nz i4=>?_;clear O;obtain⟨k,C,all,b,hk,k0,M,O⟩:=I;subst M;dsimp only;refine wab (λc2=>?_) λc2=>?_
 rotate_left
 ·have c2:=wck c2;refine Tt.b1 ?_;rw[wI U U];refine(i3 (i-(a+1)) _ U ⟨a+1,C,all,b,U,rfl,rfl,O.mono λe p R q u f F=>?_⟩).fst;have hv:=(hF.sa p f).val hm;have n1:=hv.2;left;unfold P37 at u⊢;omega
 have c2:=wcj c2;have m3:k<=i:=U;obtain⟨W,hW⟩:∃W:Nat,d.2.1=(W:Int):=⟨d.2.1.toNat,U⟩
 have l6:W<=256:=U;refine Tt.loop (λm s=>∃(c:Nat)(C:Bool)(all b:W5),c<=W/\m=W-c/\s=(v,(i:Int),z,C,(a:Int),(k:Int),(c:Int),d,all,b)/\RI37 d z Q v G A (P37 a k c) C all b) W waa.fst.fst.fst.fst ⟨0,C,all,b,U,U,rfl,O⟩ λm s I nu i2=>?_;clear O;obtain⟨c,C,all,b,hc,m5,M,O⟩:=I;subst M;dsimp only;obtain⟨ra,d5,k2⟩:=O.fi.a.at (show a<d.2.2.1.length from a0);have d3:k<ra.length:=U;obtain⟨q1,q2,q3,q4,_⟩:=rdM (k:=k) d5 d3;refine Tt.J (λs=>∃t,s=(v,(i:Int),z,C,(a:Int),(k:Int),(c:Int),t,d,all,b)/\(t=true↔onM all (a,k)/\c<W)) (λnv a9=>?_) λs I=>?_
 ·refine wac _ q2 (wac _ q1 (wac _ q3 (wac _ q4 (wab (λc3=>a9 _ ⟨_,rfl,?_⟩) λc3=>a9 _ ⟨_,rfl,?_⟩))))
  ·rw[wc9];exact⟨λh=>⟨⟨ra,d5,by unfold onB;rw[wch d3,c3]⟩,U⟩,λh=>U⟩
  ·refine⟨λh=>(by cases h),λ⟨⟨r2,u,f⟩,_⟩=>?_⟩;have u:all[a]?=some r2:=u;rw[d5]at u;cases u;have f:onB ra k:=f;unfold onB at f;rw[wch d3,c3]at f;cases f
 obtain⟨t,M,ht⟩:=I;subst M;dsimp only;refine wab (λc3=>?_) λc3=>?_
 rotate_left
 ·-- behind a pair
  refine Tt.b1 ?_;rw[wI U U];refine(i4 (i+1-(k+1)) _ U ⟨k+1,C,all,b,U,rfl,rfl,O.mono λe p R q u f F=>?_⟩).fst;left;unfold P37 at u⊢;by_cases e1:p=(a,k)
  ·subst e1;right;refine⟨rfl,.inr ⟨rfl,?_⟩⟩;have e7:=(O.same e).1;have P:¬c<W:=λP=>by rw[ht.2 ⟨e7▸f,P⟩]at c3;cases c3
   have h5:=F.1;omega
  ·have e2:¬(p.1=a/\p.2=k):=λh=>e1 (Prod.ext h.1 h.2);omega
 obtain⟨i5,l8⟩:=ht.1 c3;have f4:=O.fi.sa _ i5;have B:∀(j:Nat)(hj:j<d.2.2.1.length),c<(d.2.2.1[j]).length:=λj hj=>by
  have:=hm.row j U U;rw[yf (l:=d.2.2.1) hj]at this;omega
 have c1:∀(j:Nat)(hj:j<d.2.2.1.length),nxt d j c=(d.2.2.1[j])[c]'(B j hj) /\ -1<=(d.2.2.1[j])[c]'(B j hj)/\(d.2.2.1[j])[c]'(B j hj)<i:=λj hj=>by
  have u:=zh9 hj (B j hj);have : -1<=nxt d j (c:Int)/\nxt d j (c:Int)<d.2.2.1.length:=hm.nx j c U U U U;rw[u]at this;exact⟨u,U,U⟩
 obtain⟨d7,b2,i7⟩:=c1 a a0;refine Tt.J (λs=>∃(D:Bool)(zc8 o:W5),s=(v,(i:Int),z,D,(a:Int),(k:Int),(c:Int),d,zc8,o)/\RI37 d z Q v G A (P37 a k (c+1)) D zc8 o) (λnv a9=>?_) λs I=>?_
 rotate_left
 ·obtain⟨D,zc8,o,M,Z⟩:=I;subst M;dsimp only;refine Tt.b1 ?_;rw[wI U U];exact i2 (W-(c+1)) _ U ⟨c+1,D,zc8,o,U,rfl,rfl,Z⟩
 have f8:∀p R,P37 a k (c+1) p R->P37 a k c p R\/p=(a,k)/\R=c:=λp R h=>by
  unfold P37 at h⊢;by_cases e1:p.1=a/\p.2=k/\R=c
  ·exact .inr ⟨Prod.ext e1.1 e1.2.1,e1.2.2⟩
  ·left;omega
 refine wac _ (atN a0) (wac _ (atN (B a a0)) (wab (λc4=>?_) λc4=>?_))
 ·have c4:=wcj c4;refine a9 _ ⟨C,all,b,rfl,O.mono λe p R q u f F=>?_⟩;rcases f8 p R u with h|⟨rfl,rfl⟩
  ·exact .inl h
  ·have:nxt d a (R:Int)=(q.1:Int):=F.2.1;omega
 have c4:=wck c4;obtain⟨y,hy⟩:∃y:Nat,(d.2.2.1[a])[c]'(B a a0)=(y:Int):=⟨((d.2.2.1[a])[c]'(B a a0)).toNat,U⟩
 rw[hy];rw[hy]at d7 b2 i7 c4;have n4:y<i:=U
 -- the places
 refine Tt.J (λs=>∃H:Wam Nat,s=(v,(i:Int),z,C,(a:Int),(k:Int),(c:Int),(y:Int),d,all,b,H.map λ(j:Nat)=>(j:Int))/\H.length<=2/\(∀q,E37c d z v c (a,k) q↔q.1=y/\q.2∈H)) (λnw b4=>?_) λs I=>?_
 ·refine wab (λY=>?_) λY=>?_
  ·have Y:=wcj Y;have b3:k<d.2.2.1.length:=U;obtain⟨d9,i8,i9⟩:=c1 k b3;refine wac _ (atN b3) (wac _ (atN (B k b3)) ?_);generalize (d.2.2.1[k])[c]'(B k b3)=g at d9 i8 i9;have hE:∀q,E37c d z v c (a,k) q↔q.1=y/\∃x:Nat,g=(x:Int)/\onB z x/\(q.2=x\/q.2=i/\Ju d x=v):=λq=>by
    unfold E37c;rw[hN];constructor
    ·rintro⟨_,f,F⟩;have f:nxt d a (c:Int)=(q.1:Int):=f;refine⟨U,?_⟩;rcases F with⟨F,_⟩|⟨_,x,P,h5⟩
     ·have F:k=i:=F;omega
     ·exact⟨x,d9.symm.trans P,h5⟩
    ·rintro⟨u,x,f,F⟩;exact⟨U,by rw[u];exact d7,.inr ⟨by show k<i;omega,x,d9.trans f,F⟩⟩
   refine Tt.J (λs=>∃t,s=(v,(i:Int),z,C,(a:Int),(k:Int),(c:Int),(y:Int),g,t,d,all,b,[])/\(t=true↔∃x:Nat,g=(x:Int)/\onB z x)) (λnt f3=>?_) λs I=>?_
   ·refine Tt.b1 (wab (λS=>?_) λS=>?_)
    ·have S:=wcj S;obtain⟨x,rfl⟩:∃x:Nat,g=(x:Int):=⟨g.toNat,U⟩
     have a7:x<z.length:=U;refine wac _ (atN a7) (f3 _ ⟨_,rfl,?_⟩);constructor
     ·intro h;exact⟨x,rfl,by unfold onB;rw[wch a7,h]⟩
     ·rintro⟨x2,u,f⟩;have:x=x2:=U;subst this;unfold onB at f;rw[wch a7]at f;exact wd5 f
    ·have S:=wck S;exact f3 _ ⟨false,rfl,⟨λh=>(by cases h),λ⟨x,h,_⟩=>U⟩⟩
   obtain⟨t,M,f9⟩:=I;subst M;dsimp only;refine wab (λS=>?_) λS=>?_
   ·obtain⟨x,rfl,a7⟩:=f9.1 S;have g7:x<d.2.2.2.1.length:=U;have f1:Ju d x=d.2.2.2.1[x]:=yf g7;refine wac _ (ye V U) (wac _ (atN g7) (wab (λc7=>?_) λc7=>?_))
    ·have c7:=wcj c7;refine wac _ (ye V U) (b4 _ ⟨[x,i],rfl,V,λq=>?_⟩);rw[hE];constructor
     ·rintro⟨u,x2,f,F,P⟩;have:x=x2:=U;subst this;exact⟨u,by rcases P with P|⟨P,_⟩<;>simp[P]⟩
     ·rintro⟨u,f⟩;simp only[wdb,List.not_mem_nil,or_false]at f;exact⟨u,x,rfl,a7,f.imp id λh=>⟨h,f1.trans c7⟩⟩
    ·have c7:=wck c7;refine b4 _ ⟨[x],rfl,V,λq=>?_⟩;rw[hE];constructor
     ·rintro⟨u,x2,f,F,P⟩;have:x=x2:=U;subst this;rcases P with P|⟨_,P⟩
      ·exact⟨u,by simp[P]⟩
      ·exact absurd (f1.symm.trans P) c7
     ·rintro⟨u,f⟩;exact⟨u,x,rfl,a7,.inl (by simpa using f)⟩
   ·refine b4 _ ⟨[],rfl,V,λq=>?_⟩;rw[hE];constructor
    ·rintro⟨_,x,f,F,_⟩;rw[f9.2 ⟨x,f,F⟩]at S;cases S
    ·rintro⟨_,h⟩;cases h
  ·have Y:=wck Y;obtain rfl:k=i:=U;refine b4 _ ⟨[k],rfl,V,λq=>?_⟩;unfold E37c;rw[hN];constructor
   ·rintro⟨_,f,F⟩;have f:nxt d a _=(q.1:Int):=f;refine⟨U,?_⟩;rcases F with⟨_,F⟩|⟨F,_⟩
    ·simp[F]
    ·have F:k<k:=F;omega
   ·rintro⟨u,f⟩;exact⟨U,by rw[u];exact d7,.inl ⟨rfl,by simpa using f⟩⟩
 obtain⟨H,M,m8,hE⟩:=I;subst M;dsimp only;have f6:∀j∈H,j<=i:=λj hj=>by
  have:=((hE (y,j)).2 ⟨rfl,hj⟩).val hm (f4.val hm);have:=this.2;omega
 refine Tt.loop (λm s=>∃(j:Nat)(D:Bool)(zc8 o:W5),j<=H.length/\m=H.length-j/\s=(v,(i:Int),z,D,(a:Int),(k:Int),(c:Int),(y:Int),(j:Int),d,zc8,o,H.map λ(j:Nat)=>(j:Int))/\RI37 d z Q v G A (P37 a k c) D zc8 o/\(D=false->∀j',j'<j->∀x,H[j']?=some x->onM A (y,x))) H.length waa.fst.fst.fst.fst.fst ⟨0,C,all,b,U,U,rfl,O,λ_ j' h=>U⟩ λm s I no i1=>?_;obtain⟨j,D,zc8,o,hj,m6,M,Z,f5⟩:=I;subst M;dsimp only;refine wab (λY=>?_) λY=>?_
 rotate_left
 ·have Y:=wck Y;have a6:H.length<=j:=by simp at Y;omega
  refine(a9 _ ⟨D,zc8,o,rfl,Z.mono λe p R q u f F=>?_⟩).fst;rcases f8 p R u with h|⟨rfl,rfl⟩
  ·exact .inl h
  ·right;obtain⟨P,h5⟩:=(hE q).1 F;obtain⟨j',h6⟩:=wdc h5;have:=f5 e j' (by have:=(wcl.1 h6).1;omega) q.2 h6;rwa [<- P]at this
 have Y:=wcj Y;have a6:j<H.length:=by simpa using Y
 have T:atL (H.map λ(j:Nat)=>(j:Int)) (j:Int)=some ((H[j]:Nat):Int):=by
  rw[atN (by simpa using a6)];simp
 have b0:jq (H.map λ(j:Nat)=>(j:Int)).length (j:Int)=some (j:Int):=vn (by simpa using a6);have g8:=f6 H[j] (wcm a6);have g0:=(hE (y,H[j])).2 ⟨rfl,wcm a6⟩;have c8:H[j]?=some H[j]:=wch a6;generalize H[j]=x at T g8 g0 c8;obtain⟨sa,f7,k3⟩:=Z.fi.a.at (show y<d.2.2.1.length by omega);obtain⟨sg,d6,k4⟩:=Z.fi.g.at (show y<d.2.2.1.length by omega);have g6:x<sa.length:=U;have d8:x<sg.length:=U;obtain⟨a1,a2,a3,a4,a5⟩:=rdM (k:=x) f7 g6;obtain⟨g1,g2,g3,g4,g5⟩:=rdM (k:=x) d6 d8;refine Tt.J (λs=>∃b6,s=(v,(i:Int),z,b6,(a:Int),(k:Int),(c:Int),(y:Int),(j:Int),d,zc8,o,H.map λ(j:Nat)=>(j:Int))/\(b6=true↔D=true\/sg[x]=false)) (λnp f2=>?_) λs I=>?_
 ·refine wab (λS=>f2 _ ⟨true,rfl,⟨λ_=> .inl S,λ_=>rfl⟩⟩) λS=>?_;refine wac _ g2 (wac _ g1 (wac _ b0 (wac _ T (wac _ g3 (wac _ g4 (f2 _ ⟨_,rfl,?_⟩))))));rw[S];simp
 obtain⟨b6,M,c0⟩:=I;subst M;dsimp only;refine wac _ a2 (wac _ a1 (wac _ b0 (wac _ T (wac _ a3 (wac _ (a5 true) (wac _ g2 (wac _ g1 (wac _ b0 (wac _ T (wac _ g3 (wac _ (g5 true) (Tt.b1 ?_))))))))))));rw[wI U U];have c9:=Z.put f7 d6 g6 d8 ⟨(a,k),f4,c,g0⟩ c0;refine i1 (H.length-(j+1)) _ U ⟨j+1,b6,_,_,U,rfl,rfl,c9,λe j' m2 x2 b2=>?_⟩;have u:D=false:=by
  cases hh:D with
  |false=>rfl
  |true=>rw[c0.2 (.inl hh)]at e;cases e
 by_cases e2:j'=j
 ·subst e2;rw[c8]at b2;cases b2;have f:=(c9.same e).2;rw[<- f];exact(zjq d6 d8).2 (.inl rfl)
 ·exact f5 u j' U x2 b2
def onM_lt{m:W5}{p:Nat×Nat}(h:onM m p):p.1<m.length:=by obtain⟨r,a,_⟩:=h;grind
section
variable{d:jd}{L:List Bool}{la lb:Int}{all got:List (List Bool)}{dp:List (Nat × Nat)}{bad:Bool}
def St37.mem(a:St37 d L la lb dp [] bad){p:Nat×Nat}:p∈dp↔R37 d L la lb p:=by have e:∀q,q∈dp++[]↔q∈dp:=λq=>V;constructor;{exact λh=>a.rch p ((e p).2 h)};.intro h;induction h with|base h=>{exact(e _).1 (a.st _ h)}|step _ h b=>exact(e _).1 (a.cl _ b _ h)
def St37.bad37(e:St37 d L la lb dp [] bad):bad=true↔∃q,G37 d L la lb q/\0<=Ju d q.1:=by rw[e.bd];constructor;{rintro⟨p,c,q,a,b⟩;exact⟨q,⟨p,e.mem.1 c,a⟩,b⟩};.rintro⟨q,⟨p,c,a⟩,b⟩;exact⟨p,e.mem.2 c,q,a,b⟩
end
section
variable{g:jb}{d:jd}{tb:List (List Int)}{df:jc}{la lb:Int}{dp:List (Nat × Nat)}{bad:Bool}
def zia(P:DSz d)(hm:MOk d)(Y:Tn (λM=>J2 M (g,d,tb,df,()) la lb) (λr=>r=true))(A:St37 d (Zj d.2.2.1.length (aE d) (bS d lb)) la lb dp [] bad):Tn (λM=>Vn M (g,d,tb,df,()) la lb) (λr=>r=(dp.length:Int)):=by
 unfold Vn;refine Waj Y waa λt ht=>?_;subst ht;refine wae rfl (Waj (zy6 la lb P hm) waa λr w=>?_);obtain⟨all,got,w,C,T⟩:=w;subst w;obtain⟨f,_⟩:=C.all T;have Q:=P.n;have l:∀p,onM all p->p.1<d.2.2.1.length/\p.2<=d.2.2.1.length:=λp q=>((f p).1 q).val hm;have G:=C.a.len;have O:=C.a;generalize hN:d.2.2.1.length=N at Q l G O;have y:∀b:Wam (Nat×Nat),b.Nodup->(∀p∈b,onM all p)->b.length<=1000000:=λb u v=>by{have h3:=zx3 u λp q=>l p (v p q);have:N*(N+1)<=300*301:=Nat.mul_le_mul Q U;omega};refine Tt.loop (λm s=>∃(i:Nat)(b:Wam (Nat×Nat)),i<=N/\m=N-i/\s=(all,(b.length:Int),(i:Int))/\b.Nodup/\∀p,p∈b↔onM all p/\p.1<i) N waa ⟨0,[],U,Wab,rfl,List.nodup_nil,λp=>V⟩ λm s x nx H=>?_;obtain⟨i,b,hi,Z,rfl,e,k⟩:=x;dsimp only;refine wad (λc=>?_) λc=>Tt.pure ?_;rotate_left
 {have u:=z6l e λp q=>A.mem.2 ((f p).1 ((k p).1 q).1);have v:=z6l (by have:=A.nd;grind) λp q=>(k p).2 ⟨(f p).2 (A.mem.1 q),by have:=l p ((f p).2 (A.mem.1 q));omega⟩;omega};have D:i<N:=U;obtain⟨r,w,a1⟩:=O.at D;refine Tt.loop (λm s=>∃(j:Nat)(b:Wam (Nat×Nat)),j<=N+1/\m=N+1-j/\s=(all,(b.length:Int),(i:Int),(j:Int))/\b.Nodup/\∀p,p∈b↔onM all p/\(p.1<i\/p.1=i/\p.2<j)) (N+1) waa.fst ⟨0,b,U,Wab,rfl,e,λp=>X⟩ λm s x ny I=>?_;clear e k;obtain⟨j,b,hj,a0,rfl,e,k⟩:=x;dsimp only;have R:atL all (i:Int)=some r:=by{assumption};refine wac _ R (wad (λS=>?_) λS=>?_);rotate_left
 {refine wai ?_;refine(H (N-(i+1)) _ U ⟨i+1,b,U,rfl,rfl,e,λp=>?_⟩).fst;grind};have F:j<r.length:=U;have hl:=y b e λp q=>((k p).1 q).1;refine Tt.J (λs=>∃o:Wam (Nat×Nat),s=(all,(o.length:Int),(i:Int),(j:Int))/\o.Nodup/\∀p,p∈o↔onM all p/\(p.1<i\/p.1=i/\p.2<j+1)) (λnv z=>?_) λs x=>?_;rotate_left
 {obtain⟨o,rfl,u,v⟩:=x;dsimp only;refine wai ?_;exact I (N+1-(j+1)) _ U ⟨j+1,o,U,rfl,rfl,u,v⟩};have L:onM all (i,j)↔r[j]=true:=by{constructor;{rintro⟨r2,u,v⟩;have u:=u;rw[w]at u;cases u;have v:=v;unfold onB at v;grind};.intro h;exact⟨r,w,by unfold onB;grind⟩};have a2:∀p,(p.1<i\/p.1=i/\p.2<j+1)↔(p.1<i\/p.1=i/\p.2<j)\/p=(i,j):=λp=>by{grind};refine wac _ R (Tt.at F (wab (λB=>?_) λB=>?_));{have B:=L.2 B;refine wai ?_;refine z _ ⟨b++[(i,j)],V,zxi e λh=>?_,λp=>?_⟩;{grind};grind};.have c4:¬onM all (i,j):=λh=>X;refine z _ ⟨b,rfl,e,λp=>?_⟩;grind
def zgx(H:DSz d)(hm:MOk d)(T:Tn (λF=>J2 F (g,d,tb,df,()) la lb) (λr=>r=true))(hs:St37 d (Zj d.2.2.1.length (aE d) (bS d lb)) la lb dp [] bad):Tn (λF=>Qr F (g,d,tb,df,()) la lb) (λr=>r = !bad):=by
 unfold Qr;refine Waj T waa λt O=>?_;subst O;refine wae rfl (Waj (zy6 la lb H hm) waa λr f=>?_);obtain⟨all,got,f,v,S⟩:=f;subst f;obtain⟨_,I⟩:=v.all S;have hn:=H.n;have o:=hm.lab;have u:∀p,onM got p->p.1<d.2.2.1.length:=λp hp=>by{rw[<- v.g.len];exact onM_lt hp};have A:=v.g.len;have G:=v.g;have hb:=hs.bad37;generalize hN:d.2.2.1.length=N at hn u A G o;refine Tt.loop (λm s=>∃i,i<=N/\m=N-i/\s=(got,(i:Int),(g,d,tb,df,()))/\∀p,onM got p->p.1<i->¬0<=Ju d p.1) N waa ⟨0,U,Wab,rfl,λp _ h=>U⟩ λm s k nx B=>?_;obtain⟨i,hi,Y,rfl,b⟩:=k;dsimp only;refine wad (λc=>?_) λc=>Tt.pure ?_;rotate_left
 {grind};have y:i<N:=U;have l:i<d.2.2.2.1.length:=U;have L:Ju d i=d.2.2.2.1[i]:=yf l;obtain⟨r,f,D⟩:=G.at y;refine Tt.loop (λm s=>∃j,j<=N+1/\m=N+1-j/\s=(got,(i:Int),(j:Int),(g,d,tb,df,()))/\∀p,onM got p->(p.1<i\/p.1=i/\p.2<j)->¬0<=Ju d p.1) (N+1) waa.fst ⟨0,U,Wab,rfl,λp a e=>b p a U⟩ λm s k ny C=>?_;clear b;obtain⟨j,hj,Z,rfl,b⟩:=k;dsimp only;have P:atL got (i:Int)=some r:=by{assumption};have M:∀p,onM got p->p.1=i->p.2<N+1:=λp a e=>by{obtain⟨r2,x,R⟩:=a;rw[e,f]at x;cases x;rw[<- D];exact(wcl.1 R).1};refine wac _ P (wad (λQ=>?_) λQ=>?_);rotate_left
 {refine wai ?_;exact(B (N-(i+1)) _ U ⟨i+1,U,rfl,rfl,λp a e=>b p a X⟩).fst};have z:j<r.length:=U;have a1:onM got (i,j)↔r[j]=true:=by{constructor;{rintro⟨r2,a,e⟩;have a:=a;rw[f]at a;cases a;have e:=e;unfold onB at e;grind};.intro h;exact⟨r,f,by unfold onB;grind⟩};refine Tt.J (λs=>∃t,s=(got,(i:Int),(j:Int),t,(g,d,tb,df,()))/\(t=true↔onM got (i,j)/\0<=Ju d i)) (λnv q=>?_) λs k=>?_;{refine wac _ P (Tt.at z (wab (λw=>?_) λw=>(q _ ⟨false,rfl,λh=>X,λh=>X⟩)));.refine Tt.at l (q _ ⟨_,rfl,?_⟩);grind};obtain⟨t,rfl,O⟩:=k;dsimp only;refine wab (λw=>Tt.pure ?_) λw=>?_;{grind};.refine wai ?_;refine C (N+1-(j+1)) _ U ⟨j+1,U,rfl,rfl,λp a e x=>?_⟩;grind
end
section
variable{ι α β:Type}{D:Fi ι}
def wby{l:Wam α}{x y:ι->Wal β}{Q:β->Prop}(h0:l=[]->Tt D x Q)(b:l≠[]->Tt D y Q):Tt D (λi=>Go.Proofs.YtigdmmgklieofaaGreat.T.nilC l (x i) (y i)) Q:=by cases l with|nil=>{exact h0 rfl}|cons a l=>exact b V
def jii{l:Wam α}(h:l≠[]):z06 l=some false:=by cases l with|nil=>{grind}|cons a l=>rfl
def jb4{b:Nat}{l:Wam α}(a:l.length<=maxLen)(c:l.length*b<=140737488355328):apO b [] l=some l:=by unfold apO;grind
def set_id{l:Wam α}{i:Nat}{a:α}(h:i<l.length)(e:a=l[i]):l.set i a=l:=by simp_all
def wbl{l:Wam α}{i:Nat}{f:α->α}{k:ι->Wam α->Wal β}{Q:β->Prop}(h:i<l.length)(e:f l[i]=l[i])(c:Tt D (λj=>k j l) Q):Tt D (λj=>ja (jq l.length (i:Int)) λa=>ja (ja (atL l a) λb1=>yi l a (f b1)) λb=>k j b) Q:=by refine wac _ (vn h) (wac l ?_ c);rw[atN h];show yi l (i:Int) (f l[i])=some l;rw[yw _ h,set_id h e]
end
structure GItems(g:jb):Prop where
 t:∀x∈g.1,x.2.1.length<=1000000
 n:g.1.length<=1000000/\g.2.1.length<=1000000/\g.2.2.1.length<=1000000
 p:∀x∈g.2.2.1,x.2.1.length*32<=140737488355328
def jps(g:jb)(f:GItems g):Tn (λB=>Jh B g) (λr=>r=g):=by obtain⟨d,h,ps,k,l,o,q,v,u⟩:=g;have C:d.length<=1000000:=f.n.1;have D:h.length<=1000000:=f.n.2.1;have F:ps.length<=1000000:=f.n.2.2;unfold Jh;dsimp only;refine Tt.J (λs=>s=(h,ps,k,l,o,q,v,([],[],[],0,0,0,0,0,()),d)) (λj a=>?_) λs x=>?_;{refine wby (λe=>a _ ?_) λe=>wac _ (jii e) (wae rfl (wac _ (jb4 (by unfold maxLen;omega) U) (a _ rfl)));grind};subst x;dsimp only;refine Tt.loop (λm s=>∃i,i<=d.length/\m=d.length-i/\s=((d.length:Int),(i:Int),h,ps,k,l,o,q,v,([],[],[],0,0,0,0,0,()),d)) d.length waa ⟨0,U,Wab,rfl⟩ λm s w j a=>?_;obtain⟨i,y,z,rfl⟩:=w;dsimp only;refine wad (λc=>?_) λc=>?_;{have b:i<d.length:=U;have A:=f.t d[i] (wcm b);refine waj b (Tt.at b (wac _ (jb4 (by unfold maxLen;omega) U) ?_));refine wbl b rfl (wai ?_);exact a (d.length-(i+1)) _ U ⟨i+1,U,rfl,rfl⟩};clear a j;refine wac _ (jb4 (by unfold maxLen;omega) U) ?_;refine Tt.J (λs=>s=(k,l,o,q,v,([],[],[],0,0,0,0,0,()),d,h,ps)) (λj a=>?_) λs x=>?_;{refine wby (λe=>a _ ?_) λe=>wac _ (jii e) (wae rfl (wac _ (jb4 (by unfold maxLen;omega) U) (a _ rfl)));grind};subst x;dsimp only;refine Tt.loop (λm s=>∃i,i<=ps.length/\m=ps.length-i/\s=((ps.length:Int),(i:Int),k,l,o,q,v,([],[],[],0,0,0,0,0,()),d,h,ps)) ps.length waa.fst ⟨0,U,Wab,rfl⟩ λm s w j a=>?_;clear c z y;obtain⟨i,y,z,rfl⟩:=w;dsimp only;refine wad (λc=>?_) λc=>Tt.pure rfl;have b:i<ps.length:=U;have A:=f.p ps[i] (wcm b);refine waj b (Tt.at b (wac _ (jb4 (by unfold maxLen;omega) U) ?_));refine wbl b rfl (wai ?_);exact a (ps.length-(i+1)) _ U ⟨i+1,U,rfl,rfl⟩
def jto{l:W4}(h:l.length<=1000000)(e:∀x∈l,x.length<=1000000):Tn (λf=>V9 f l) (λr=>r=l):=by unfold V9;refine Tt.loop (λm s=>∃i,i<=l.length/\m=l.length-i/\s=(l,(l.length:Int),(i:Int),l.take i)) l.length waa ⟨0,U,Wab,rfl⟩ λm s d k b=>?_;obtain⟨i,g,j,rfl⟩:=d;dsimp only;refine wad (λc=>?_) λc=>Tt.pure ?_;{have a:i<l.length:=U;refine Tt.at a (wac _ (sm7 (e _ (wcm a))) (wac _ (ye X U) (wai ?_)));rw[<- wcp a];exact b (l.length-(i+1)) _ U ⟨i+1,U,rfl,rfl⟩};grind
set_option maxRecDepth 100000
def jfx(x:Int):W7->W7
 |[]=>[x]
 |y::l=>match decide (x<=y)with
  |true=>x::y::l
  |false=>y::jfx x l
def jsz:W7->W7
 |[]=>[]
 |x::l=>jfx x (jsz l)
def zr1(x:Int):∀l:W7,(jfx x l).Perm (x::l)
 |[]=>List.Perm.refl _
 |y::l=>by unfold jfx;split;{exact List.Perm.refl _};.exact((zr1 x l).cons y).trans (List.Perm.swap x y l)
def z9y(x:Int):∀l:W7,l.Pairwise (·<=·)->(jfx x l).Pairwise (·<=·)
 |[],_=>by simp[jfx]
 |y::l,h=>by
  rw[wdj]at h;unfold jfx;split
  .rename_i c;have c:=wcj c;rw[wdj,wdj];exact⟨λz hz=>by
    rcases wdb.1 hz with rfl|hz;{exact c};.exact Int.le_trans c (h.1 z hz),h⟩
  .rename_i c;have c:=wck c;rw[wdj];refine⟨λz hz=>?_,z9y x l h.2⟩;rcases wdb.1 ((zr1 x l).mem_iff.1 hz)with rfl|hz;{omega};.exact h.1 z hz
def zxv:∀l:W7,(jsz l).Perm l/\(jsz l).Pairwise (·<=·)
 |[]=>⟨List.Perm.refl _,List.Pairwise.nil⟩
 |x::l=>⟨(zr1 x _).trans ((zxv l).1.cons x),z9y x _ (zxv l).2⟩
def jja:∀{l m:W7},l.Pairwise (·<=·)->m.Pairwise (·<=·)->l.Perm m->l=m
 |[],m,_,_,h=>(List.nil_perm.1 h).symm
 |x::l,[],_,_,h=>by have:=h.length_eq;simp at this
 |x::l,y::m,a,b,h=>by rw[wdj]at a b;have c:x<=y:=by{rcases wdb.1 (h.mem_iff.2 (by simp:y∈y::m))with e|e;{omega};.exact a.1 y e};have d:y<=x:=by{rcases wdb.1 (h.mem_iff.1 (by simp:x∈x::l))with e|e;{omega};.exact b.1 x e};have e:x=y:=U;subst e;rw[jja a.2 b.2 (h.cons_inv)]
def jlb:ze1=jsz:=funext λl=>jja (zkb l) (zxv l).2 ((List.mergeSort_perm l _).trans (zxv l).1.symm)
def jvt(a:Nat):Vq (a+300)=some true:=by unfold Vq zg V3 zr zz;simp only[jlb];kernel_rfl
def zhv:Tn (λa=>Vq a) (λb=>b=true):=⟨true,⟨300,λn c=>by
 obtain⟨k,rfl⟩:∃k,n=k+300:=⟨n-300,U⟩
 exact jvt k⟩,rfl⟩
def jbi(g:jb)(e:jsj g):Tn (λi=>zbe i g) (λb=>b=true->GBu g):=by
 unfold zbe;refine Tt.J (λb=>b=true->GBu g) (λk a=>?_) λs f=>Tt.pure f;exact Waj (jjq g e) waa λb d=>(wab (λc=>wab (λj=>a _ λ_=>d c) λ_=>a _ λh=>X) λ_=>a _ λh=>X)
def df0(a:jc):Bool:=zwu [a.1 == 0,a.2.1 == 0,a.2.2.1 == 0]
def jwx{a:jc}(h:df0 a=true):a.1=0:=by unfold df0 at h;simp[zwu]at h;omega
def jvo(g:jb)(c:jc)(a b:Int):Prop:=df0 c=true/\(0<=a/\a<(g.1.length:Int))/\0<=b/\b<(g.1.length:Int)
def jme{g:jb}{d:jd}{v:W4}{f:jc}{i j:Int}(u:df0 f=true->Tn (λp=>Ja p d.1) (λx=>x=d.2.1)):Tn (λp=>J2 p (g,d,v,f,()) i j) (λb=>b=true↔jvo g f i j):=by
 unfold J2;dsimp only;refine Tt.b1 (Tt.J (λb=>b=true↔jvo g f i j) (λw a=>?_) λs t=>Tt.pure t);refine Tt.b1 (x:=df0 f) (wab (λc=>?_) λc=>a _ ⟨λh=>X,λh=>by rw[h.1]at c;grind⟩);have k:¬jvo g f i j->(false=true↔jvo g f i j):=λh=>⟨λh=>X,λq=>absurd q h⟩
 refine wad (λl=>?_) λl=>a _ (k λh=>absurd h.2.1.1 l);refine wad (λm=>?_) λm=>a _ (k λh=>absurd h.2.1.2 m);refine wad (λn=>?_) λn=>a _ (k λh=>absurd h.2.2.1 n);refine wad (λo=>?_) λo=>a _ (k λh=>absurd h.2.2.2 o);refine Waj (u c) waa λe r=>a _ ?_;rw[r];exact⟨λ_=>⟨c,⟨l,m⟩,n,o⟩,λ_=>wdh rfl⟩
def setOk_of2{s:Wb}(h:∀x∈s.l,OkI .u64 x):ze0 s:=λk=>by by_cases a:k<s.l.length;{have e:s.l.getD k 0=s.l[k]:=X;rw[e];exact OkI.u64 (h _ (wcm a))};grind
def big47{n b:Nat}(h:n*b<=reachBytes)(e:b=32):n*32<=140737488355328:=by subst e;exact wdv h Wah
def jkg(l:W8)(h:l.length<=1000):Tn (λf=>Y8 f l l) (λb=>b=true):=by unfold Y8;refine wae V (Tt.loop (λm s=>∃k,k<=l.length/\m=l.length-k/\s=(l,l,(k:Int))) l.length waa ⟨0,U,Wab,rfl⟩ λm s e j d=>?_);obtain⟨k,g,i,rfl⟩:=e;dsimp only;refine wad (λc=>?_) λc=>Tt.pure rfl;have a:k<l.length:=U;refine Tt.at a (Tt.at a (wae V (wai ?_)));exact d (l.length-(k+1)) _ U ⟨k+1,U,rfl,rfl⟩
def tRow(F:Nat×Nat->Nat×Bool)(a b:Nat):W8:=(range b).map λk=>!(F (a,k)).2
def jn7{F:Nat×Nat->Nat×Bool}{a b:Nat}:tRow F a (b+1)=tRow F a b++[!(F (a,b)).2]:=by unfold tRow;rw[we5,wc8];rfl
def jed{F:Nat×Nat->Nat×Bool}{a b:Nat}:(tRow F a b).length=b:=by simp[tRow]
def z9j(F:Nat×Nat->Nat×Bool)(n a:Nat):W5:=(range a).map λk=>tRow F k n
def tTab_s{F:Nat×Nat->Nat×Bool}{n a:Nat}:z9j F n (a+1)=z9j F n a++[tRow F a n]:=by unfold z9j;rw[we5,wc8];rfl
def jms{F:Nat×Nat->Nat×Bool}{n a:Nat}:(z9j F n a).length=a:=by simp[z9j]
def zjt(F:Nat×Nat->Nat×Bool)(n a b:Nat):W5:=(range n).map λk=>if k<a then tRow F k n else if k=a then tRow F k b else []
def z8h{F:Nat×Nat->Nat×Bool}{n a b:Nat}:(zjt F n a b).length=n:=by simp[zjt]
def tOut_0{F:Nat×Nat->Nat×Bool}{n:Nat}:replicate n ([]:W8)=zjt F n 0 0:=by refine wdp λi=>?_;simp[zjt,wcv,wd7];by_cases h:i<n;{simp[h,tRow]};grind
def tOut_a{F:Nat×Nat->Nat×Bool}{n a:Nat}:zjt F n a n=zjt F n (a+1) 0:=by refine wdp λi=>?_;simp[zjt,wcv];by_cases h:i<n;{rw[List.getElem?_range h];simp[wc5];by_cases b:i<a;{grind};.rw[if_neg b];by_cases c:i=a;{grind};.rw[if_neg c,if_neg U];by_cases d:i=a+1;{rw[if_pos d];rfl};grind};grind
def tOut_n{F:Nat×Nat->Nat×Bool}{n:Nat}:zjt F n n 0=z9j F n n:=by refine wd9 λk a=>?_;grind
def tOut_g{F:Nat×Nat->Nat×Bool}{n a b:Nat}(h:a<(zjt F n a b).length):(zjt F n a b)[a]=tRow F a b:=by simp[zjt]
def tOut_s{F:Nat×Nat->Nat×Bool}{n a b:Nat}:(zjt F n a b).set a (tRow F a (b+1))=zjt F n a (b+1):=by refine wdp λi=>?_;rw[wdf];by_cases h:a=i;{subst h;rw[if_pos rfl,z8h];by_cases c:a<n;{rw[if_pos c,zjt,wcv,List.getElem?_range c];simp};.rw[if_neg c,wee (by rw[z8h];omega)]};.rw[if_neg h];simp[zjt,wcv];grind
def TabS(F:Nat×Nat->Nat×Bool)(n:Nat)(P:Int)(r:W5×Int×Unit):Prop:=
 (r=([],22,())/\∃a b,a<n/\b<n/\P<((F (a,b)).1:Int))\/(r=(z9j F n n,0,())/\∀a b,a<n->b<n->((F (a,b)).1:Int)<=P)
def TabS.uniq{F:Nat×Nat->Nat×Bool}{n:Nat}{P:Int}{r s:W5×Int×Unit}(h:TabS F n P r)(k:TabS F n P s):r=s:=by
 rcases h with⟨c,a,b,m,o,d⟩|⟨c,d⟩<;>rcases k with⟨g,j,l,e,f,i⟩|⟨g,i⟩
 {grind};{grind};{grind};grind
def jh7{α:Type}{p:Nat->Wal α}{x y:α}(h:Tn p (λr=>r=x))(k:Tn p (λr=>r=y)):x=y:=by obtain⟨a,⟨N,c⟩,rfl⟩:=h;obtain⟨b,⟨M,e⟩,rfl⟩:=k;have d:=c (N+M) U;grind
def jjo{g:jb}{d:jd}{o:W4}{e:jc}{F:Nat×Nat->Nat×Bool}{n:Nat}(O:g.1.length=n)(L:n<=6)(B:df0 e=true)
  (A:∀a b,a<n->b<n->Tn (λl=>Vn l (g,d,o,e,()) a b) (λr=>r=((F (a,b)).1:Int))) (z:∀a b,a<n->b<n->Tn (λl=>Qr l (g,d,o,e,()) a b) (λr=>r = !(F (a,b)).2)) :
  Tn (λl=>Yv l (g,d,o,e,())) (λr=>TabS F n g.2.2.2.2.2.2.2.1 r):=by
 unfold Yv;refine Tt.b1 (x:=df0 e) (wae X ?_);refine Tt.loop (λm s=>∃a,a<=n/\m=n-a/\s=((a:Int),(g,d,o,e,()),z9j F n a)/\∀i j,i<a->j<n->((F (i,j)).1:Int)<=g.2.2.2.2.2.2.2.1) n waa ⟨0,U,Wab,rfl,λi j h=>U⟩ λm s p P t=>?_;obtain⟨a,f,N,rfl,q⟩:=p;dsimp only;refine wad (λc=>?_) λc=>?_
 ·have f:a<n:=U;refine Tt.loop (λm s=>∃b,b<=n/\m=n-b/\s=((a:Int),(b:Int),(g,d,o,e,()),z9j F n a,tRow F a b)/\∀j,j<b->((F (a,j)).1:Int)<=g.2.2.2.2.2.2.2.1) n waa.fst ⟨0,U,Wab,rfl,λj h=>U⟩ λm s p Q u=>?_;obtain⟨b,k,G,rfl,D⟩:=p;dsimp only;refine wad (λw=>?_) λw=>?_
  ·have k:b<n:=U;refine Waj (A a b f k) waa.fst.fst λx H=>?_;rw[H];refine wad (λv=>Tt.pure (.inl ⟨rfl,a,b,f,k,v⟩)) λv=>?_;refine Waj (z a b f k) waa.fst.fst λy I=>?_;rw[I];refine wac _ (ye (by rw[jed];grind) U) (wai ?_);rw[<- jn7];refine u (n-(b+1)) _ U ⟨b+1,U,rfl,rfl,λj C=>?_⟩
   grind
  ·have k:b=n:=U;subst k;refine wac _ (ye (by rw[jms];grind) U) (wai ?_);rw[<- tTab_s];refine(t (b-(a+1)) _ U ⟨a+1,U,rfl,rfl,λi j M C=>?_⟩).fst
   grind
 ·have f:a=n:=U;subst f;exact Tt.pure (.inr ⟨rfl,q⟩)
def SpT(F:Nat×Nat->Nat×Bool)(g:jb)(a:jc)(t:W5×Int×Unit):Prop:=(df0 a=false/\t=([],3,()))\/(df0 a=true/\TabS F g.1.length g.2.2.2.2.2.2.2.1 t)
def SpT.uniq{F:Nat×Nat->Nat×Bool}{g:jb}{a:jc}{r s:W5×Int×Unit}(h:SpT F g a r)(k:SpT F g a s):r=s:=by
 rcases h with⟨d,b⟩|⟨d,b⟩<;>rcases k with⟨e,c⟩|⟨e,c⟩
 {grind};{grind};{grind};.exact b.uniq c
def SpT.small{F:Nat×Nat->Nat×Bool}{g:jb}{a:jc}{t:W5×Int×Unit}(h:SpT F g a t)(c:g.1.length<=6):t.1.length<=1000/\∀x∈t.1,x.length<=1000:=by rcases h with⟨_,h⟩|⟨_,⟨h,_⟩|⟨h,_⟩⟩<;>subst h;{simp};{simp};.refine⟨by rw[jms];omega,λx b=>?_⟩;obtain⟨k,_,rfl⟩:=wc6.1 b;rw[jed];omega
def jws(g:jb)(r:jd×W4×jc×Unit)(F:Nat×Nat->Nat×Bool):Prop:=∀a b:Nat,a<g.1.length->b<g.1.length ->
 (∀e c,St37 r.1 (Zj r.1.2.2.1.length (aE r.1) (bS r.1 b)) a b e [] c->e.length=(F (a,b)).1/\c=(F (a,b)).2)/\Tn (λd=>Vn d (g,r.1,r.2.1,r.2.2.1,()) a b) (λx=>x=((F (a,b)).1:Int))/\Tn (λd=>Qr d (g,r.1,r.2.1,r.2.2.1,()) a b) (λx=>x = !(F (a,b)).2)
def jrz{g:jb}{r:jd×W4×jc×Unit}(l:df0 r.2.2.1=true)(e:DSz r.1)(f:MOk r.1)(t:Tn (λi=>Ja i r.1.1) (λx=>x=r.1.2.1)):∃F,jws g r F:=by have h:∀p:Nat×Nat,∃y:Nat×Bool,p.1<g.1.length->p.2<g.1.length->(∀k c,St37 r.1 (Zj r.1.2.2.1.length (aE r.1) (bS r.1 p.2)) p.1 p.2 k [] c->k.length=y.1/\c=y.2)/\Tn (λi=>Vn i (g,r.1,r.2.1,r.2.2.1,()) p.1 p.2) (λx=>x=(y.1:Int))/\Tn (λi=>Qr i (g,r.1,r.2.1,r.2.2.1,()) p.1 p.2) (λx=>x = !y.2):=λ⟨a,b⟩=>by{obtain⟨z,_,sp,m,_⟩:=jw6 e f (Zj r.1.2.2.1.length (aE r.1) (bS r.1 b)) a b r.1.1 r.1.2.1 r.1.2.2.1;obtain⟨A,_,k,c,d,_⟩:=jwq e f _ (zav _ _ _) a b m;refine⟨(k.length,c),λv w=>?_⟩;have j:Tn (λi=>J2 i (g,r.1,r.2.1,r.2.2.1,()) a b) (λx=>x=true):=(jme λ_=>t).mono λx u=>u.2 ⟨l,⟨U,U⟩,U,U⟩;refine⟨λq n o=>⟨?_,?_⟩,zia e f j d,zgx e f j d⟩;{have:=jh7 (zia e f j o) (zia e f j d);omega};.have:=jh7 (zgx e f j o) (zgx e f j d);grind};obtain⟨F,s⟩:=Classical.axiomOfChoice h;exact⟨F,λa b=>s (a,b)⟩
def jbs{g:jb}{r:jd×W4×jc×Unit}(hS:Tn (λn=>zbe n g) (λb=>b=true))(hO:Tn (λn=>Jh n g) (λx=>x=g))(hA:Tn (λn=>zg n g) (λx=>x=r))(hR:Tn (λn=>Qo n g) (λx=>x=r))
  (R:r.1.2.2.1.length<=1000000/\(∀l∈r.1.2.2.1,l.length<=1000000)/\r.1.2.2.2.1.length<=1000000) (h3:r.2.2.1.1=0->DSz r.1/\MOk r.1/\Tn (λn=>Ja n r.1.1) (λx=>x=r.1.2.1)):Tn (λn=>Qa n g) (λb=>b=true):=by
 have L:Tn (λn=>zhr n g) (λx=>x=(g,r.1,r.2.1,r.2.2.1,())):=by
  unfold zhr;exact Waj hR waa λx u=>Tt.pure X
 obtain⟨F,B⟩:∃F,df0 r.2.2.1=true->jws g r F:=by
  cases h:df0 r.2.2.1 with
  |false=>simp
  |true=>
   obtain⟨G,I,hW⟩:=h3 (jwx h);obtain⟨F,B⟩:=jrz (g:=g) h G I hW
   grind
 unfold Qa;refine Tt.J (λs=>s.2=g/\(s.1=false->g.1.length<=6)) (λnx f=>?_) λs P=>?_
 ·refine Waj hS waa λb e=>?_;subst e;refine Tt.b1 (wae rfl (f _ ⟨rfl,λh=>?_⟩))
  grind
 obtain⟨a,b⟩:=s;obtain⟨e,D⟩:=P;dsimp only at e D⊢;rw[e];clear e b;refine wab (λ_=>Waj zhv waa λk o=>Tt.pure o) λc=>?_
 replace D:=D c
 clear c a;refine Waj L waa λd hd=>?_;rw[hd];clear hd d;refine wab (λ_=>Waj zhv waa λk o=>Tt.pure o) λ_=>(Tt.J (λs=>s.2.2=(g,r.1,r.2.1,r.2.2.1,())/\SpT F g r.2.2.1 (s.1,s.2.1,())) (λnx f=>?_) λs P=>?_)
 ·refine Waj hO waa λx u=>?_;rw[u];clear u x;refine Waj hA waa λx u=>?_;rw[u];clear u x;refine wab (λc=>f _ ⟨rfl,.inl ⟨?_,rfl⟩⟩) λc=>?_
  ·have c:(!df0 r.2.2.1)=true:=c
   grind
  have q:df0 r.2.2.1=true:=by
   have c:(!df0 r.2.2.1)=false:=c
   grind
  clear c;have B:=B q;obtain⟨G,I,_⟩:=h3 (jwx q);refine Waj hO waa λx u=>?_;rw[u];clear u x;refine Waj (jto R.1 R.2.1) waa λc7 O=>?_;rw[O];refine wac _ (sm7 R.2.2) (Tt.b1 (wac _ (mkN U U) ?_));refine Tt.loop (λm s=>∃a,a<=g.1.length/\m=g.1.length-a/\s=((g.1.length:Int),(a:Int),g,(),(),(),(0,0,()),(r.1,r.2.1,r.2.2.1,()),(),(),w64 (0+1),(),(),w64 ((w64 (0+1))+1),g,r.1.1,r.1.2.1,r.1.2.2.1,zjt F g.1.length a 0,r.1.2.2.2.1)/\∀i j,i<a->j<g.1.length->((F (i,j)).1:Int)<=g.2.2.2.2.2.2.2.1) g.1.length waa ⟨0,U,Wab,by rw[wci,tOut_0];rfl,λi j h=>U⟩ λm s H n1 Z=>?_;obtain⟨a,p,hm,rfl,N⟩:=H;dsimp only;refine wad (λc=>?_) λc=>?_
  ·have p:a<g.1.length:=U;refine Tt.loop (λm s=>∃b,b<=g.1.length/\m=g.1.length-b/\s=((a:Int),(g.1.length:Int),(a:Int),(g.1.length:Int),(b:Int),g,(),(),(),(0,0,()),(r.1,r.2.1,r.2.2.1,()),(),(),w64 (0+1),(),(),w64 ((w64 (0+1))+1),g,r.1.1,r.1.2.1,r.1.2.2.1,zjt F g.1.length a b,r.1.2.2.2.1)/\∀j,j<b->((F (a,j)).1:Int)<=g.2.2.2.2.2.2.2.1) g.1.length waa.fst ⟨0,U,Wab,by rw[z8h];rfl,λj h=>U⟩ λm s H n2 a0=>?_;obtain⟨b,e,c5,rfl,c1⟩:=H;dsimp only;refine wad (λc2=>?_) λc2=>?_
   ·have e:b<g.1.length:=U;refine Waj (z14 b G I) waa.fst.fst λld Y=>?_;rw[Y];refine Waj (jw6 G I _ a b _ _ _) waa.fst.fst λs0 z=>?_;obtain⟨sp,a2,z⟩:=z;subst z;dsimp only;refine Waj (jwq G I _ (zav _ _ _) a b a2) waa.fst.fst λs1 A=>?_;obtain⟨dp,Q,a3,A⟩:=A;subst A;dsimp only;obtain⟨e1,e2⟩:=(B a b p e).1 dp Q a3;have e3:(zdx r.1.2.2.1.length dp).length=(F (a,b)).1:=by unfold zdx;grind
    rw[e3,e2];refine Tt.b1 (wad (λc3=>(f _ ⟨rfl,.inr ⟨q,.inl ⟨rfl,a,b,p,e,c3⟩⟩⟩).fst.fst) λc3=>?_);have o:a<(zjt F g.1.length a b).length:=by rw[z8h];omega
    have M:atL (zjt F g.1.length a b) (a:Int)=some (tRow F a b):=by rw[atN o,tOut_g]
    refine waj o (wac _ M (wac (tRow F a (b+1)) (by rw[M];show apO 1 _ _=_;rw[ye (by rw[jed];grind) U,jn7]) (waj o (wac _ (jjj _ o) (wai ?_)))));rw[tOut_s];refine a0 (g.1.length-(b+1)) _ U ⟨b+1,U,rfl,rfl,λj hj=>?_⟩
    grind
   ·have e:b=g.1.length:=U;refine wai ?_;rw[e,tOut_a];refine(Z (g.1.length-(a+1)) _ U ⟨a+1,U,rfl,rfl,λi j hi hj=>?_⟩).fst
    grind
  ·have p:a=g.1.length:=U;rw[p,tOut_n];rw[p]at N;exact(f _ ⟨rfl,.inr ⟨q,.inr ⟨rfl,N⟩⟩⟩).fst
 obtain⟨v,t2,t3⟩:=s;obtain⟨C,T⟩:=P;dsimp only at C T⊢;rw[C];have S:Tn (λn=>Yv n (g,r.1,r.2.1,r.2.2.1,())) (SpT F g r.2.2.1):=by
  cases h:df0 r.2.2.1 with
  |true=>exact(jjo rfl D h (λa b p e=>(B h a b p e).2.1) λa b p e=>(B h a b p e).2.2).mono λt ht=> .inr ⟨h,ht⟩
  |false=>
   unfold Yv;exact Tt.b1 (x:=df0 r.2.2.1) (wah X (Tt.pure (.inl ⟨h,rfl⟩)))
 refine Waj S waa λk o=>?_;rw[<- T.uniq o];obtain⟨hl,hr⟩:=T.small D;dsimp only at hl hr⊢;refine Tt.J (λs=>s=(v,v,false)) (λnz a1=>?_) λs P=>?_
 ·exact Tt.b1 (wae V (a1 _ V))
 rw[P];dsimp only;refine wae rfl (Tt.loop (λm s=>∃k,k<=v.length/\m=v.length-k/\s=(v,v,(k:Int))) v.length waa ⟨0,U,Wab,rfl⟩ λm s H nx f=>?_);obtain⟨k,o,hm,rfl⟩:=H;dsimp only;refine wad (λc=>?_) λc=>(Waj zhv waa.fst λk o=>Tt.pure o)
 have y:k<v.length:=U;refine Tt.at y (Tt.at y (Waj (jkg _ (hr _ (wcm y))) waa.fst λw hw=>wae X (wai ?_)));exact f (v.length-(k+1)) _ U ⟨k+1,U,rfl,rfl⟩
theorem TouchTables_tot(g:jb)(k:jsj g)(l:(∀x∈g.1,x.1.length<=9223372036854775807)/\(∀x∈g.2.1,x.length<=9223372036854775807)/\∀x∈g.2.2.1,x.2.1.length<=9223372036854775807)(m:∀t∈g.1,∀x∈t.2.1,ze0 x.2.1)(o:∀x∈g.2.2.1,x.2.1.length*32<=140737488355328):Tn (λw=>Qa w g) (λb=>b=true):=by
 obtain⟨b,e,c⟩:=(jbi g k).val;cases b with
 |false=>
  unfold Qa;refine Tt.J (λs=>s.1=true) (λD d=>?_) λs u=>?_
  ·refine Waj e waa λb c=>?_;subst c;exact Tt.b1 (wah rfl (d _ rfl))
  ·obtain⟨a,b⟩:=s;exact wah u (Waj zhv waa λr q=>Tt.pure q)
 |true=>
 have c:=c rfl;obtain⟨r,i,j,f,y,h⟩:=jg1 g c l m;have z:=c.t;have A:=c.r;have B:=c.p;have C:=c.n;exact jbs e (jps g ⟨λx v=>by have:=zyc v;omega,⟨by omega,by omega,by omega⟩,o⟩) i j f h
end
end Go.Proofs.YtigdmmgklieofaaGreat.T
