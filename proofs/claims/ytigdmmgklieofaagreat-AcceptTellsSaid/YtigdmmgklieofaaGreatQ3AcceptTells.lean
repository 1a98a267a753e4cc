import Derived.ProofKit
import Derived.OpenShut
import Derived.Deep.Slices
import Derived.Test.YtigdmmgklieofaaGreatQ2AcceptTells

namespace Go.Proofs.YtigdmmgklieofaaGreat.T
noncomputable section
set_option maxRecDepth 100000
set_option maxHeartbeats 8000000
set_option linter.unusedVariables false
set_option linter.unusedSimpArgs false
open Go Go.RowKit L
def zv2:List (Nat×Nat)->Nat->Option Nat
 |[],_=>none
 |x::r,i=>match Nat.beq x.1 i with
  |true=>some x.2
  |false=>zv2 r i
def jcj:List (Nat×Nat)->Nat->Option Nat
 |[],_=>none
 |x::r,i=>match Nat.beq x.2 i with
  |true=>some x.1
  |false=>jcj r i
theorem zwg:∀{l:List (Nat×Nat)}{i X:Nat},zv2 l i=some X->(i,X)∈l
 |[],i,X,h=>by cases h
 |x::r,i,X,h=>by
  simp only[zv2]at h;split at h
  ·rename_i a;cases h;rw[<- qc a];exact wfs ..
  ·exact we8 _ (zwg h)
theorem zu5:∀{l:List (Nat×Nat)}{i:Nat},zv2 l i=none->∀x∈l,x.1≠i
 |[],i,h,x,b=>by cases b
 |a::r,i,h,x,b=>by
  simp only[zv2]at h;split at h
  ·cases h
  ·rename_i c;rcases wc1.1 b with rfl|b
   ·intro e;rw[e,wev]at c;cases c
   ·exact zu5 h x b
theorem zwc:∀{l:List (Nat×Nat)}{i X:Nat},jcj l X=some i->(i,X)∈l
 |[],i,X,h=>by cases h
 |x::r,i,X,h=>by
  simp only[jcj]at h;split at h
  ·rename_i a;cases h;rw[<- qc a];exact wfs ..
  ·exact we8 _ (zwc h)
theorem jd0{l:List (Nat×Nat)}(h:(l.map Prod.fst).Nodup){i X Y:Nat}(d:(i,X)∈l)(b:(i,Y)∈l):X=Y:=by
 induction l with
 |nil=>cases d
 |cons a l f=>
  simp only[wc4,wfl]at h;rcases wc1.1 d with rfl|c
  ·rcases wc1.1 b with b|b
   ·cases b;rfl
   ·exact absurd (wcz.2 ⟨_,b,rfl⟩) h.1
  ·rcases wc1.1 b with rfl|e
   ·exact absurd (show i∈l.map Prod.fst from wcz.2 ⟨(i,X),c,rfl⟩) h.1
   ·exact f h.2 c e
theorem jd3{l:List (Nat×Nat)}(h:(l.map Prod.snd).Nodup){i j X:Nat}(d:(i,X)∈l)(b:(j,X)∈l):i=j:=by
 induction l with
 |nil=>cases d
 |cons a l f=>
  simp only[wc4,wfl]at h;rcases wc1.1 d with rfl|c
  ·rcases wc1.1 b with b|b
   ·cases b;rfl
   ·exact absurd (wcz.2 ⟨_,b,rfl⟩) h.1
  ·rcases wc1.1 b with rfl|e
   ·exact absurd (show X∈l.map Prod.snd from wcz.2 ⟨(i,X),c,rfl⟩) h.1
   ·exact f h.2 c e
def zbe(L:List Nat)(b:Nat)(G G':EG)(NL:List (Nat×Nat)):IdT:=λc X a=>match Nat.blt X b with
 |true=>match L[X]? with
  |some i=>match c with
   |false=>match Nat.beq a 1 with
    |true=>some (i,(G i).ver)
    |false=>none
   |true=>match Nat.beq a (G' X).cv && !(G' X).flat with
    |true=>some (i,(G i).cv+1)
    |false=>none
  |none=>none
 |false=>match jcj NL X with
  |some i=>match Nat.beq a ((G' X).at c)with
   |true=>some (i,(G i).cv+1)
   |false=>none
  |none=>none
def zto(ν:IdT)(b:Nat)(x y:GB)(X:Nat):GB:=match Nat.blt X b && Nat.beq y.ver 1 with
 |true=>match ze2 ν (x.cv+1-x.ver) y.b with
  |some c=>match c.flat && !x.flat with
   |true=>⟨x.cv+1,none⟩
   |false=>⟨x.ver,some c⟩
  |none=>⟨x.cv+1,none⟩
 |false=>⟨x.cv+1,none⟩
theorem zj8(ν:IdT)(b:Nat)(x y:GB)(X:Nat):zto ν b x y X=⟨x.cv+1,none⟩\/∃a,X<b/\y.ver=1/\y.b=some a/\a.sane=true/\zto ν b x y X=⟨x.ver,some (Zq ν (x.cv+1-x.ver) a)⟩/\x.cv<=(zto ν b x y X).cv/\∀j,(a.ch j).isSome=true->x.cv<(zto ν b x y X).cv:=by
 unfold zto;split
 ·rename_i f;simp only[wcl,wfk]at f;split
  ·rename_i c k;split
   ·exact .inl rfl
   ·rename_i g;obtain⟨a,h,i,rfl⟩:=zcy k;have m:=x.ver_le;refine .inr ⟨a,f.1,qc f.2,h,i,rfl,?_,λj l=>?_⟩
    ·rcases zml ν (x.cv+1-x.ver) a with⟨d,e⟩|⟨d,e⟩
     ·rw[d]at g;rw[wa5 (by simpa using g)];exact Nat.le_add_right _ _
     ·show x.cv<=x.ver+(Zq ν (x.cv+1-x.ver) a).kv;rw[e];omega
    ·rcases zml ν (x.cv+1-x.ver) a with⟨d,e⟩|⟨d,e⟩
     ·cases a<;>first|cases l|cases d
     ·show x.cv<x.ver+(Zq ν (x.cv+1-x.ver) a).kv;rw[e];omega
  ·exact .inl rfl
 ·exact .inl rfl
def jfs(ν:IdT)(b:Nat)(G G':EG):List Nat->Nat->List (Nat×GB)
 |[],_=>[]
 |i::r,X=>(i,zto ν b (G i) (G' X) X)::jfs ν b G G' r (X+1)
def ztt(L:List Nat)(b:Nat)(G G':EG)(NL:List (Nat×Nat)):List (Nat×GB):=jfs (zbe L b G G' NL) b G G' L 0++NL.map λx=>(x.1,⟨(G x.1).cv+1,ze2 (zbe L b G G' NL) 0 (G' x.2).b⟩)
theorem z1b(ν:IdT)(b:Nat)(G G':EG):∀(L:List Nat)(X:Nat),(jfs ν b G G' L X).map Prod.fst=L
 |[],X=>rfl
 |i::r,X=>by simp only[jfs,wc4,z1b ν b G G' r]
theorem jcu(ν:IdT)(b:Nat)(G G':EG):∀(L:List Nat)(X m i:Nat),L[m]?=some i->(i,zto ν b (G i) (G' (X+m)) (X+m))∈jfs ν b G G' L X
 |[],X,m,i,h=>by simp at h
 |a::r,X,0,i,h=>by
  simp only[we2,wdn]at h;subst h;simp[jfs]
 |a::r,X,m+1,i,h=>by
  simp only[we3]at h;have:=jcu ν b G G' r (X+1) m i h;rw[show X+1+m=X+(m+1) by omega]at this;exact we8 _ this
theorem zd3(L:List Nat)(b:Nat)(G G':EG)(NL:List (Nat×Nat)):(ztt L b G G' NL).map Prod.fst=L++NL.map Prod.fst:=by
 unfold ztt;rw[wdb,z1b,wd8];rfl
theorem y7:∀{ws:List (Nat×GB)}{H:PHeap}{i:Nat}{g:GB}{k:Nm},(ws.map Prod.fst).Nodup->(i,g)∈ws->k.rt=some i->qz H ws k=Qe g k
 |[],H,i,g,k,a,h,_=>by cases h
 |x::r,H,i,g,k,a,h,b=>by
  simp only[wc4,wfl]at a;rcases wc1.1 h with rfl|h
  ·simp only[qz];rw[zgx,if_neg]
   ·simp[zl1,b]
   ·intro e;obtain⟨id,d,c⟩:=Vy.1 e;rw[b]at c;cases c;exact a.1 d
  ·simp only[qz];exact y7 a.2 h b
theorem J0{ws:List (Nat×GB)}{H:PHeap}{y:Nm}(h:∀i∈ws.map Prod.fst,y.rt≠some i):qz H ws y=H y:=by
 rw[zgx,if_neg];intro c;obtain⟨id,a,b⟩:=Vy.1 c;exact h id a b
structure zvn(L:List Nat)(b:Nat)(NL:List (Nat×Nat)):Prop where
 keys:(L++NL.map Prod.fst).Nodup
 snd:(NL.map Prod.snd).Nodup
 hi:∀x∈NL,b<=x.2
section
variable{P:Program}{W:Env}{n:Nat}{L:List Nat}{b:Nat}{NL:List (Nat × Nat)}{G G' : EG}{H:PHeap}{V V' : Nm → Value}{w:World}
def zaa(L:List Nat)(NL:List (Nat×Nat)):Nm->Nm:=λy=>match y.rt with
 |some i=>match zsc L i 0 with
  |some X=>y.re X
  |none=>match zv2 NL i with
   |some X=>y.re X
   |none => .r y
 |none => .r y
abbrev zdc(L:List Nat)(b:Nat)(G G':EG)(NL:List (Nat×Nat))(H:PHeap):PHeap:=qz H (ztt L b G G' NL)
def jm5(L:List Nat)(NL:List (Nat×Nat))(y:Nm):Prop:=zds L y=false/\∀x∈NL,y.rt≠some x.1
theorem z3y(g:zvn L b NL)(y:Nm):
  (∃X i:Nat,y.rt=some i/\L[X]?=some i/\(∀z:Nm,z.rt=some i->zdc L b G G' NL H z=Qe (zto (zbe L b G G' NL) b (G i) (G' X) X) z)/\zaa L NL y=y.re X) \/
  (∃X i:Nat,y.rt=some i/\(i,X)∈NL/\(∀z:Nm,z.rt=some i->zdc L b G G' NL H z=Qe ⟨(G i).cv+1,ze2 (zbe L b G G' NL) 0 (G' X).b⟩ z)/\zaa L NL y=y.re X) \/
  (zdc L b G G' NL H y=H y/\jm5 L NL y/\zaa L NL y=.r y):=by
 have n:((ztt L b G G' NL).map Prod.fst).Nodup:=by rw[zd3];exact g.keys
 unfold zaa;cases d:y.rt with
 |none=>exact .inr (.inr ⟨J0 λi _=>by rw[d];simp,⟨by unfold zds;rw[d],λx _=>by rw[d];simp⟩,rfl⟩)
 |some i=>
  simp only;cases k:zsc L i 0 with
  |some X=>
   obtain⟨m,h,f⟩:=zkb k;refine .inl ⟨X,i,rfl,by rw[h,wdo];exact f,λz hz=>y7 n ?_ hz,rfl⟩;unfold ztt;have:=jcu (zbe L b G G' NL) b G G' L 0 m i f;rw[<- h]at this;exact wfj _ this
  |none=>
   simp only;cases l:zv2 NL i with
   |some X=>
    have a:=zwg l;refine .inr (.inl ⟨X,i,rfl,a,λz hz=>y7 n ?_ hz,rfl⟩);unfold ztt;exact List.mem_append_right _ (wcz.2 ⟨_,a,rfl⟩)
   |none=>
    have h:=zj5 k;have f:=zu5 l;refine .inr (.inr ⟨J0 λj c e=>?_,⟨by unfold zds;rw[d];simp[k],λx g e=>?_⟩,rfl⟩)
    ·rw[d]at e;cases e;rw[zd3]at c;rcases wco.1 c with c|c
     ·exact h c
     ·obtain⟨x,g,e⟩:=wcz.1 c;exact f x g e
    ·rw[d]at e;cases e;exact f x g rfl
def jou(ν:IdT)(a:BD)(g:GB)(X i:Nat)(y:Nm)(bd:PBody):Prop:=(y=.o i/\y.re X=.o X/\∃kv,bd=(Zq ν kv a).den i g.cv)\/∃j,y=.c i j/\y.re X=.c X j/\a.ch j=some bd
theorem z6t{ν:IdT}{e:BD}{g:GB}{kv X i:Nat}{y:Nm}{bd:PBody}(f:g.b=some (Zq ν kv e))(d:y.rt=some i)(h:(Qe g y).body=some bd):jou ν e g X i y bd:=by
 cases y with
 |o l=>
  cases d;obtain⟨m,a,rfl⟩:=wcs.1 (show g.b.map (BD.den i g.cv)=some bd from h);rw[f]at a;cases a;exact .inl ⟨rfl,rfl,_,rfl⟩
 |c l j=>
  cases d;obtain⟨m,a,k⟩:=wdm.1 (show g.b.bind (λb=>b.ch j)=some bd from h);rw[f]at a;cases a;exact .inr ⟨j,rfl,rfl,by rw[<- zyd];exact k⟩
 |r y=>cases d
theorem znu(o:zvn L b NL){y:Nm}{bd:PBody}(h:(zdc L b G G' NL H y).body=some bd):
  (∃X i d g,(L[X]?=some i/\X<b/\(G' X).ver=1\/(i,X)∈NL)/\(∀z:Nm,z.rt=some i->zdc L b G G' NL H z=Qe g z)/\zaa L NL y=y.re X/\(G' X).b=some d/\d.sane=true/\jou (zbe L b G G' NL) d g X i y bd) \/
  (zaa L NL y=.r y/\jm5 L NL y/\(H y).body=some bd):=by
 rcases z3y (G:=G) (G':=G') (H:=H) o y with⟨X,i,a,j,f,k⟩|⟨X,i,a,j,f,k⟩|⟨a,j,f⟩
 ·rw[f y a]at h;rcases zj8 (zbe L b G G' NL) b (G i) (G' X) X with e|⟨d,p,q,m,n,s,_⟩
  ·rw[e]at h;cases y<;>first|cases h|(cases a;done)
  ·exact .inl ⟨X,i,d,_,.inl ⟨j,p,q⟩,f,k,m,n,z6t (by rw[s]) a h⟩
 ·rw[f y a]at h;cases l:ze2 (zbe L b G G' NL) 0 (G' X).b with
  |none=>rw[l]at h;cases y<;>first|cases h|(cases a;done)
  |some c=>
   obtain⟨d,m,n,rfl⟩:=zcy l;exact .inl ⟨X,i,d,_,.inr j,f,k,m,n,z6t l a h⟩
 ·rw[a]at h;exact .inr ⟨f,j,h⟩
theorem zpg(l:zvn L b NL){y:Nm}(h:(zdc L b G G' NL H y).body.isSome=true):(qn G' (inR L b G H) (zaa L NL y)).body.isSome=true:=by
 obtain⟨n,f⟩:=wdi.1 h;rcases znu l f with⟨X,i,m,g,_,_,a,c,_,⟨_,e,_⟩|⟨j,_,e,k⟩⟩|⟨a,c,d⟩
 ·rw[a,e];simp[qn,v6,c]
 ·rw[a,e];simp[qn,zac,c,k]
 ·rw[a];show(inR L b G H y).body.isSome=true;unfold inR;rw[c.1];simp[zjk,d]
theorem jk3(a:zvn L b NL):∀c,c<w.heap.size->¬PZ W.Z (qn G' (inR L b G H)) V' c->¬PZ W.Z (zdc L b G G' NL H) (λy=>V' (zaa L NL y)) c:=λc _ h=>z21 (λy g d _=>⟨_,zpg a d,rfl⟩) h
theorem jm4{ν:IdT}{x y:GB}{X:Nat}(h:y.flat=false):(zto ν b x y X).cv=x.cv+1:=by
 have j:=x.ver_le;unfold zto;split
 ·split
  ·rename_i c i;obtain⟨a,f,k,rfl⟩:=zcy i;have e:(Zq ν (x.cv+1-x.ver) a).flat=false:=by
    unfold GB.flat at h;rw[f]at h;cases a<;>first|rfl|cases h
   rcases zml ν (x.cv+1-x.ver) a with⟨d,_⟩|⟨_,g⟩
   ·rw[e]at d;cases d
   ·rw[e];show x.ver+(Zq ν (x.cv+1-x.ver) a).kv=x.cv+1;rw[g];omega
  ·rfl
 ·rfl
theorem z0j(f:L.Nodup)(g:zvn L b NL){c:Bool}{X ver:Nat}{x:Nat×Nat}(h:zbe L b G G' NL c X ver=some x):
  (L[X]?=some x.1/\X<b/\(c=false/\ver=1/\x.2=(G x.1).ver\/c=true/\ver=(G' X).cv/\(G' X).flat=false/\x.2=(G x.1).cv+1))\/((x.1,X)∈NL/\ver=(G' X).at c/\x.2=(G x.1).cv+1):=by
 unfold zbe at h;split at h
 ·rename_i d;split at h<;>try (cases h;done)
  rename_i i e;have d:X<b:=by simpa [wfk]using d
  split at h
  ·split at h<;>cases h;rename_i a;exact .inl ⟨e,d,.inl ⟨rfl,qc a,rfl⟩⟩
  ·split at h<;>cases h;rename_i a;simp only[wcl,weg]at a;exact .inl ⟨e,d,.inr ⟨rfl,qc a.1,a.2,rfl⟩⟩
 ·split at h<;>try (cases h;done)
  rename_i i e;split at h<;>cases h;rename_i a;exact .inr ⟨zwc e,qc a,rfl⟩
theorem jji(u:zvn L b NL)(v:L.Nodup):∀id l x,zfy (zbe L b G G' NL) id l=some x->l<=(qn G' (inR L b G H) id).ver->x.2<=(zdc L b G G' NL H x.1).ver/\((zdc L b G G' NL H x.1).body.isSome=true->(zdc L b G G' NL H x.1).ver=x.2->(qn G' (inR L b G H) id).body.isSome=true/\(qn G' (inR L b G H) id).ver=l/\V' (zaa L NL x.1)=V' id):=λid l x h Q=>by
 have f:=wfu.1 u.keys;have E:∀{X i:Nat}{y:Nm},L[X]?=some i->y.rt=some i->zdc L b G G' NL H y=Qe (zto (zbe L b G G' NL) b (G i) (G' X) X) y/\zaa L NL y=y.re X:=λ{X i y}s q=>by
  rcases z3y (G:=G) (G':=G') (H:=H) u y with⟨w,B,k,m,d,a⟩|⟨w,B,k,m,d,a⟩|⟨k,m,d⟩
  ·rw[q]at k;cases k;have e:=zmx v s;rw[zmx v m]at e;cases e;exact⟨d y q,a⟩
  ·rw[q]at k;cases k;exact absurd rfl (f.2.2 _ (wck s) _ (wcz.2 ⟨_,m,rfl⟩))
  ·exact absurd (m.1.symm.trans (zlo q (wck s))) (by simp)
 have F:∀{X i:Nat}{y:Nm},(i,X)∈NL->y.rt=some i->zdc L b G G' NL H y=Qe ⟨(G i).cv+1,ze2 (zbe L b G G' NL) 0 (G' X).b⟩ y/\zaa L NL y=y.re X:=λ{X i y}n q=>by
  rcases z3y (G:=G) (G':=G') (H:=H) u y with⟨w,B,k,m,d,a⟩|⟨w,B,k,m,d,a⟩|⟨k,m,d⟩
  ·rw[q]at k;cases k;exact absurd rfl (f.2.2 _ (wck m) _ (wcz.2 ⟨_,n,rfl⟩))
  ·rw[q]at k;cases k;have:=jd0 f.2.1 n m;subst this;exact⟨d y q,a⟩
  ·exact absurd q (m.2 _ n)
 have g:∀{y z:Nm},zaa L NL y=z->(zdc L b G G' NL H y).body.isSome=true->(qn G' (inR L b G H) z).body.isSome=true:=λ{y z}e h=>by
  have:=zpg (G:=G) (G':=G') u h;rw[e]at this;exact this
 cases id with
 |r y=>cases h
 |o X=>
  obtain⟨z,hz,rfl⟩:=wcs.1 (show(zbe L b G G' NL false X l).map (λx=>(Nm.o x.1,x.2))=some x from h);rcases z0j v u hz with⟨s,O,⟨_,rfl,e⟩|⟨e,_⟩⟩|⟨A,t,e⟩
  ·obtain⟨d,a⟩:=E (y :=.o z.1) s rfl;refine⟨?_,λp _=>⟨g a p,?_,by rw[a];rfl⟩⟩
   ·rw[d,e];rcases zj8 (zbe L b G G' NL) b (G z.1) (G' X) X with e|⟨I,K,C,M,N,D,_⟩
    ·rw[e];exact Nat.le_succ_of_le (GB.ver_le _)
    ·rw[D];exact wcq _
   ·rw[d]at p;rcases zj8 (zbe L b G G' NL) b (G z.1) (G' X) X with e|⟨I,K,C,M,N,D,_⟩
    ·rw[e]at p;cases p
    ·exact C
  ·cases e
  ·obtain⟨d,a⟩:=F (y :=.o z.1) A rfl;exact⟨by rw[d,e];exact wcq _,λp _=>⟨g a p,t.symm,by rw[a];rfl⟩⟩
 |c X j=>
  obtain⟨z,hz,rfl⟩:=wcs.1 (show(zbe L b G G' NL true X l).map (λx=>(Nm.c x.1 j,x.2))=some x from h);rcases z0j v u hz with⟨s,O,⟨e,_⟩|⟨_,rfl,P,e⟩⟩|⟨A,t,e⟩
  ·cases e
  ·obtain⟨d,a⟩:=E (y :=.c z.1 j) s rfl;exact⟨by rw[d,e];exact Nat.le_of_eq (jm4 P).symm,λp _=>⟨g a p,rfl,by rw[a];rfl⟩⟩
  ·obtain⟨d,a⟩:=F (y :=.c z.1 j) A rfl;exact⟨by rw[d,e];exact Nat.le_of_eq (zpp _).symm,λp _=>⟨g a p,t.symm,by rw[a];rfl⟩⟩
theorem jna(m:zvn L b NL){X i j d e:Nat}{v:Value}(k:zaa L NL (.c i j)=.c X j)(a:(qn G' (inR L b G H) (.c X j)).ver=d)(l:(zdc L b G G' NL H (.c i j)).ver=e)(h:Rp W.Z (qn G' (inR L b G H)) V' w (.ps (.c X j) d) v):Rp W.Z (zdc L b G G' NL H) (λy=>V' (zaa L NL y)) w (.ps (.c i j) e) v:=by
 cases h with
 |ps _ _ _ n f=>
  refine .ps _ _ _ (by rw[l];exact wcq _) λg _=>?_;have:=zpg m g;rw[k]at this⊢;exact f this a
def jhy(H:PHeap)(y:Nm)(ver:Nat):Prop:=ver<=(H y).ver
theorem z5v(I:zvn L b NL)(F:L.Nodup)(n:∀i∈L++NL.map Prod.fst,AgN H G i):Back (jhy H) (phG L b G) (qn G' (inR L b G H)) (zdc L b G G' NL H) V' (λy=>V' (zaa L NL y)):=λy a f=>by
 have f:a<=(H y).ver:=f;rcases z3y (G:=G) (G':=G') (H:=H) I y with⟨X,i,d,h,m,s⟩|⟨X,i,d,h,m,s⟩|⟨B,h,m⟩
 ·have t:=wck h;have D:=zlo d t;have C:=n i (wfj _ t);rw[C.at d]at f;rw[m y d];have l:(Qe (G i) y).ver<=(G i).cv:=by
   cases y with
   |o _=>exact GB.ver_le _
   |c _ _=>exact wcq _
   |r _=>cases d
  rcases zj8 (zbe L b G G' NL) b (G i) (G' X) X with e|⟨u,v,w,x,N,q,z,A⟩
  ·rw[e];refine⟨?_,λk=>by cases y<;>first|cases k|cases d⟩;cases y with
   |o _=>exact Nat.le_succ_of_le (wdk f l)
   |c _ _=>exact Nat.le_succ_of_le (wdk f l)
   |r _=>cases d
  ·cases y with
   |r _=>cases d
   |c K j=>
    cases d;refine⟨wdk (wdk f l) z,λp g=>?_⟩;have E:(u.ch j).isSome=true:=by
     rw[q]at p;simpa [Qe,zac,zyd]using p
    have:=A j E;have g:(zto (zbe L b G G' NL) b (G i) (G' X) X).cv=a:=g;omega
   |o K=>
    cases d;rw[q];refine⟨f,λp g=>⟨(.o X,1),?_,by simp[qn,v6,x],w,by show V' (zaa L NL (.o i))=V' (.o X);rw[s];rfl⟩⟩;have g:(G i).ver=a:=g;unfold phG;rw[D,ze0];unfold jig mu1;simp only[zmx F h];have:(Nat.blt X b && Nat.beq a ((G i).at false))=true:=by
     show(Nat.blt X b && Nat.beq a (G i).ver)=true;rw[<- g,wev,Bool.and_true,wfk];exact v
    simp only[this];rfl
 ·rw[(n i (List.mem_append_right _ (wcz.2 ⟨_,h,rfl⟩))).at d]at f;rw[m y d];have M:(Qe (G i) y).ver<(Qe ⟨(G i).cv+1,ze2 (zbe L b G G' NL) 0 (G' X).b⟩ y).ver:=by
   cases y with
   |o _=>exact Nat.lt_succ_of_le (GB.ver_le _)
   |c _ _=>
    show(G i).cv<GB.cv ⟨(G i).cv+1,ze2 (zbe L b G G' NL) 0 (G' X).b⟩;rw[zpp];exact wfd _
   |r _=>cases d
  exact⟨by omega,λ_ g=>by omega⟩
 ·rw[B];refine⟨f,λp g=>⟨(.r y,a),?_,?_,?_,by show V' (zaa L NL y)=V' (.r y);rw[m]⟩⟩
  ·unfold phG;rw[h.1]
  ·show(inR L b G H y).body.isSome=true;unfold inR;rw[h.1];simp only[zjk,Option.isSome_map];exact p
  ·show(inR L b G H y).ver=a;unfold inR;rw[h.1];exact g
theorem jhq(a:zvn L b NL)(R:L.Nodup)(C:∀i∈L++NL.map Prod.fst,AgN H G i){W1:Env}(hw:W1.w=W.w)(O:W1.Z=W.Z)(hr:HRel P W1 (qn G' (inR L b G H)) V' w)(I:∀i,Rp W.Z (zdc L b G G' NL H) (λy=>V' (zaa L NL y)) w (W.G i) (W.gv i))(hf:∀k n,jm5 L NL k->(H k).body=some n->∀c∈n.cs,NmAll (jhy H) c):
  HRel P W (zdc L b G G' NL H) (λy=>V' (zaa L NL y)) w:=by
 have K:=wfu.1 a.keys;have hz:∀c,c<w.heap.size->¬PZ W1.Z (qn G' (inR L b G H)) V' c->¬PZ W1.Z (zdc L b G G' NL H) (λy=>V' (zaa L NL y)) c:=jk3 (W:=W1) a;refine HRel.ren hr (zaa L NL) hw.symm O.symm (λi=>by rw[O];exact I i) (λy n D=> .inr ?_) λy y' g h l _ _ e=>?_
 ·rcases znu a D with⟨X,i,N,g,ho,I,h,l,B,F⟩|⟨h,l,B⟩
  ·rcases F with⟨rfl,e,kv,rfl⟩|⟨j,rfl,e,Q⟩
   ·refine⟨N.den X (G' X).cv,by rw[h,e];simp[qn,v6,l],rfl,λU z s=>?_⟩;refine z81 (λp v hp u=>zka u hp hz (jji a R)) B (λj v u=>?_) z s;have M:zaa L NL (.c i j)=.c X j:=by
     have:zaa L NL (.o i)=.o X:=by rw[h,e]
     unfold zaa at this⊢;simp only[Nm.rt]at this⊢;split at this
     ·simp only[Nm.re,Nm.o.injEq]at this⊢;rw[this]
     ·split at this
      ·simp only[Nm.re,Nm.o.injEq]at this⊢;rw[this]
      ·cases this
    exact jna (W:=W1) a M rfl (by rw[I _ rfl];rfl) u
   ·exact⟨n,by rw[h,e];simp[qn,zac,l,Q],rfl,λU z s=>⟨z,waj s λc hc v u=>Rp.noP u (jb0 Q c hc) hz⟩⟩
  ·refine⟨zn9 (phG L b G) n,?_,rfl,λU z s=>⟨zwm.1 z,?_⟩⟩
   ·rw[h];show(inR L b G H y).body=_;unfold inR;rw[l.1];simp[zjk,B]
   ·rw[zl5]at s;exact jl1 (hf y n l B) s hz (z5v a R C)
 ·obtain⟨n,D⟩:=wdi.1 h;obtain⟨Y,E⟩:=wdi.1 l;have m:∀{X i x:Nat},(L[X]?=some i/\X<b/\(G' X).ver=1\/(i,X)∈NL)->(L[X]?=some x/\X<b/\(G' X).ver=1\/(x,X)∈NL)->i=x:=λ{X i x}h l=>by
   rcases h with⟨A,a2,_⟩|A<;>rcases l with⟨t,b2,_⟩|t
   ·rw[A]at t;cases t;rfl
   ·have:=a.hi _ t;simp only at this;omega
   ·have:=a.hi _ A;simp only at this;omega
   ·exact jd3 a.snd A t
  rcases znu a D with⟨X,i,N,gg,S,_,d,_,_,⟨rfl,q,_⟩|⟨j,rfl,q,_⟩⟩|⟨d,_⟩ <;>
   rcases znu a E with⟨X',x,V,J,T,_,f,_,_,⟨rfl,r,_⟩|⟨j',rfl,r,_⟩⟩|⟨f,_⟩
  ·rw[d,f,q,r]at e;cases e;rw[m S T]
  ·rw[d,f,q,r]at e;cases e
  ·rw[d,f,q]at e;cases e
  ·rw[d,f,q,r]at e;cases e
  ·rw[d,f,q,r]at e;cases e;rw[m S T]
  ·rw[d,f,q]at e;cases e
  ·rw[d,f,r]at e;cases e
  ·rw[d,f,r]at e;cases e
  ·rw[d,f]at e;cases e;rfl
end
def jgs(xs:List TS):EF:=λs=>match xs[s]? with
 |some x=>x
 |none=>UND
theorem z55(xs:List TS):zi6 (yo xs)=zh (jgs xs):=by
 funext t;unfold zi6 zh jgs;rw[zep,wcp];cases xs[t]? with
 |none=>simp only[Option.map_none,Option.getD_none];exact und_den.symm
 |some d=>simp only[wc3,wda]
theorem wcc{P:Program}{W:Env}{n:Nat}{L:List Nat}{b:Nat}{NL:List (Nat×Nat)}{G G':EG}{H:PHeap}{F:PFrame}{o:Oper}{cl:Call}{C:List TS}{f:FuncId}{fn:Func}{c:Code}{s:TS}{E':EF}{e0:Exit}
  (hd:Y4 n o) (ho:o.op=.call cl) (ht:zb2 F cl=some (f,yo C)) (hg:V9 P f=true) (hf:P.funcs[f]?=some fn) (hb:fn.body=some c) (hl:C.length<=fn.ntmps) (l:FlW W F H)
  (X:zvn L b NL) (hn:L.Nodup) (K:∀i∈L++NL.map Prod.fst,AgN H G i) (he:e0=.normal\/e0=.ret)
  (hc:∀W1 R1,GhOk b W1->RestOk b R1->PC P W1 fn.ntmps c (zh (jgs (V6 (mu1 L L.length G) C))) (qn (inG L G) R1) λe F' H'=>e=e0/\F'=zh E'/\H'=qn G' R1)
  (a4:zte P fn.results.toList E' G'=some s) :
  PE P W n o F H λp H'=>p=(zfc (zbe L b G G' NL) s).den/\H'=qz H (ztt L b G G' NL):=λV a w r=>by
 obtain⟨T,b4,hR⟩:=zbx (P:=P) (W:=W) (H:=H) (V:=V) (a:=a) (w:=w) ho ht hg λx d5=>Rp.eval (P:=P) x λt ht=>r.slot t;have d:∀i∈L,AgN H G i:=λi hi=>K i (wfj _ hi);have Q:∀i,Fl ((W.push F a).G i):=λi=>by
  simp only[Env.push];split
  ·exact l.f _
  ·exact l.g _
 have m:HRel P (W.push F a) H V w:=⟨r.heap.below,r.heap.body,λi=>by
  simp only[Env.push];split
  ·exact r.slot _
  ·exact r.heap.ghost _,r.heap.apart,r.heap.zlt,r.heap.nz⟩
 have b6:=jlu (b:=b) hn d m Q l.h;have j:RpL W.Z (qn (inG L G) (inR L b G H)) (λz=>V (inS L z)) w (yo (V6 (mu1 L L.length G) C)) T:=by
  rw[zgg,<- vz];exact zu6 hR λx X v hv=>zka hv (zoa C x X) (z7t d) (jje d)
 have a2:(yo (V6 (mu1 L L.length G) C)).length=C.length:=by rw[zep,wcv,zo9]
 have b7:=j.1;rw[a2]at b7
 let W1:Env:={ W.push F a with G:=λi=>zj (phG L b G) ((W.push F a).G i) }
 have b2:GhOk b W1:=λi=>z04 (Q i);have I:RestOk b (inR L b G H):=inR_ok l.h;have N:=hc W1 (inR L b G H) b2 I;refine zj2 b4 (calls_of_wp hf hb (N (λz=>V (inS L z)) _ w _ ⟨b6,by simp;omega,rfl,λt=>?_⟩ λe F' H' V' a' U hq A=>?_))
 ·rw[<- z55];unfold zi6;by_cases ht:t<(yo (V6 (mu1 L L.length G) C)).length
  ·have B:t<T.length:=by omega
   have:=j.2 t _ _ (wcf ht) (wcf B);rw[wcf ht];simpa [W1,Env.push,wd0,Array.getElem?_append,B]using this
  ·have B:¬t<T.length:=by omega
   rw[wdt (by omega)];have:(T.toArray++Array.replicate (fn.ntmps-T.toArray.size) undef).getD t undef=undef:=by
    rw[wd0,Array.getElem?_append,if_neg (by simpa using B),Array.getElem?_replicate];split<;>rfl
   simp only[this,Option.getD_none];exact .u _
 ·obtain⟨rfl,rfl,rfl⟩:=hq;obtain⟨q,hq,c1⟩:=z5i (R:=inR L b G H) a4;obtain⟨v,E,S⟩:=zu9 A hq;have S:=c1 _ _ _ _ _ S;have a1:HRel P W1 (qn G' (inR L b G H)) V' U:=A.heap;have hz:∀c,c<U.heap.size->¬PZ W.Z (qn G' (inR L b G H)) V' c->¬PZ W.Z (zdc L b G G' NL H) (λy=>V' (zaa L NL y)) c:=jk3 X;have b3:=z5v (V':=V') (G':=G') (b:=b) X hn K;have a0:∀i,Rp W.Z (zdc L b G G' NL H) (λy=>V' (zaa L NL y)) U ((W.push F a).G i) ((W.push F a).gv i):=λi=>
   jgq (((Q i).past (m.ghost i)).mono λ_ _ h=>h.2) (a1.ghost i) hz b3
  have hs:∀t,Rp W.Z (zdc L b G G' NL H) (λy=>V' (zaa L NL y)) U (F t) (a.tmps.getD t undef):=λt=>by
   have:=a0 (2*t);simp only[Env.push,Nat.mul_mod_right,if_true]at this;rwa [show 2*t / 2=t by omega]at this
  have b5:∀i,Rp W.Z (zdc L b G G' NL H) (λy=>V' (zaa L NL y)) U (W.G i) (W.gv i):=λi=>by
   have:=a0 (2*i+1);simp only[Env.push,show ¬((2*i+1) % 2=0) by omega,if_false]at this;rwa [show(2*i+1) / 2=i by omega]at this
  have M:∀k Y,jm5 L NL k->(H k).body=some Y->∀c∈Y.cs,NmAll (jhy H) c:=λk Y hk J c hc=>by
   obtain⟨T,_,h2⟩:=r.heap.body k Y J;obtain⟨i,hi⟩:=zxy hc;have b8:i<T.length:=by rw[<- h2.1];exact(wcg.1 hi).1
   exact((l.h k Y J c hc).past (h2.2 i c _ hi (wcf b8))).mono λ_ _ h=>h.2
  have O:=jhq (W:=W) (G':=G') X hn K (W1:=W1) rfl rfl a1 b5 M;have a3:Rel P W n F (zdc L b G G' NL H) (λy=>V' (zaa L NL y)) a U:=⟨O,r.size,r.defers,hs⟩
  have b9:Rp W.Z (zdc L b G G' NL H) (λy=>V' (zaa L NL y)) U (zfc (zbe L b G G' NL) s).den v:=by
   rw[zw6];exact zka S (zbp s) hz (jji X hn)
  have D:=a3.put (Below.refl _ _) o.dst hd b9;rcases he with rfl|rfl
  ·exact⟨A.defers,v,E,v,rfl,_,_,_,⟨rfl,rfl⟩,D⟩
  ·exact⟨A.defers,v,E,v,rfl,_,_,_,⟨rfl,rfl⟩,D⟩
def zi2(s:List UInt8)(p:Int):Bool:=Nat.blt p.toNat s.length
def jb7(p:Int):Int:=(p.toNat:Int)
def z4y(s:List UInt8)(p:Int):Int:=((Utf8.decode ⟨⟨s⟩⟩ p.toNat).1:Int)
def zhq(s:List UInt8)(p:Int):Int:=((p.toNat+(Utf8.decode ⟨⟨s⟩⟩ p.toNat).2:Nat):Int)
def ja4(P:Program)(t:TypeId)(o:Oper)(a:Nat)(G:EG)(x:TS):Option SR:=match zc3 P t with
 |false=>none
 |true=>match z6 o with
  |false=>none
  |true=>match Zh .str x with
   |none=>none
   |some s=>some (.mem (.own a (nv G a)) a ⟨nv G a,some (.obj .si (s,0,()))⟩ [])
def jis(o:Oper)(G:EG)(x:TS):Option SK:=match z6 o with
 |false=>none
 |true=>match x with
  |.own id a=>match Nat.beq (G id).ver a with
   |true=>match (G id).b with
    |some (.obj .si y)=>some ⟨λk=>ifB (zi2 y.1 y.2.1) (k (.tup [.c (.bool true),.v ⟨.int .i64,jb7 y.2.1⟩,.v ⟨.int .i32,z4y y.1 y.2.1⟩]) [(id,⟨a,some (.obj .si (y.1,zhq y.1 y.2.1,()))⟩)] ⟨[],[id]⟩) (k (.tup [.c (.bool false)]) [] ⟨[id],[]⟩)⟩
    |_=>none
   |false=>none
  |_=>none
section
variable{P:Program}{o:Oper}{E:EF}{G:EG}{H:PHeap}{F:PFrame}{W:Env}{n:Nat}
theorem jfb{t:TypeId}{b:Nat}{x:Operand}{q:SR}(r:o.op=.range t x)(h:ja4 P t o b G (evE E x)=some q):SOk P o E G q:=by
 have l:x∈o.op.operands:=by rw[r];simp[Op.operands]
 unfold ja4 at h;split at h<;>try (cases h;done)
 rename_i d;split at h<;>try (cases h;done)
 rename_i y;split at h<;>cases h;rename_i s A;have B:P.underlying t=some .string:=by
  unfold zc3 at d;split at d
  ·assumption
  ·cases d
 refine SOk.mem λW n F H j c V a w e=>?_;have m:a.eval x=.string ⟨⟨s⟩⟩:=by
  have:=Rp.eval (P:=P) (F:=F) (a:=a) (Z:=W.Z) (H:=H) (V:=V) (w:=w) x λt _=>e.slot t;rw[c.ev l,Jc A]at this;generalize a.eval x=v at this;cases this;rfl
 have k:(execOp a.eval o).run P w=.ok (.value (.pointer (some ⟨w.heap.size,0,none⟩))) (w.alloc (.stringIter ⟨⟨s⟩⟩ 0)):=by
  simp[execOp,r,m,Instr.range,run_underlying B]
 refine yv k ⟨.ps (.o b) (nv G b),H.set (.o b) ⟨(H (.o b)).ver+1,some (RK.den .si (s,0,()))⟩,yq V (.o b) (.pointer (some ⟨w.heap.size,0,none⟩)),⟨by simp only[TS.den],?_⟩,?_⟩
 ·rw[zrz c];rfl
 ·have u:Below w.heap.size w (w.alloc (.stringIter ⟨⟨s⟩⟩ 0)):=(Below.refl _ _).alloc (wcq _) _;refine e.turn (wal e.heap u rfl λg z=>by cases z;exact wcq _) (λC f=>?_) o.dst (λt d=>j t d) ?_
  ·cases f;exact⟨w.heap.size,_,[],rfl,e.heap.below.size,heap_alloc_new w _,rfl,rfl,λi p v h=>by simp at h⟩
  ·refine .ps _ _ _ ?_ λ_ _=>?_
   ·simp[PHeap.set,zrz c]
   ·simp[yq]
theorem jo2{id ver:Nat}{y:List UInt8×Int×Unit}(b:G id=⟨ver,some (.obj .si y)⟩)(c:H (.o id)=v6 id (G id)){V:Nm->Value}{w:World}(i:HRel P W H V w){v:Value}(j:Rp W.Z H V w (.ps (.o id) ver) v):
  ∃g,v=.pointer (some ⟨g,0,none⟩)/\V (.o id)=.pointer (some ⟨g,0,none⟩)/\W.w.heap.size<=g/\w.heap[g]?=some (.stringIter ⟨⟨y.1⟩⟩ y.2.1.toNat):=by
 have a:H (.o id)=⟨ver,some (RK.den .si y)⟩:=by rw[c,b];rfl
 obtain⟨g,o,l,e,d,f,rfl,_⟩:=i.map (.o id) true [] _ (by rw[a];rfl);cases j with
 |ps _ _ _ k h=>
  have:=h (by rw[a];rfl) (by rw[a]);exact⟨g,by rw[this,e];rfl,e,d,f⟩
theorem jky{x:Operand}{q:SK}(ho:o.op=.next x true)(h:jis o G (evE E x)=some q):zxk P o E G q:=by
 have D:x∈o.op.operands:=by rw[ho];simp[Op.operands]
 unfold jis at h;split at h<;>try (cases h;done)
 rename_i b1;split at h<;>try (cases h;done)
 rename_i id z hx;split at h<;>try (cases h;done)
 rename_i hv;split at h<;>cases h;rename_i y N;have I:G id=⟨z,some (.obj .si y)⟩:=by
  cases I:G id with
  |mk v b=>
   rw[I]at hv N;simp only at hv N;rw[qc hv,N]
 intro β k r O;simp only at O;cases K:zi2 y.1 y.2.1 with
 |false=>
  rw[K]at O;refine⟨_,_,_,O,λk2=>by simp only[K];rfl,λa8 h=>by simp at h,λW n F H J A T U=>?_⟩;have l:Agr o E G [id] F H:=⟨T,λi hi=>U i (.inl hi)⟩
  refine wau A (waf λV a w hw hh=>?_) ⟨rfl,rfl⟩;have c:=hh x D;rw[l.ev D,hx]at c;simp only[TS.den]at c;obtain⟨g,R,S,e3,Q⟩:=jo2 I (l.h id (by simp)) hw c;have B:¬y.2.1.toNat<y.1.length:=by
   intro h;have:zi2 y.1 y.2.1=true:=by simpa [zi2,wfk]using h
   rw[K]at this;cases this
  refine⟨.tuple #[.bool false],?_,?_⟩
  ·have hs:¬y.2.1.toNat<(⟨⟨y.1⟩⟩:ByteArray).size:=by simpa [ByteArray.size]using B
   simp[execOp,ho,R,Instr.next,getObj,Sem.run,Q,hs]
  ·simp only[TS.den,yo];exact .tup _ _ rfl λi p v m s=>by
    match i,m,s with
    |0,m,s=>cases m;cases s;exact .u _
 |true=>
  rw[K]at O;refine⟨_,_,_,O,λk2=>by simp only[K];rfl,λa8 h=>by simpa using h,λW n F H J A T U V a w f=>?_⟩;have l:Agr o E G [id] F H:=⟨T,λi hi=>U i (.inr (by simpa using hi))⟩
  have c:=Rp.eval (P:=P) (F:=F) (a:=a) (Z:=W.Z) (H:=H) (V:=V) (w:=w) x λt _=>f.slot t;rw[l.ev D,hx]at c;simp only[TS.den]at c;have M:=l.h id (by simp);obtain⟨g,R,S,e3,Q⟩:=jo2 I M f.heap c;have B:y.2.1.toNat<y.1.length:=by simpa [zi2,wfk]using K
  have hs:y.2.1.toNat<(⟨⟨y.1⟩⟩:ByteArray).size:=by simpa [ByteArray.size]using B
  have L:H (.o id)=⟨z,some (RK.den .si y)⟩:=by rw[M,I];rfl
  have hl:(H (.o id)).body.isSome=true:=by rw[L];rfl
  have a1:=(wdh.1 Q).1;have d:∀(o:Obj)b,b≠g->(w.heap.setIfInBounds g o)[b]?=w.heap[b]?:=λo b a4=>by simp[Ne.symm a4]
  have Y:(execOp a.eval o).run P w=.ok (.value (.tuple #[.bool true,.int .i64 (y.2.1.toNat:Int),.int .i32 ((Utf8.decode ⟨⟨y.1⟩⟩ y.2.1.toNat).1:Int)])) { w with heap:=w.heap.setIfInBounds g (.stringIter ⟨⟨y.1⟩⟩ (y.2.1.toNat+(Utf8.decode ⟨⟨y.1⟩⟩ y.2.1.toNat).2)) }:=by
   simp[execOp,ho,R,Instr.next,getObj,setObj,Sem.run,Q,hs,goInt]
  have C:Turn W H V w (.o id) ⟨z,some (RK.den .si (y.1,zhq y.1 y.2.1,()))⟩ (V (.o id)) { w with heap:=w.heap.setIfInBounds g (.stringIter ⟨⟨y.1⟩⟩ (y.2.1.toNat+(Utf8.decode ⟨⟨y.1⟩⟩ y.2.1.toNat).2)) }:=
   ⟨f.heap.below.trans ⟨rfl,rfl,rfl,by simp,λb N=>d _ b (by omega)⟩,by simp,λb N hn=>d _ b λe=>hn ⟨hl,by rw[e,S];rfl⟩,λg' a0=> .inr ⟨hl,a0⟩,.inr ⟨by rw[L],rfl,hl⟩⟩
  refine yv Y ⟨_,_,yq V (.o id) (V (.o id)),⟨rfl,z0n (x:=⟨z,some (.obj .si (y.1,zhq y.1 y.2.1,()))⟩) rfl λj=>by rw[(l.hn id (by simp)).2,I];rfl⟩,f.turn C (λbd X=>?_) o.dst A ?_⟩
  ·cases X;exact⟨g,.stringIter ⟨⟨y.1⟩⟩ (y.2.1.toNat+(Utf8.decode ⟨⟨y.1⟩⟩ y.2.1.toNat).2),[],S,e3,by simp[a1],by show Obj.stringIter _ _=Obj.stringIter _ _;rw[show(zhq y.1 y.2.1).toNat=y.2.1.toNat+(Utf8.decode ⟨⟨y.1⟩⟩ y.2.1.toNat).2 from wcx _],rfl,λi p v h=>by simp at h⟩
  ·simp only[TS.den,yo];exact .tup _ _ rfl λi p v m s=>by
    match i,m,s with
    |0,m,s=>cases m;cases s;exact .u _
    |1,m,s=>cases m;cases s;exact .u _
    |2,m,s=>cases m;cases s;exact .u _
end
def stK(P:Program)(q:Option SR)(a:Nat)(o:Oper)(E:EF)(G:EG):Option SK:=match o.op with
 |.next x true=>jis o G (evE E x)
 |.range t x=>match ja4 P t o a G (evE E x)with
  |some q=>some (q.k G)
  |none=>none
 |_=>match q with
  |some q=>some (q.k G)
  |none=>none
theorem stK_ok{P:Program}{q:Option SR}{c:Nat}{o:Oper}{E:EF}{G:EG}(d:∀x,q=some x->SOk P o E G x){r:SK}(h:stK P q c o E G=some r):zxk P o E G r:=by
 unfold stK at h;split at h
 ·rename_i x a;exact jky a h
 ·rename_i t x a;split at h<;>cases h;rename_i e b;exact(jfb a b).k
 ·split at h<;>cases h;exact(d _ rfl).k
def zru(a:List Nat)(keep:Bool):List Nat->Nat->List Nat
 |[],_=>[]
 |i::r,j=>match eqb (zky a j) keep with
  |true=>zru a keep r (j+1)
  |false=>i::zru a keep r (j+1)
def zi8:List Nat->Bool
 |[]=>true
 |x::r=>!(zky r x) && zi8 r
theorem zg5:∀{l:List Nat},zi8 l=true->l.Nodup
 |[],_=>List.nodup_nil
 |x::r,h=>by
  simp only[zi8,wcl,weg]at h;refine wfl.2 ⟨λa=>?_,zg5 h.2⟩;rw[zgt.2 a]at h;cases h.1
def from_(b:Nat):List Nat->List Nat
 |[]=>[]
 |x::r=>match Nat.ble b x with
  |true=>x::from_ b r
  |false=>from_ b r
def numL:Nat->List Nat->List (Nat×Nat)
 |_,[]=>[]
 |i,x::r=>(i,x)::numL (i+1) r
def upTo:Nat->Nat->List Nat
 |0,_=>[]
 |m+1,i=>i::upTo m (i+1)
def z8b(L:List Nat)(b:Nat)(a:List (Nat×Nat)):Bool:=zi8 (L++a.map Prod.fst) && zi8 (a.map Prod.snd) && a.all λx=>Nat.ble b x.2
theorem z6g{L:List Nat}{b:Nat}{a:List (Nat×Nat)}(h:z8b L b a=true):zvn L b a:=by
 unfold z8b at h;simp only[wcl,wdx]at h;exact⟨zg5 h.1.1,zg5 h.1.2,λx c=>wd2 (h.2 x c)⟩
def liveUp(G:EG)(b:Nat):List Nat:=zcb G ((upTo b 0).map λX=>(X,1))
def newL(b a:Nat)(G':EG)(s:TS):Option (List (Nat×Nat)):=match zro G' 1000 (zcb G' (idvT s)++liveUp G' b) []with
 |some c=>some (numL a (from_ b c))
 |none=>none
structure IE where
 f:FuncId
 n:Nat
 rs:List ResultVar
 c:Code
 hint:Nat->Option HK
 ctx:Nat
 un:List Nat
def jkp(P:Program)(x:IE):Prop:=∃fn,P.funcs[x.f]?=some fn/\fn.body=some x.c/\fn.ntmps=x.n/\fn.results.toList=x.rs/\V9 P x.f=true
def inlX{β:Type}(P:Program)(x:IE)(L:List Nat)(b nid:Nat)(G:EG)(k:TS->List (Nat×GB)->RT->Option β):EK β:=λe nx E' G'=>match e with
 |.normal=>inlR E' G'
 |.ret=>inlR E' G'
 |_=>none
where
 inlR (E':EF) (G':EG):Option β:=match zte P x.rs E' G' with
  |none=>none
  |some s=>match newL b nid G' s with
   |none=>none
   |some NL=>match z8b L b NL with
    |true=>k (zfc (zbe L b G G' NL) s) (ztt L b G G' NL) ⟨[],L++NL.map Prod.fst⟩
    |false=>none
def inlK(P:Program)(g:SyT)(fuel:Nat)(x:IE)(e:Call)(d:Nat)(E:EF)(G:EG):Option SK:=match z2z E e with
 |none=>none
 |some (f,b)=>match Nat.beq f x.f && Nat.ble b.length x.n with
  |false=>none
  |true=>match zro G 1000 (zcb G (zil b)) []with
   |none=>none
   |some a=>match zru x.un true a 0 with
    |L0=>match L0++zru x.un false a 0 with
     |L=>match zi8 L with
      |false=>none
      |true=>some ⟨λk=>q7 g fuel x.hint x.ctx L0.length x.n x.c 1 L.length (jgs (V6 (mu1 L L.length G) b)) (inG L G) (inlX P x L L0.length d G k)⟩
theorem z0l{β:Type}{P:Program}{x:IE}{L:List Nat}{b d:Nat}{G:EG}{k:TS->List (Nat×GB)->RT->Option β}{e:Exit}{nx:Nat}{f:EF}{G':EG}{r:β}(h:inlX P x L b d G k e nx f G'=some r):
  (e=.normal\/e=.ret)/\∃s a,zte P x.rs f G'=some s/\z8b L b a=true/\k (zfc (zbe L b G G' a) s) (ztt L b G G' a) ⟨[],L++a.map Prod.fst⟩=some r /\
   ∀{γ:Type}(c:TS->List (Nat×GB)->RT->Option γ),inlX P x L b d G c e nx f G'=c (zfc (zbe L b G G' a) s) (ztt L b G G' a) ⟨[],L++a.map Prod.fst⟩:=by
 have g:∀{β:Type}{k:TS->List (Nat×GB)->RT->Option β}{r:β},inlX.inlR P x L b d G k f G'=some r->∃s a,zte P x.rs f G'=some s/\z8b L b a=true/\k (zfc (zbe L b G G' a) s) (ztt L b G G' a) ⟨[],L++a.map Prod.fst⟩=some r /\
   ∀{γ:Type}(c:TS->List (Nat×GB)->RT->Option γ),inlX.inlR P x L b d G c f G'=c (zfc (zbe L b G G' a) s) (ztt L b G G' a) ⟨[],L++a.map Prod.fst⟩:=by
  intro β k r h;unfold inlX.inlR at h;split at h<;>try (cases h;done)
  rename_i s n;split at h<;>try (cases h;done)
  rename_i a p;split at h<;>try (cases h;done)
  rename_i o;exact⟨s,a,n,o,h,λc=>by unfold inlX.inlR;rw[n];simp only[p,o]⟩
 unfold inlX at h;split at h
 ·obtain⟨s,a,i,j,l,m⟩:=g h;exact⟨.inl rfl,s,a,i,j,l,λc=>by unfold inlX;exact m c⟩
 ·obtain⟨s,a,i,j,l,m⟩:=g h;exact⟨.inr rfl,s,a,i,j,l,λc=>by unfold inlX;exact m c⟩
 ·cases h
theorem jl3{P:Program}{M:SyT}(A:zw3 P M)(hm:P.follows .mixedOrders=true){fuel:Nat}{x:IE}(hx:jkp P x){o:Oper}{C:Call}(I:o.op=.call C){d:Nat}{E:EF}{G:EG}{q:SK}(h:inlK P M fuel x C d E G=some q):zxk P o E G q:=by
 obtain⟨fn,X,T,D,hr,Y⟩:=hx;unfold inlK at h;split at h<;>try (cases h;done)
 rename_i f az ht;split at h<;>try (cases h;done)
 rename_i a;simp only[wcl]at a;have l:=qc a.1;have m:=wd2 a.2;subst l;split at h<;>try (cases h;done)
 rename_i L z;simp only at h;split at h<;>try (cases h;done)
 rename_i v;cases h;intro β k r J;obtain⟨e,a5,E',G',Q,hu,w⟩:=y5 hm A x.c 1 _ _ _ _ _ J;obtain⟨V,s,NL,hs,j,u,B⟩:=z0l Q;refine⟨_,_,_,u,λK=>?_,λid b=>by rw[zd3]at b;exact b,λW n F H p U R S=>?_⟩
 ·show q7 _ _ _ _ _ _ _ _ _ _ _ (inlX P x _ _ d G K)=_;rw[hu];exact B K
 ·have g:Agr o E G [] F H:=⟨R,λid h=>by cases h⟩
  refine wcc U I (znn I g ht) Y X T (by rw[D];exact m) p (z6g j) (zg5 v) (λi Z=>S i (.inr (by rw[zd3];exact Z))) V (λO N t y=>by rw[D];exact w O N t y) ?_;rw[hr];exact hs
def jg7(it:Nat->Nat->FuncId->Option IE)(ctx a:Nat)(o:Oper)(E:EF):Option (IE×Call):=match o.op with
 |.call b=>match z2z E b with
  |some (f,_)=>match it ctx a f with
   |some x=>some (x,b)
   |none=>none
  |none=>none
 |_=>none
theorem ja6{it:Nat->Nat->FuncId->Option IE}{ctx a:Nat}{o:Oper}{E:EF}{x:IE×Call}(h:jg7 it ctx a o E=some x):o.op=.call x.2/\∃ctx a f,it ctx a f=some x.1:=by
 unfold jg7 at h;split at h<;>try (cases h;done)
 rename_i e b;split at h<;>try (cases h;done)
 rename_i f d g;split at h<;>cases h;rename_i y c;exact⟨b,_,_,_,c⟩
theorem wp_put{P:Program}{o:Oper}{a:Act}{w:World}{K:Act->World->Prop}{Q:Exit->Act->World->Prop}(hh:o.wp P a w K Q):o.wp P a w (λa' w'=>K a' w'/\∃v ds,a' = { a with defers:=ds }.put o.dst v) Q:=by
 unfold Oper.wp at *;generalize (execOp a.eval o).run P w=r at *;cases r with
 |ok n w'=>
  cases n<;>simp only[Oper.upon]at hh⊢ <;>
   first
    |exact⟨hh,_,_,rfl⟩
    |exact⟨hh,_,a.defers,rfl⟩
    |exact Calls.mono hh (λe w'' he=>by cases e<;>first|exact⟨he,_,a.defers,rfl⟩|exact he)
    |exact Rows.mono hh (λ_ _ he=>⟨he,_,a.defers,rfl⟩)
 |halt x w'=>cases x<;>simp only[Oper.upon]at hh⊢<;>exact hh
theorem put_at{a:Act}{ds:List Deferred}{d:Option Nat}{v:Value}{t:Nat}(h:d≠some t):({ a with defers:=ds }.put d v:Act).tmps.getD t undef=a.tmps.getD t undef:=by
 cases d with
 |none=>rfl
 |some d=>
  have e:d≠t:=λe=>h (by rw[e]);simp[Act.put,wfg e]
def z6x(D:List Nat):Nm->Bool:=λy=>match y.rt with
 |some i=>zky D i
 |none=>false
def zwb:List (Nat×Ty)->Nat->Option Ty
 |[],_=>none
 |x::r,t=>match Nat.beq x.1 t with
  |true=>some x.2
  |false=>zwb r t
def jmq(D:List Nat)(sl:List (Nat×Ty))(E:EF)(G:EG):EF:=λt=>match zwb sl t with
 |none=>E t
 |some ty=>match Jv (Zj D G) ty (E t)with
  |some x => .v ⟨ty,x⟩
  |none=>E t
def SR.frz(D:List Nat)(q:SR):SR:={ q with fz:=D }
section
variable{P:Program}{W:Env}{n:Nat}{F:PFrame}{H:PHeap}{o:Oper}{E:EF}{G:EG}{D:List Nat}
theorem zaz(f:∀id∈D,AgN H G id):jbh H (qz H (zgb D G)) (z6x D):=λy=>by
 have d:∀i,y.rt=some i->i∈D->(qz H (zgb D G) y).body=none/\(H y).ver<=(qz H (zgb D G) y).ver:=λi c b=>by
  have g:zgh D G i=⟨(G i).cv+1,none⟩:=by unfold zgh;rw[zgt.2 b]
  rw[(jbt (D:=D) (.inl b)).at c,g,(f i b).at c];cases y<;>cases c
  ·exact⟨rfl,Nat.le_succ_of_le (GB.ver_le _)⟩
  ·exact⟨rfl,Nat.le_succ _⟩
 refine⟨λa=>J0 λi b e=>?_,λa=>?_⟩
 ·rw[zbk]at b;unfold z6x at a;rw[e]at a;simp only[zgt.2 b]at a;cases a
 ·unfold z6x at a;split at a
  ·rename_i i c;exact d i c (zgt.1 a)
  ·cases a
theorem jlo{id:Nat}(h:AgN H (Zj D G) id)(c:((Zj D G) id).b.isSome=true):AgN (H.only (z6x D)) (Zj D G) id:=by
 have a:zky D id=true:=by
  cases a:zky D id with
  |true=>rfl
  |false=>unfold Zj at c;rw[a]at c;simp at c
 refine wb3 λk d=>?_;unfold PHeap.only z6x;rw[d];simp only[a,if_true];exact h.at d
open Classical in
theorem SOk.frz{sl:List (Nat×Ty)}{q:SR}(A:q.fz=[])(h:SOk P o (jmq D sl E G) (zgh D G) q):SOk P o E G (q.frz D):=by
 obtain⟨I,h2⟩:=h;refine⟨I,λx T W n F H l hd L N V a w r=>?_⟩;have m:∀id∈D,AgN H G id:=λid d=>N id (.inr (.inr d));have hq:∀id,id∈q.rd\/id∈q.tc\/id∈q.fz->AgN (qz H (zgb D G)) (zgh D G) id:=λid d=>by
  refine jbt ?_;rcases d with d|d|d
  ·exact .inr (N id (.inl d))
  ·exact .inr (N id (.inr (.inl d)))
  ·rw[A]at d;cases d
 let C:PFrame:=λt=>match zwb sl t with
  |none=>F t
  |some ty=>match Jv (Zj D G) ty (E t)with
   |some x=>if Operand.tmp t∈o.op.operands then enc ty x else F t
   |none=>F t
 have M:∀t,Operand.tmp t∈o.op.operands->C t=(jmq D sl E G t).den:=λt S=>by
  show(match zwb sl t with|none=>F t|some ty=>match Jv (Zj D G) ty (E t)with|some x=>if Operand.tmp t∈o.op.operands then enc ty x else F t|none=>F t)=_;unfold jmq;cases zwb sl t with
  |none=>exact L t S
  |some ty=>
   simp only;cases Jv (Zj D G) ty (E t)with
   |none=>exact L t S
   |some x=>simp only[if_pos S,TS.den]
 let s:Env:=W.push F a
 have y:FlW s C (qz H (zgb D G)):=by
  refine⟨λi=>?_,λt=>?_,λk bd hb c hc=>?_⟩
  ·simp only[s,Env.push];split
   ·exact l.f _
   ·exact l.g _
  ·show Fl (match zwb sl t with|none=>F t|some ty=>match Jv (Zj D G) ty (E t)with|some x=>if Operand.tmp t∈o.op.operands then enc ty x else F t|none=>F t);split
   ·exact l.f t
   ·split
    ·split
     ·exact .noP (zb7 _ _)
     ·exact l.f t
    ·exact l.f t
  ·exact l.h k bd (zqc (zaz m) hb).2 c hc
 have B:Rel P s n C (qz H (zgb D G)) V a w:=by
  refine⟨?_,r.size,r.defers,λt=>?_⟩
  ·have z:=r.heap.less (zaz m);refine⟨z.below,z.body,λi=>?_,z.apart,z.zlt,z.nz⟩;simp only[s,Env.push];split
   ·exact(r.slot _).less (zaz m)
   ·exact(r.heap.ghost _).less (zaz m)
  ·show Rp W.Z (qz H (zgb D G)) V w (match zwb sl t with|none=>F t|some ty=>match Jv (Zj D G) ty (E t)with|some x=>if Operand.tmp t∈o.op.operands then enc ty x else F t|none=>F t) _;split
   ·exact(r.slot t).less (zaz m)
   ·rename_i ty a9;split
    ·rename_i x T;split
     ·rename_i Q;have hv:=(Yb (H:=H.only (z6x D)) (λid X=>?_) ty (E t) x T).1
      ·have I:=(r.slot t).only (D:=z6x D);rw[L t Q]at I;have K:=hv P (W.kept H V (z6x D)) V w r.heap.only _ I;refine K.noP (zb7 _ _) (λb _ hz u=>hz (Qz.2 ?_)) (wcq _);rcases u with u|⟨id,K,h4⟩
       ·exact .inl u
       ·exact .inr ⟨id,(zbh (zaz m) K).1,(zbh (zaz m) K).2,h4⟩
      ·refine jlo (zi4 m id X) X
     ·exact(r.slot t).less (zaz m)
    ·exact(r.slot t).less (zaz m)
 have R:=h2 x T s n C (qz H (zgb D G)) y hd M hq V a w B;refine Oper.wp_mono (λa' w'⟨⟨p,Y,J,⟨hp,O⟩,j⟩,v,ds,ha⟩=>?_) (wp_put R);refine⟨p,Y,J,⟨hp,?_⟩,?_⟩
 ·rw[O];show zle (qz (qz H (zgb D G)) (zgb q.fz (zgh D G))) (q.w x)=zle (qz H (zgb D G)) (q.w x);rw[A];rfl
 ·have U:=j.heap.ghost;refine⟨⟨j.heap.below,j.heap.body,λi=>?_,j.heap.apart,j.heap.zlt,j.heap.nz⟩,j.size,j.defers,λt=>?_⟩
  ·have:=U (2*i+1);simp only[s,Env.push,show ¬((2*i+1) % 2=0) by omega,if_false]at this;rwa [show(2*i+1) / 2=i by omega]at this
  ·by_cases e:o.dst=some t
   ·have:=j.slot t;simp only[PFrame.put,if_pos e]at this⊢;exact this
   ·simp only[PFrame.put,if_neg e];have:=U (2*t);simp only[s,Env.push,Nat.mul_mod_right,if_true]at this;rw[show 2*t / 2=t by omega]at this;rw[ha,put_at e];exact this
end
def ji7(P:Program)(d:Nat->Prm)(fz:Nat->Nat->List (Nat×Ty)):Sy1:=λa c b o E G=>match fz a b with
 |[]=>jdg P (d a) a c b o E G
 |sl=>match zro G 1000 (zcb G (zil (sl.map λx=>E x.1))) []with
  |none=>none
  |some D=>match zi8 D with
   |false=>none
   |true=>match jdg P (d a) a c b o (jmq D sl E G) (zgh D G)with
    |some q=>match q.fz with
     |[]=>some (q.frz D)
     |_=>none
    |none=>none
theorem jhr{P:Program}{a:Nat->Prm}{fz:Nat->Nat->List (Nat×Ty)}(j:∀c,Vw P (a c).S)(f:∀c,zgc P (a c).zt)(b:∀c,zgc P (a c).zt2):∀e g d o E G q,ji7 P a fz e g d o E G=some q->SOk P o E G q:=λe g d o E G q h=>by
 unfold ji7 at h;split at h
 ·exact z8a (j _) (f _) (b _) _ _ _ _ _ _ _ h
 ·split at h<;>try (cases h;done)
  rename_i D k;split at h<;>try (cases h;done)
  split at h<;>try (cases h;done)
  rename_i l i;split at h<;>cases h;rename_i hz;exact SOk.frz hz (z8a (j _) (f _) (b _) _ _ _ _ _ _ _ i)
theorem flatI(l:List Int):l.flatMap (jq (.int .i64))=l.map I:=by
 induction l with
 |nil=>rfl
 |cons a l b=>rw[wdd,b];rfl
theorem z6w(i tid v:Nat)(l:List Int):v6 i ⟨v,some (.row tid (.int .i64) l)⟩=⟨v,some (.row tid 1 l.length (l.map I))⟩:=
 congrArg (λcs=>(⟨v,some (.row tid 1 l.length cs)⟩:zlj)) (flatI l)
def zxp(G:EG)(x:TS):Option (Nat×Nat×List Int):=match x with
 |.own id a=>match Nat.beq (G id).ver a with
  |true=>match (G id).b with
   |some (.row c t l)=>match Nat.beq c 3 with
    |true=>match Dyn.as ⟨.sl t,l⟩ (.sl (.int .i64))with
     |some l=>some (id,a,l)
     |none=>none
    |false=>none
   |_=>none
  |false=>none
 |_=>none
theorem zo3{G:EG}{x:TS}{r:Nat×Nat×List Int}(h:zxp G x=some r):x=.own r.1 r.2.1/\G r.1=⟨r.2.1,some (.row 3 (.int .i64) r.2.2)⟩:=by
 unfold zxp at h;split at h<;>try (cases h;done)
 rename_i id j;split at h<;>try (cases h;done)
 rename_i d;split at h<;>try (cases h;done)
 rename_i i t l c;split at h<;>try (cases h;done)
 rename_i g;split at h<;>cases h;rename_i k f;have:=wag f;injection this with e1 a
 injection e1 with e1
 subst e1;have a:=eq_of_heq a;subst a;refine⟨rfl,?_⟩;simp only;cases e:G id with
 |mk v b=>
  rw[e]at d c;simp only at d c;rw[qc d,c,qc g]
def je8(l:List Int):BD :=.row 3 (.int .i64) l
def jpb(o:Oper)(a:Nat)(G:EG)(f:FuncId)(x:TS):Option SR:=match Nat.beq f 182 with
 |true=>match zxp G x with
  |some r=>some ⟨List Int,false,small7 r.2.2 (za6 r.2.2),λ_=> .c (.tuple #[]),λb=>[(r.1,⟨r.2.1,some (je8 b)⟩)],[],[r.1],[]⟩
  |none=>none
 |false=>match Nat.beq f 183 with
  |true=>match zxp G x with
   |some r=>some ⟨List Int,false,small7 r.2.2 (Vi r.2.2),λ_=> .own r.1 (r.2.1+1),λb=>[(r.1,⟨r.2.1+1,some (je8 b)⟩)],[],[r.1],[]⟩
   |none=>none
  |false=>match Nat.beq f 109 with
   |true=>match z6 o with
    |true=>match zxi x with
     |true=>match toT (.sl (.int .i64)) x with
      |some l=>some ⟨List Int,false,small7 l l,λ_=> .own a ((G a).ver+1),λb=>[(a,⟨(G a).ver+1,some (je8 b)⟩)],[],[a],[]⟩
      |none=>none
     |false=>match zxp G x with
      |some r=>match Nat.beq r.1 a with
       |true=>none
       |false=>some ⟨List Int,false,small7 r.2.2 r.2.2,λ_=> .own a ((G a).ver+1),λb=>[(a,⟨(G a).ver+1,some (je8 b)⟩)],[r.1],[a],[]⟩
      |none=>none
    |false=>none
   |false=>none
def Zb{α:Type}(l:List α)(z:Int):Option (List α):=match decide (0<=z) && decide (z<=l.length)with
 |true=>some (l.take z.toNat)
 |false=>none
def ja8(es:Option Nat)(o:Oper)(G:EG)(x y:TS):Option SR:=match z6 o with
 |false=>none
 |true=>match x with
  |.own id a=>match Nat.beq (G id).ver a with
   |true=>match (G id).b with
    |some (.row c t l)=>match oeq es (some (wid t))with
     |true=>vu (zeu y) λz=>some ⟨List t.D,false,Zb l z,λ_=> .own id (a+1),λd=>[(id,⟨a+1,some (.row c t d)⟩)],[],[id],[]⟩
     |false=>none
    |_=>none
   |false=>none
  |_=>none
def jho(ty:TypeId)(x i:TS):Option SR:=match x with
 |.v ⟨.arr n t,a⟩=>match arr Tryz.prog ty with
  |some (d,k)=>match jks Tryz.prog ty with
   |some e=>match asz Tryz.prog e with
    |some (b,c)=>match Nat.beq d n && Nat.beq k (wid t) && Nat.beq c k && (b ||Nat.beq k 1)with
     |true=>vu (zeu i) λz=>some (.dat t.D (atL a.l z) (λy=>zct b [.v ⟨t,y⟩]) [])
     |false=>none
    |none=>none
   |none=>none
  |none=>none
 |_=>none
def sLib(o:Oper)(a:Nat)(E:EF)(G:EG):Option SR:=match o.op with
 |.index t x i=>jho t (evE E x) (evE E i)
 |.slice t x none (some y) none=>ja8 (esz Tryz.prog t) o G (evE E x) (evE E y)
 |.call ⟨.value (.func f),⟨[x]⟩,_⟩=>jpb o a G f (evE E x)
 |_=>none
section
variable{P:Program}{o:Oper}{E:EF}{G:EG}
theorem jjs{ty:TypeId}{x i:Operand}{q:SR}(C:o.op=.index ty x i)(h:jho ty (evE E x) (evE E i)=some q):SOk Tryz.prog o E G q:=by
 have K:x∈o.op.operands:=by rw[C];simp[Op.operands]
 have w:i∈o.op.operands:=by rw[C];simp[Op.operands]
 unfold jho at h;split at h<;>try (cases h;done)
 rename_i n t a O;split at h<;>try (cases h;done)
 rename_i R k s;split at h<;>try (cases h;done)
 rename_i e r;split at h<;>try (cases h;done)
 rename_i ag S I;split at h<;>try (cases h;done)
 rename_i L;simp only[wcl]at L;obtain⟨⟨⟨f,g⟩,j⟩,m⟩:=L;have f:=qc f;have g:=qc g;have j:=qc j;subst f;subst g;subst j;obtain⟨z,hz,h⟩:=qb h;cases h;obtain⟨Q,A⟩:=Ye hz;refine SOk.dat λy P W F H b=>?_;obtain⟨h0,d⟩:=Zt P;obtain⟨rest,N⟩:=zdo (jq t) (wid t) a.l (λx _=>qa t x) _ _ d;obtain⟨p,c,D⟩:=jc6 (ag:=ag) (k:=wid t) (xs:=[.v ⟨t,y⟩]) (rest:=rest) (by simp only[qd,TS.den,enc_cells,wc7,qa]) (λe=>by rw[e]at m;simp at m;exact m);refine PQ.ref (qp ?_) D;unfold Vg;rw[C];simp only;rw[b.ev K,b.ev w,A,O];simp only[TS.den];have B:z.toNat<R:=by
  have:=(wcg.1 d).1;rw[a.h]at this;exact this
 have M:qd [.v ⟨t,y⟩]=jq t y:=by simp only[qd,TS.den,enc_cells,wc7]
 rw[M,<- N]at c;show zlr Tryz.prog ty (.agg (a.l.flatMap (jq t))) (.u (.int Q z))=some p;unfold zlr;simp only[s,r];rw[if_pos ⟨h0,B⟩];unfold z1e;rw[I];exact c
theorem jfp{t:TypeId}{x y:Operand}{q:SR}(m:o.op=.slice t x none (some y) none)(h:ja8 (esz Tryz.prog t) o G (evE E x) (evE E y)=some q):SOk Tryz.prog o E G q:=by
 have e:∀{F:PFrame}{z:Operand},z∈o.op.operands->(∀t,Operand.tmp t∈o.op.operands->F t=(E t).den)->evP F z=(evE E z).den:=λ{F z}hz f=>(Agr.mk (rd:=[]) (G:=G) (H:=PHeap.empty) f (λid h=>by cases h)).ev hz;unfold ja8 at h;split at h<;>try (cases h;done)
 rename_i a;obtain⟨d,a⟩:=v8 a;split at h<;>try (cases h;done)
 rename_i id L I;split at h<;>try (cases h;done)
 rename_i p;have p:=qc p;split at h<;>try (cases h;done)
 rename_i K ty l A;split at h<;>try (cases h;done)
 rename_i b;have b:=zhc b;obtain⟨z,hz,h⟩:=qb h;cases h;obtain⟨kd,i⟩:=Ye hz;refine⟨λ_=>rfl,λM k W n F H C B f w=>?_⟩;unfold Zb at k;split at k<;>cases k;rename_i g;simp only[wcl,wcy]at g;obtain⟨j,rfl⟩:∃j:Nat,z=j:=⟨z.toNat,by omega⟩
 have D:j<=l.length:=by omega
 have c:=w id (.inr (by simp));refine wb8 (id :=.o id) (kd:=kd) (j:=j) m a (B d a) b (by rw[e (by rw[m];simp[Op.operands]) f,I];simp only[TS.den]) (zl c.1 A rfl p) (by rw[e (by rw[m];simp[Op.operands]) f,i]) D ⟨by simp only[TS.den],?_⟩;show _=H.set (.o id) (v6 id _);simp only[v6,wc3,BD.den,wcx];have r:(l.take j).length=j:=by rw[wdl];omega
 have s:(l.flatMap (jq ty)).take (j*wid ty)=(l.take j).flatMap (jq ty):=by
  have u:l.flatMap (jq ty)=(l.take j).flatMap (jq ty)++(l.drop j).flatMap (jq ty):=by rw[<- wex,wdq]
  have v:((l.take j).flatMap (jq ty)).length=j*wid ty:=by rw[J6 _ (wid ty) _ λx _=>qa ty x,r]
  rw[u,wfh v]
 rw[r,s]
theorem jlw{a:Nat}{q:SR}(h:sLib o a E G=some q):SOk Tryz.prog o E G q:=by
 unfold sLib at h;split at h<;>try (cases h;done)
 ·rename_i D;exact jjs D h
 ·rename_i D;exact jfp D h
 rename_i f x ts D;have Z:x∈o.op.operands:=by rw[D];simp[Op.operands,Call.operands]
 have L:∀{F:PFrame},(∀t,Operand.tmp t∈o.op.operands->F t=(E t).den)->evP F x=(evE E x).den:=λ{F}z=>(Agr.mk (rd:=[]) (G:=G) (H:=PHeap.empty) z (λid h=>by cases h)).ev Z;have K:∀{H:PHeap}{r:Nat×Nat×List Int},G r.1=⟨r.2.1,some (.row 3 (.int .i64) r.2.2)⟩->AgN H G r.1->H (.o r.1)=⟨r.2.1,some (.row 3 1 r.2.2.length (r.2.2.map I))⟩:=λ{H r}hG k=>by
  rw[k.1,hG];exact z6w _ _ _ _
 have y:∀{H:PHeap}{id v:Nat}{ys:List Int},H.set (.o id) ⟨v,some (.row 3 1 ys.length (ys.map I))⟩=zle H [(id,⟨v,some (je8 ys)⟩)]:=λ{H id v ys}=>congrArg (λb=>H.set (.o id) b) (z6w _ _ _ _).symm;unfold jpb at h;split at h
 ·rename_i s;have s:=qc s;subst s;split at h<;>cases h;rename_i r Q;obtain⟨c,j⟩:=zo3 Q;refine⟨λ_=>rfl,λys R W n F H u C z k=>?_⟩;obtain⟨M,rfl⟩:=zjj R;have O:(za6 r.2.2).length=r.2.2.length:=List.length_mergeSort _;refine wbb (d:=0) (back:=false) (id :=.o r.1) (ver:=r.2.1) (xs:=r.2.2) (ys:=za6 r.2.2) D C (by kernel_rfl) ?_ (K j (k _ (.inr (by simp)))) (λv B w N=>(jjp v r.2.2 B w N M).mono λe w'⟨c,j,T⟩=>⟨_,v,c,by rw[O];exact j,T,λg hg=>hg,by simp⟩) ?_
  ·rw[L z,c];simp only[TS.den]
  ·simp only[wdp,if_false];exact⟨by simp only[TS.den];rfl,y⟩
 ·split at h
  ·rename_i s;have s:=qc s;subst s;split at h<;>cases h;rename_i r Q;obtain⟨c,j⟩:=zo3 Q;refine⟨λ_=>rfl,λys R W n F H u C z k=>?_⟩;obtain⟨M,rfl⟩:=zjj R;refine wbb (d:=0) (back:=true) (id :=.o r.1) (ver:=r.2.1) (xs:=r.2.2) (ys:=Vi r.2.2) D C (by kernel_rfl) ?_ (K j (k _ (.inr (by simp)))) (λv B w N=>(z63 v r.2.2 B w N M).mono λe w'⟨v',c,j,T,h4⟩=>⟨v',v',c,j,T,h4,by simp⟩) ?_
   ·rw[L z,c];simp only[TS.den]
   ·simp only[if_true];exact⟨by simp only[TS.den],y⟩
  ·split at h<;>try (cases h;done)
   rename_i s;have s:=qc s;subst s;split at h<;>try (cases h;done)
   rename_i A;obtain⟨d,A⟩:=v8 A;have S:∀{l:List Int}{rd:List Nat},(∀{W n F H},FlW W F H->Y4 n o->(∀t,Operand.tmp t∈o.op.operands->F t=(E t).den)->(∀id,id∈rd\/id∈[a]\/id∈[]->AgN H G id)->View H (evE E x).den (slI l))->SOk Tryz.prog o E G ⟨List Int,false,small7 l l,λ_=> .own a ((G a).ver+1),λys=>[(a,⟨(G a).ver+1,some (je8 ys)⟩)],rd,[a],[]⟩:=λ{l rd}N=>by
    refine⟨λ_=>rfl,λys R W n F H u C z k=>?_⟩;obtain⟨M,J⟩:=zjj R;cases J;have P:=k a (.inr (by simp));have Y:=N u C z k;have X:zb2 F ⟨.value (.func 109),#[x],ts⟩=some (109,[evP F x]):=by rw[zrq];rfl
    refine wbp (id :=.o a) A (C d A) D X (by kernel_rfl) (qs:=[slI l]) ⟨rfl,λi p q c j=>?_⟩ (jfu M) λm us hR a5=>?_
    ·cases i with
     |zero=>simp at c j;subst c j;rw[L z];exact Y
     |succ i=>simp at c
    ·obtain⟨rfl,rfl⟩:=hR;have e:(H (.o a)).ver=(G a).ver:=by rw[P.1];rfl
     refine⟨by simp only[TS.den,e],?_⟩;rw[e];refine Eq.trans ?_ y;rw[wd8];rfl
   split at h
   ·rename_i V;split at h<;>cases h;rename_i l M;refine S λ{W n F H}u C z k=>?_;have:=(zbt _ _ _ M).2;exact View.ref (View.noP (jdc _ V)) this
   ·split at h<;>try (cases h;done)
    rename_i r Q;obtain⟨c,j⟩:=zo3 Q;split at h<;>cases h;refine S λ{W n F H}u C z k=>?_;have N:=(Yb (G:=Zj [r.1] G) (H:=H) (zi4 λid U=>k _ (.inl U)) (.sl (.int .i64)) (evE E x) r.2.2 ?_).1
    ·exact N
    ·rw[c];simp only[Jv,Zj];have:zky [r.1] r.1=true:=zgt.2 (by simp);simp only[this,j,wev,Dyn.as];rfl
end
def jkd(d:Nat->Prm)(fz:Nat->Nat->List (Nat×Ty)):Sy1:=λc a b o E G=>match sLib o a E G with
 |some q=>some q
 |none=>ji7 Tryz.prog d fz c a b o E G
theorem jit{a:Nat->Prm}{fz:Nat->Nat->List (Nat×Ty)}(i:∀c,Vw Tryz.prog (a c).S)(g:∀c,zgc Tryz.prog (a c).zt)(e:∀c,zgc Tryz.prog (a c).zt2):∀d f b o E G q,jkd a fz d f b o E G=some q->SOk Tryz.prog o E G q:=λd f b o E G q h=>by
 unfold jkd at h;split at h
 ·rename_i k j;cases h;exact jlw j
 ·exact jhr i g e _ _ _ _ _ _ _ h
section
variable{P:Program}{W:Env}{n:Nat}{F:PFrame}{H:PHeap}
theorem wb1{o:Oper}{c:Call}{ps qs:List PV}{f:FuncId}{t:TypeId}{C d:Nat}{id:Nm}{xs:List PV}{k:PV->PHeap->Prop}(hd:o.dst=some d)(L:d<n)(ho:o.op=.call c)(A:zb2 F c=some (f,ps))(hf:V9 P f=true)(hv:ViewL H ps qs)(hn:∀p∈qs,NoF p)(hc:PCall P f qs (· =.fr t C xs))(hs:∀p∈xs.flatMap PV.cells,Sc p)
  (hk:k (.ps id ((H id).ver+1)) (H.set id ⟨(H id).ver+1,some (.row t C xs.length (xs.flatMap PV.cells))⟩)):PE P W n o F H k:=λV a w m=>by
 obtain⟨R,he,Y⟩:=zbx (P:=P) (W:=W) (H:=H) (V:=V) (a:=a) (w:=w) ho A hf λx b2=>Rp.eval (P:=P) x λt A=>m.slot t;have N:=m.heap.below.size;have q:=Y.view m.heap hv;have I:RpL ⟨W.Z.z,w.heap.size⟩ PHeap.empty V0 w qs R:=⟨q.1,λi p v B G=>(q.2 i p v B G).noF (hn p (wck B)) λb _ hz O=>hz (Qz.2 (Qz.1 O))⟩
 refine zj2 he ((hc ⟨W.Z.z,w.heap.size⟩ w R (wa0 m.heap) (wcq _) I).mono λe w'⟨v,p,B,G,a7,S,J⟩=>⟨v,B,?_⟩);subst G;cases S with
 |fr _ _ _ _ j hu h hz T U=>
  refine⟨_,_,yq V id v,hk,?_⟩;have s:∀g,qf v=some g->w.heap.size<=g:=λg M=>(zbs h M).1;have y:w'.ownsRow W.w.heap.size t C v xs.length j:=⟨h.1,by
   rcases h.2 with X|⟨g,D,E,e,M,r⟩
   ·exact .inl X
   ·exact .inr ⟨g,D,E,e,wdk N M,r⟩⟩
  have l:=wal (b':=⟨(H id).ver+1,some (.row t C xs.length (xs.flatMap PV.cells))⟩) (id:=id) (v0:=v) m.heap J rfl s;refine m.turn l (λbd K=>?_) o.dst (λt A=>by rw[hd]at A;cases A;exact L) ?_
  ·cases K;refine⟨j,y,⟨?_,λi p u Q hj=>?_⟩,T⟩
   ·rw[flat_length xs hu,h.1]
   ·exact(U i p u Q hj).sc (hs p (wck Q))
  ·refine .ps _ _ _ ?_ λ_ _=>?_
   ·simp[PHeap.set]
   ·simp[yq]
theorem wbn{id:Nm}{ver k:Nat}{t:TypeId}{xs:List PV}(r:Jf H id ver=some (t,k,xs.length,xs.flatMap PV.cells))(z:∀y∈xs,y.cells.length=k)(s:∀c∈xs.flatMap PV.cells,NoP c):View H (.ps id ver) (.fr t k xs):=λP W V w l v A=>by
 obtain⟨d,g⟩:=zq r;obtain⟨a,x,o,m⟩:=l.row id _ _ _ _ d;cases A with
 |ps _ _ _ B q=>
  have e:=q (by rw[d];rfl) g;subst e;refine .fr t k xs _ a z (Yy (w':=w) x W.hm λ_ _ _=>rfl) (λb f hz=>?_) m λi p u j n=>(o.2 i p u j n).noP (s p (wck j)) λb _ hz h=>hz (.inl (Qz.1 h));exact l.nz id b (by rw[d];rfl) f (Qz.1 hz)
end
def zu7(G:EG)(e:TypeId)(t:Ty)(s:TS):Option (List t.D):=match s with
 |.own id d=>match Nat.beq (G id).ver d with
  |true=>match (G id).b with
   |some (.row a f l)=>match Nat.beq a e with
    |true=>Dyn.as ⟨.sl f,l⟩ (.sl t)
    |false=>none
   |_=>none
  |false=>none
 |.c v=>match jd2 v with
  |true=>some []
  |false=>none
 |_=>none
theorem jee{G:EG}{e:TypeId}{t:Ty}{s:TS}{l:List t.D}{H:PHeap}(j:∀id,(G id).b.isSome=true->AgN H G id)(h:zu7 G e t s=some l):View H s.den (.fr e (wid t) (l.map (enc t))):=by
 unfold zu7 at h;split at h<;>try (cases h;done)
 ·rename_i id o;split at h<;>try (cases h;done)
  rename_i f;have f:=qc f;split at h<;>try (cases h;done)
  rename_i n q p g;split at h<;>try (cases h;done)
  rename_i d;have d:=qc d;subst d;have:=wag h;injection this with e1 a
  injection e1 with e1
  subst e1;have a:=eq_of_heq a;subst a;simp only[TS.den];refine wbn (zl (j id (by rw[g];rfl)).1 g (by simp only[BD.den,wcv,Yg]) f) (λy m=>?_) λc i=>?_
  ·obtain⟨z,_,rfl⟩:=wcz.1 m;rw[enc_cells,qa]
  ·rw[Yg]at i;obtain⟨z,_,hz⟩:=wds.1 i;exact yg _ _ _ hz
 ·split at h<;>cases h;rename_i v k;rw[zut k];simp only[TS.den,wed];exact wbo
def funF(P:Program)(d:SyT)(hint:Nat->Option HK)(n:Nat)(a:List ResultVar)(c:Code)(ats:List Ty)(e:TypeId)(rt:Ty)(nn:Nat)(t:DL ats):Option (List rt.D):=
 q7 d nn hint 0 0 n c 1 0 (jed (zu ats t)) EG.empty λb _ E G=>match b with
  |.normal=>match zte P a E G with
   |some s=>zu7 G e rt s
   |none=>none
  |.ret=>match zte P a E G with
   |some s=>zu7 G e rt s
   |none=>none
  |_=>none
def zoq(P:Program)(f:FuncId)(ats:List Ty)(e:TypeId)(rt:Ty)(g:DL ats->Option (List rt.D)):Prop:=
 V9 P f=true/\∀t r,g t=some r->PCall P f (pvs (zu ats t)) (· =.fr e (wid rt) (r.map (enc rt)))
theorem jof{P:Program}{C:SyT}(x:zw3 P C)(hm:P.follows .mixedOrders=true){hint:Nat->Option HK}{n:Nat}{B:List ResultVar}{c:Code}{ats:List Ty}{ee:TypeId}{rt:Ty}{nn:Nat}{f:FuncId}{fn:Func}(M:P.funcs[f]?=some fn)(K:fn.body=some c)(Q:fn.ntmps=n)(T:fn.results.toList=B)(O:Nat.ble ats.length n=true)(N:V9 P f=true):zoq P f ats ee rt (funF P C hint n B c ats ee rt nn):=by
 subst Q;subst T;refine⟨N,λt r h=>?_⟩;have l:(pvs (zu ats t)).length<=fn.ntmps:=by unfold pvs;rw[wcv,zyc];exact wd2 O
 refine wax M K l λW I=>?_;have G:RestOk 0 R0:=λi J h=>by cases h
 have k:GhOk 0 W:=λi=>by rw[I];exact .unk
 obtain⟨e,nx,A,a,g,_,m⟩:=y5 (P:=P) (fuel:=nn) (hint:=hint) (ctx:=0) (n:=fn.ntmps) (b:=0) hm x c 1 0 (jed (zu ats t)) EG.empty _ r h;have this:=m W R0 k G;rw[z06]at this;rw[zwz];refine PC.mono this λD Y Z⟨h0,E,F⟩=>?_;subst h0;subst E;subst F;have d:∀{o:Option TS},o=zte P fn.results.toList A a->(match o with
   |some s=>zu7 a ee rt s
   |none=>none)=some r->∃q p,z9n P fn (zh A) (qn a R0)=some q/\View (qn a R0) q p/\NoP p/\p=.fr ee (wid rt) (r.map (enc rt)):=λ{o}m h=>by
  cases o with
  |none=>cases h
  |some s=>
   simp only at h;obtain⟨q,S,u⟩:=z5i (R:=R0) m.symm;have U:=jee (H:=qn a R0) (λid _=>⟨rfl,λj=>rfl⟩) h;exact⟨q,_,S,λP W V w X v y=>U P W V w X v (u _ _ _ _ _ y),.fr _ _ _ λc L=>by obtain⟨z,_,rfl⟩:=wcz.1 L;exact zb7 _ _,rfl⟩
 cases D with
 |normal=>exact⟨.inl rfl,d rfl g⟩
 |ret=>exact⟨.inr rfl,d rfl g⟩
 |_=>cases g
theorem z3w{t:Ty}{cs:List PV}(h:∀c∈cs,NoF c)(b:Yc t=false->cs≠[]):NoF (mkV t cs):=by
 unfold mkV;cases a:Yc t with
 |true=>exact .agg _ h
 |false=>
  match cs,b a with
  |c::r,_=>exact h c (by simp)
theorem zc1:∀(t:Ty)(x:t.D),∀c∈jq t x,NoF c
 |.int _,_,c,h=>by simp only[jq,wci]at h;subst h;exact .u _
 |.bool,_,c,h=>by simp only[jq,wci]at h;subst h;exact .u _
 |.str,_,c,h=>by simp only[jq,wci]at h;subst h;exact .u _
 |.sl t,l,c,h=>by
  simp only[jq,wci]at h;subst h;refine .sl _ _ λc e=>?_;obtain⟨x,_,rfl⟩:=wcz.1 e;exact z3w (zc1 t x) (zup x)
 |.ref t,o,c,h=>by
  simp only[jq,wci]at h;subst h;cases o with
  |none=>exact .u _
  |some x=>exact .rp _ (zc1 t x)
 |.arr n t,v,c,h=>by
  simp only[jq]at h;obtain⟨x,_,f⟩:=wds.1 h;exact zc1 t x c f
 |.nil,_,c,h=>by simp[jq]at h
 |.cons a r,x,c,h=>by
  simp only[jq,wco]at h;rcases h with h|h
  ·exact zc1 a _ c h
  ·exact zc1 r _ c h
 |.st r,x,c,h=>by simp only[jq]at h;exact zc1 r _ c h
 |.tup r,x,c,h=>by
  simp only[jq,wci]at h;subst h;exact .tup _ (zl3 r _ (qa r x) (zc1 r x) λb d=>z3w b d)
theorem jmy(t:Ty)(x:t.D):NoF (enc t x):=z3w (zc1 t x) (zup x)
structure FF where
 ats:List Ty
 e:TypeId
 rt:Ty
 g:DL ats->Option (List rt.D)
def zbr(P:Program)(T:FuncId->Option FF):Prop:=∀f x,T f=some x->zoq P f x.ats x.e x.rt x.g
def z9t(T:FuncId->Option FF)(o:Oper)(a:Nat)(E:EF)(G:EG)(c:Call):Option SR:=match z6 o with
 |false=>none
 |true=>match z2z E c with
  |none=>none
  |some (f,b)=>match T f with
   |none=>none
   |some x=>match scT x.rt with
    |false=>none
    |true=>match zro G 1000 (zcb G (zil b)) []with
     |none=>none
     |some D=>match rdV (Zj D G) x.ats b with
      |some t=>some ⟨List x.rt.D,false,x.g t,λ_=> .own a ((G a).ver+1),λl=>[(a,⟨(G a).ver+1,some (.row x.e x.rt l)⟩)],D,[a],[]⟩
      |none=>none
theorem jeg{P:Program}{T:FuncId->Option FF}(w:zbr P T){o:Oper}{a:Nat}{E:EF}{G:EG}{c:Call}{q:SR}(u:o.op=.call c)(h:z9t T o a E G c=some q):SOk P o E G q:=by
 unfold z9t at h;split at h<;>try (cases h;done)
 rename_i b;obtain⟨d,b⟩:=v8 b;split at h<;>try (cases h;done)
 rename_i f O L;split at h<;>try (cases h;done)
 rename_i x N;split at h<;>try (cases h;done)
 rename_i s;split at h<;>try (cases h;done)
 rename_i D Q;split at h<;>cases h;rename_i t m;obtain⟨I,A⟩:=w f x N;refine⟨λ_=>rfl,λr K W n F H C B v k=>?_⟩;have M:=jaf (H:=H) (zi4 λid g=>k id (.inl g)) m;have l:Agr o E G D F H:=⟨v,λid g=>k id (.inl g)⟩
 have i:=k a (.inr (by simp));have e:(H (.o a)).ver=(G a).ver:=by rw[i.1];rfl
 refine wb1 (id :=.o a) b (B d b) u (znn u l L) I M (λp j=>?_) (A t r K) (λp j=>?_) ⟨by simp only[TS.den,e],?_⟩
 ·unfold pvs at j;obtain⟨y,_,rfl⟩:=wcz.1 j;exact jmy _ _
 ·rw[Yg]at j;obtain⟨z,_,hz⟩:=wds.1 j;exact zh4 _ _ s p hz
 ·show _=H.set (.o a) (v6 a _);simp only[v6,wc3,BD.den,e,Yg,wcv]
def jg5(e:Nat->Prm)(fz:Nat->Nat->List (Nat×Ty))(fr:Nat->Nat->Bool)(T:FuncId->Option FF):Sy1:=λb d a o E G=>match fr b a with
 |true=>match o.op with
  |.call c=>z9t T o d E G c
  |_=>none
 |false=>jkd e fz b d a o E G
theorem jj0{a:Nat->Prm}{fz:Nat->Nat->List (Nat×Ty)}{fr:Nat->Nat->Bool}{T:FuncId->Option FF}(j:zbr Tryz.prog T)(i:∀c,Vw Tryz.prog (a c).S)(g:∀c,zgc Tryz.prog (a c).zt)(e:∀c,zgc Tryz.prog (a c).zt2):∀d f b o E G q,jg5 a fz fr T d f b o E G=some q->SOk Tryz.prog o E G q:=λd f b o E G q h=>by
 unfold jg5 at h;split at h
 ·split at h<;>try (cases h;done)
  rename_i c k;exact jeg j k h
 ·exact jit i g e _ _ _ _ _ _ _ h
theorem rp_ofV{Z:ZM}{H:PHeap}{V:Nm->Value}{w:World}{u v:Value}(h:Rp Z H V w (ofV u) v):v=u:=by
 cases u with
 |agg a=>
  simp only[ofV]at h;cases h with
  |agg _ us e d=>
   congr 1;simp only[wcv,Array.length_toList]at e;refine Array.ext (by omega) λi b c=>?_;have:=d i (.u a[i]) us[i] (by simp[c]) (wdj b);generalize us[i]=y at this;generalize a[i]=z at this;cases this;rfl
 |_=>simp only[ofV]at h;cases h;rfl
theorem z7w{t:Ty}{x:t.D}{Z:ZM}{H:PHeap}{V:Nm->Value}{w:World}{v:Value}(h:plT t=true)(a:Rp Z H V w (enc t x) v):v=oV t x:=by
 rw[zx5 t x h]at a;exact rp_ofV a
def z7{α β:Type}(eqb:α->α->Bool):List (α×β×Unit)->α->Option β
 |[],_=>none
 |e::r,k=>match eqb k e.1 with
  |true=>some e.2.1
  |false=>z7 eqb r k
def Z3{α β:Type}(eqb:α->α->Bool):List (α×β×Unit)->α->β->List (α×β×Unit)
 |[],k,v=>[(k,v,())]
 |e::r,k,v=>match eqb k e.1 with
  |true=>(k,v,())::r
  |false=>e::Z3 eqb r k v
def gD{β:Type}(z:β):Option β->β
 |some x=>x
 |none=>z
def ent{α β:Type}(e:α×β×Unit):α×β:=(e.1,e.2.1)
theorem zvi{α β:Type}{eqb:α->α->Bool}{k:α}:∀(l:List (α×β))(i j:Nat),Z9 eqb k l (i+j)=(Z9 eqb k l i).map λr=>(r.1+j,r.2)
 |[],i,j=>rfl
 |e::a,i,j=>by
  unfold Z9;cases eqb k e.1
  ·simp only[wdp,if_false];rw[show i+j+1=i+1+j by omega];exact zvi a (i+1) j
  ·simp
theorem zwq{α β:Type}{eqb:α->α->Bool}{k:α}:∀(l:List (α×β×Unit)),z7 eqb l k=z41 eqb (l.map ent) k
 |[]=>rfl
 |e::a=>by
  unfold z41 z7;simp only[wc4,Z9,ent];cases eqb k e.1
  ·simp only[wdp,if_false];rw[zvi _ 0 1,Option.map_map,zwq a];rfl
  ·rfl
theorem z87{α β:Type}{eqb:α->α->Bool}{k:α}{v:β}:∀(l:List (α×β×Unit)),(Z3 eqb l k v).map ent=jm3 eqb (l.map ent) k v
 |[]=>rfl
 |e::a=>by
  have b:=z87 (eqb:=eqb) (k:=k) (v:=v) a;unfold jm3 at b⊢;unfold Z3;simp only[wc4,Z9,ent];cases eqb k e.1
  ·simp only[wdp,if_false,wc4];rw[zvi _ 0 1,b];cases Z9 eqb k (a.map ent) 0 with
   |none=>rfl
   |some r=>simp[ent]
  ·rfl
structure KY where
 kt:Ty
 eqb:kt.D->kt.D->Bool
def zz3(P:Program)(a:TypeId->Option KY):Prop:=∀k x,a k=some x->plT x.kt=true/\zqi P k (oV x.kt) x.eqb
def znl(P:Program)(t:TypeId):Option (TypeId×TypeId):=match P.underlying t with
 |some (.map k e)=>some (k,e)
 |_=>none
theorem zgw{P:Program}{t:TypeId}{r:TypeId×TypeId}(h:znl P t=some r):P.underlying t=some (.map r.1 r.2):=by
 unfold znl at h;split at h<;>cases h
 assumption
def zvB(P:Program)(e:TypeId)(d:Dyn):Bool:=match (P.info? e).bind (·.zero)with
 |some z=>plT d.t && zyB z d
 |none=>false
theorem jht{P:Program}{e:TypeId}{d:Dyn}(h:zvB P e d=true):plT d.t=true/\∀w,(zeroValue e).run P w=.ok (oV d.t d.x) w:=by
 unfold zvB at h;split at h
 ·rename_i z hz;simp only[wcl]at h;obtain⟨i,b,a⟩:=wdm.1 hz;refine⟨h.1,λw=>?_⟩;obtain⟨c,_⟩:=jkh h.2;have:z=oV d.t d.x:=z7w (Z:=⟨λ_=>False,0⟩) (H:=PHeap.empty) (V:=V0) (w:=w) h.1 (c _ _ _ _ _ (.u z));unfold zeroValue;rw[Sem.run_bind,run_typeInfo w b];simp only[Result.andThen_ok,a];rw[<- this];rfl
 ·cases h
def jif(G:EG)(kt c:Ty)(x:TS):Option (Nat×Nat×List (kt.D×c.D×Unit)):=match x with
 |.own id a=>match Nat.beq (G id).ver a with
  |true=>match (G id).b with
   |some (.obj k y)=>match k.eqB (.mp kt c)with
    |true=>match Dyn.as ⟨k.ty,y⟩ (.sl (.st (.cons kt (.cons c .nil))))with
     |some l=>some (id,a,l)
     |none=>none
    |false=>none
   |_=>none
  |false=>none
 |_=>none
theorem z2u{G:EG}{kt d:Ty}{x:TS}{r:Nat×Nat×List (kt.D×d.D×Unit)}(h:jif G kt d x=some r):x=.own r.1 r.2.1/\G r.1=⟨r.2.1,some (.obj (.mp kt d) r.2.2)⟩:=by
 unfold jif at h;split at h<;>try (cases h;done)
 rename_i id i;split at h<;>try (cases h;done)
 rename_i c;split at h<;>try (cases h;done)
 rename_i k y a;split at h<;>try (cases h;done)
 rename_i f;have:=wa9 f;subst this;split at h<;>cases h;rename_i l g;have:=wag g;injection this with e1 e2
 subst e2;refine⟨rfl,?_⟩;cases e:G id with
 |mk v b=>
  rw[e]at c a;simp only at c a;rw[qc c,a]
def sMp(P:Program)(c:TypeId->Option KY)(zy:ZY)(o:Oper)(b:Nat)(E:EF)(G:EG):Option SR:=match o.op with
 |.makeMap t none=>match znl P t with
  |none=>none
  |some a=>match c a.1 with
   |none=>none
   |some x=>match zy a.2 with
    |none=>none
    |some d=>match z6 o with
     |true=>some ⟨Unit,true,some (),λ_=> .own b (nv G b),λ_=>[(b,⟨nv G b,some (.obj (.mp x.kt d.t) [])⟩)],[],[b],[]⟩
     |false=>none
 |.lookup t x y ok=>match znl P t with
  |none=>none
  |some a=>match c a.1 with
   |none=>none
   |some q=>match zy a.2 with
    |none=>none
    |some d=>match zvB P a.2 d with
     |false=>none
     |true=>match jif G q.kt d.t (evE E x)with
      |none=>none
      |some m=>match toT q.kt (evE E y)with
       |none=>none
       |some k=>match ok with
        |false=>some (.dat (Option d.t.D) (some (z7 q.eqb m.2.2 k)) (λg=> .v ⟨d.t,gD d.x g⟩) [m.1])
        |true=>some (.dat (Option d.t.D) (some (z7 q.eqb m.2.2 k)) (λg=> .tup [.v ⟨d.t,gD d.x g⟩,.v ⟨.bool,g.isSome⟩]) [m.1])
 |.mapUpdate t x y z=>match znl P t with
  |none=>none
  |some a=>match c a.1 with
   |none=>none
   |some q=>match zy a.2 with
    |none=>none
    |some d=>match zvB P a.2 d with
     |false=>none
     |true=>match jif G q.kt d.t (evE E x)with
      |none=>none
      |some m=>match toT q.kt (evE E y)with
       |none=>none
       |some k=>match toT d.t (evE E z)with
        |none=>none
        |some v=>some ⟨List (q.kt.D×d.t.D×Unit),false,some (Z3 q.eqb m.2.2 k v),λ_=>UND,λl=>[(m.1,⟨m.2.1,some (.obj (.mp q.kt d.t) l)⟩)],[],[m.1],[]⟩
 |.call ⟨.builtin .len,⟨[x]⟩,⟨[t]⟩⟩=>match znl P t with
  |none=>none
  |some a=>match c a.1 with
   |none=>none
   |some q=>match zy a.2 with
    |none=>none
    |some d=>match jif G q.kt d.t (evE E x)with
     |none=>none
     |some m=>some (.dat Int (some (m.2.2.length:Int)) (λz=> .v ⟨.int .i64,z⟩) [m.1])
 |_=>none
section
variable{P:Program}{o:Oper}{E:EF}{G:EG}{H:PHeap}{F:PFrame}{W:Env}{n:Nat}
theorem jh5{kt b:Ty}{id ver:Nat}{l:List (kt.D×b.D×Unit)}(d:G id=⟨ver,some (.obj (.mp kt b) l)⟩)(f:H (.o id)=v6 id (G id)){V:Nm->Value}{w:World}(m:HRel P W H V w){v:Value}(n:Rp W.Z H V w (.ps (.o id) ver) v):
  ∃g arr a,v=.map (some g)/\V (.o id)=.map (some g)/\W.w.heap.size<=g/\w.heap[g]?=some (.map arr a)/\arr.toList.map (λe=>(e.key,e.val))=(l.map ent).map λe=>(oV kt e.1,oV b e.2):=by
 have c:H (.o id)=⟨ver,some (jf8 (l.map λe=>(oV kt e.1,oV b e.2.1)))⟩:=by rw[f,d];rfl
 obtain⟨g,o,q,e,i,j,⟨arr,a,rfl,h⟩,_⟩:=m.map (.o id) false [] _ (by rw[c];rfl);cases n with
 |ps _ _ _ p k=>
  have:=k (by rw[c];rfl) (by rw[c]);exact⟨g,arr,a,by rw[this,e];rfl,e,i,j,by rw[h,wd8];rfl⟩
theorem zoe{t:Ty}{s:TS}{x:t.D}(h:toT t s=some x)(a:plT t=true){Z:ZM}{V:Nm->Value}{w:World}{v:Value}(b:Rp Z H V w s.den v):v=oV t x:=z7w a ((zbt t s x h).2 _ _ _ _ _ b)
theorem sMp_ok{ky:TypeId->Option KY}(b5:zz3 P ky){zy:ZY}{l:Nat}{q:SR}(h:sMp P ky zy o l E G=some q):SOk P o E G q:=by
 unfold sMp at h;split at h<;>try (cases h;done)
 ·-- made
  rename_i t C;split at h<;>try (cases h;done)
  split at h<;>try (cases h;done)
  split at h<;>try (cases h;done)
  split at h<;>cases h;rename_i ke B x hx d hd c8;obtain⟨dd,e5⟩:=v8 c8;refine⟨λ_=>rfl,λ_ _ W n F H d0 a0 hF hH V a w R=>?_⟩;have a1:(execOp a.eval o).run P w=.ok (.value (.map (some w.heap.size))) (w.alloc (.map #[] 0)):=by
   simp only[execOp,C];rfl
  have c5:=hH l (.inr (by simp));have S:(H (.o l)).ver+1=nv G l:=by rw[c5.1];rfl
  refine yv a1 ⟨.ps (.o l) (nv G l),H.set (.o l) ⟨(H (.o l)).ver+1,some (jf8 [])⟩,yq V (.o l) (.map (some w.heap.size)),⟨by simp only[TS.den],?_⟩,?_⟩
  ·rw[S];rfl
  ·have L:Below w.heap.size w (w.alloc (.map #[] 0)):=(Below.refl _ _).alloc (wcq _) _;refine R.turn (wal R.heap L rfl λg O=>by cases O;exact wcq _) (λbd J=>?_) o.dst (λt ht=>by exact a0 t ht) ?_
   ·cases J;exact⟨w.heap.size,_,[],rfl,R.heap.below.size,heap_alloc_new w _,⟨#[],0,rfl,rfl⟩,rfl,λi p v h=>by simp at h⟩
   ·refine .ps _ _ _ ?_ λ_ _=>?_
    ·simp[PHeap.set,S]
    ·simp[yq]
 ·-- looked up
  rename_i t x y ok C;split at h<;>try (cases h;done)
  rename_i ke B;split at h<;>try (cases h;done)
  rename_i T hq;split at h<;>try (cases h;done)
  rename_i d hd;split at h<;>try (cases h;done)
  rename_i hz;split at h<;>try (cases h;done)
  rename_i m hm;split at h<;>try (cases h;done)
  rename_i k hk;obtain⟨a3,hK⟩:=b5 _ _ hq;obtain⟨M,hz⟩:=jht hz;have ht:=zgw B;obtain⟨e1,e2⟩:=z2u hm;have s:x∈o.op.operands:=by rw[C];simp[Op.operands]
  have N:y∈o.op.operands:=by rw[C];simp[Op.operands]
  have U:∀{W F H},Agr o E G [m.1] F H->∀(V:Nm->Value)(a:Act)(w:World),HRel P W H V w->(∀x∈o.op.operands,Rp W.Z H V w (evP F x) (a.eval x))->(execOp a.eval o).run P w=.ok (.value (if ok then .tuple #[oV d.t ((z41 T.eqb (m.2.2.map ent) k).getD d.x),.bool (z41 T.eqb (m.2.2.map ent) k).isSome]else oV d.t ((z41 T.eqb (m.2.2.map ent) k).getD d.x))) w:=λ{W F H}c V a w hw Q=>by
   have j:=Q x s;have K:=Q y N;rw[c.ev s,e1]at j;rw[c.ev N]at K;simp only[TS.den]at j;obtain⟨g,arr,I,hv,hV,O,L,he⟩:=jh5 e2 (c.h m.1 (by simp)) hw j;have a2:=zoe hk a3 K;have Y:=z34 hK ht hz k L he ok;simp only[execOp,C,hv,a2,Sem.run_bind,Y,Result.andThen_ok];rfl
  have b4:∀(g:Option d.t.D),gD d.x g=g.getD d.x:=λg=>by cases g<;>rfl
  cases ok with
  |false=>
   cases h;refine SOk.dat λg O W F H c=>waf λV a w hw Q=>⟨_,U c V a w hw Q,?_⟩
   cases O;simp only[TS.den,wdp,if_false];rw[zwq,b4,zx5 _ _ M];exact Rp.ofV _ _ _ _ _
  |true=>
   cases h;refine SOk.dat λg O W F H c=>waf λV a w hw Q=>⟨_,U c V a w hw Q,?_⟩
   cases O;simp only[TS.den,yo,if_true];rw[zwq,b4];refine .tup _ _ rfl λi p v Y h2=>?_
   match i,Y,h2 with
   |0,Y,h2=>cases Y;cases h2;rw[zx5 _ _ M];exact Rp.ofV _ _ _ _ _
   |1,Y,h2=>cases Y;cases h2;exact .u _
 ·-- written
  rename_i t x y z C;split at h<;>try (cases h;done)
  rename_i ke B;split at h<;>try (cases h;done)
  rename_i T hq;split at h<;>try (cases h;done)
  rename_i d hd;split at h<;>try (cases h;done)
  rename_i hz;split at h<;>try (cases h;done)
  rename_i m hm;split at h<;>try (cases h;done)
  rename_i k hk;split at h<;>cases h;rename_i v hv;obtain⟨a3,hK⟩:=b5 _ _ hq;obtain⟨M,hz⟩:=jht hz;have ht:=zgw B;obtain⟨e1,e2⟩:=z2u hm;have s:x∈o.op.operands:=by rw[C];simp[Op.operands]
  have N:y∈o.op.operands:=by rw[C];simp[Op.operands]
  have d8:z∈o.op.operands:=by rw[C];simp[Op.operands]
  refine⟨λ_=>rfl,λl' hl W n F H d0 a0 hF hH V a w R=>?_⟩;cases hl;have c:Agr o E G [m.1] F H:=⟨hF,λid d2=>hH id (.inr (.inl (by simpa using d2)))⟩
  have ev:∀(x:Operand),Rp W.Z H V w (evP F x) (a.eval x):=λx=>Rp.eval (P:=P) x λt _=>R.slot t;have j:=ev x;have K:=ev y;have c1:=ev z;rw[c.ev s,e1]at j;rw[c.ev N]at K;rw[c.ev d8]at c1;simp only[TS.den]at j;have b1:=c.h m.1 (by simp);obtain⟨X,arr,I,d7,hV,b3,L,he⟩:=jh5 e2 b1 R.heap j;have a2:=zoe hk a3 K;have d6:=zoe hv M c1;obtain⟨r,f,b9,c9⟩:=zt5 (vv:=oV d.t) hK ht k v L he;have d4:=(wdh.1 L).1;have A:∀b,b≠X->(w.heap.setIfInBounds X (.map r f))[b]?=w.heap[b]?:=λb d5=>by simp[Ne.symm d5]
  have b0:H (.o m.1)=⟨m.2.1,some (jf8 (m.2.2.map λe=>(oV T.kt e.1,oV d.t e.2.1)))⟩:=by rw[b1,e2];rfl
  have hl:(H (.o m.1)).body.isSome=true:=by rw[b0];rfl
  have a5:Turn W H V w (.o m.1) ⟨m.2.1,some (jf8 ((Z3 T.eqb m.2.2 k v).map λe=>(oV T.kt e.1,oV d.t e.2.1)))⟩ (V (.o m.1)) { w with heap:=w.heap.setIfInBounds X (.map r f) }:=
   ⟨R.heap.below.trans ⟨rfl,rfl,rfl,by simp,λb L=>A b (by omega)⟩,by simp,λb L hn=>A b λe=>hn ⟨hl,by rw[e,hV];rfl⟩,λg' d1=> .inr ⟨hl,d1⟩,.inr ⟨by rw[b0],rfl,hl⟩⟩
  have a1:(execOp a.eval o).run P w=.ok .skip { w with heap:=w.heap.setIfInBounds X (.map r f) }:=by
   simp only[execOp,C,d7,a2,d6,Sem.run_bind,b9,Result.andThen_ok];rfl
  unfold Oper.wp;rw[a1];refine⟨.u undef,_,yq V (.o m.1) (V (.o m.1)),⟨und_den.symm,rfl⟩,R.turn a5 (λbd J=>?_) o.dst a0 (.u _)⟩;cases J;refine⟨X,.map r f,[],hV,b3,by simp[d4],⟨r,f,rfl,?_⟩,rfl,λi p v h=>by simp at h⟩;rw[c9,<- z87,wd8];rfl
 ·-- counted
  rename_i x t C;split at h<;>try (cases h;done)
  rename_i ke B;split at h<;>try (cases h;done)
  rename_i T hq;split at h<;>try (cases h;done)
  rename_i d hd;split at h<;>cases h;rename_i m hm;have ht:=zgw B;obtain⟨e1,e2⟩:=z2u hm;have s:x∈o.op.operands:=by rw[C];simp[Op.operands,Call.operands]
  refine SOk.dat λg O W F H c=>waf λV a w hw Q=>?_;cases O;have j:=Q x s;rw[c.ev s,e1]at j;simp only[TS.den]at j;obtain⟨X,arr,I,hv,hV,b3,L,he⟩:=jh5 e2 (c.h m.1 (by simp)) hw j;refine⟨.int .i64 m.2.2.length,?_,by simp only[TS.den];exact .u _⟩;have b7:arr.size=m.2.2.length:=by have:=congrArg List.length he;simpa using this
  have:(Builtin.len_ #[t] o.type #[.map (some X)]).run P w=.ok (goInt m.2.2.length) w:=by
   simp[Builtin.len_,run_underlying ht,MapKept.run_getObj_map L,b7]
  simp only[execOp,C,resolve,invoke,builtin,Sem.run_bind,Sem.run_pure,Result.andThen_ok,wfv,wc4,wed,hv,this];rfl
end
def jjg(e:TypeId->Option KY)(c:Nat->Prm)(fz:Nat->Nat->List (Nat×Ty))(fr:Nat->Nat->Bool)(T:FuncId->Option FF):Sy1:=λa b d o E G=>match sMp Tryz.prog e (c a).zy o b E G with
 |some q=>some q
 |none=>jg5 c fz fr T a b d o E G
theorem jha{j:TypeId->Option KY}(g:zz3 Tryz.prog j){a:Nat->Prm}{fz:Nat->Nat->List (Nat×Ty)}{fr:Nat->Nat->Bool}{T:FuncId->Option FF}(l:zbr Tryz.prog T)(k:∀c,Vw Tryz.prog (a c).S)(i:∀c,zgc Tryz.prog (a c).zt)(e:∀c,zgc Tryz.prog (a c).zt2):∀d f b o E G q,jjg j a fz fr T d f b o E G=some q->SOk Tryz.prog o E G q:=λd f b o E G q h=>by
 unfold jjg at h;split at h
 ·rename_i n m;cases h;exact sMp_ok g m
 ·exact jj0 l k i e _ _ _ _ _ _ _ h
theorem baEq(a b:List UInt8):((⟨⟨a⟩⟩:ByteArray) == ⟨⟨b⟩⟩)=(a == b):=by
 show ByteArray.beq _ _=_;unfold ByteArray.beq;simp
theorem klawT{P:Program}{k:TypeId}(h:P.underlying k=some .string):zqi P k (oV .str) (λa b=>a == b) where
 chk:=λb x w=>by
  unfold Instr.checkKey;simp only[Sem.run_bind,run_underlying h,Result.andThen_ok];rfl
 und:=⟨_,h,λa b=> .inr (by
  show some ((⟨⟨a⟩⟩:ByteArray) == ⟨⟨b⟩⟩)=some (a == b);rw[baEq])⟩
 eq:=λa b w=>zde h (by
  show some ((⟨⟨a⟩⟩:ByteArray) == ⟨⟨b⟩⟩)=some (a == b);rw[baEq]) w
 beq:=λa b h=>by simpa using h
 bits:=λa=>by
  show((⟨⟨a⟩⟩:ByteArray) == ⟨⟨a⟩⟩)=true;rw[baEq];simp
def zxs{α:Type}(l:List α)(z:Int):Option Nat:=match decide (0<=z) && decide (z<=l.length)with
 |true=>some z.toNat
 |false=>none
def sSlF(es:Option Nat)(G:EG)(x y:TS):Option SR:=match x with
 |.own id a=>match Nat.beq (G id).ver a with
  |true=>match (G id).b with
   |some (.row _ t l)=>match oeq es (some (wid t))with
    |true=>vu (zeu y) λz=>some (.dat Nat (zxs l z) (λj=> .q id (wid t) j a) [id])
    |false=>none
   |_=>none
  |false=>none
 |_=>none
def jjj{α:Type}(a b:List α):Option (Int×List α):=some (((min a.length b.length:Nat):Int),b.take a.length++a.drop b.length)
def sCpy(es:Option Nat)(G:EG)(x y:TS):Option SR:=match x with
 |.own id a=>match Nat.beq (G id).ver a with
  |true=>match (G id).b with
   |some (.row c t l)=>match oeq es (some 1) && (Nat.beq (wid t) 1 && zda t)with
    |true=>match z8x t G y with
     |some r=>some ⟨Int×List t.D,false,jjj l r.1,λy=> .v ⟨.int .i64,y.1⟩,λy=>[(id,⟨a,some (.row c t y.2)⟩)],r.2,[id],[]⟩
     |none=>none
    |false=>none
   |_=>none
  |false=>none
 |_=>none
def b2s(l:List Int):Option (List UInt8):=some (l.map λn=>UInt8.ofNat n.toNat)
def idOf:TS->List Nat
 |.own id _=>[id]
 |_=>[]
def sB2S(G:EG)(x:TS):Option SR:=match Jv (Zj (idOf x) G) (.sl (.int .u8)) x with
 |some l=>some (.dat (List UInt8) (b2s l) (λy=> .v ⟨.str,y⟩) (idOf x))
 |none=>none
section
variable{P:Program}{W:Env}{n:Nat}{o:Oper}{E:EF}{F:PFrame}{H:PHeap}{G:EG}
theorem jnx{t:TypeId}{x y:Operand}{q:SR}(n:o.op=.slice t x (some y) none none)(h:sSlF (esz P t) G (evE E x) (evE E y)=some q):SOk P o E G q:=by
 have r:x∈o.op.operands:=by rw[n];simp[Op.operands]
 have s:y∈o.op.operands:=by rw[n];simp[Op.operands]
 unfold sSlF at h;split at h<;>try (cases h;done)
 rename_i id C B;split at h<;>try (cases h;done)
 rename_i p;have p:=qc p;split at h<;>try (cases h;done)
 rename_i u ty l A;split at h<;>try (cases h;done)
 rename_i c;have c:=zhc c;obtain⟨z,hz,h⟩:=qb h;cases h;obtain⟨kd,k⟩:=Ye hz;refine SOk.dat λj i W F H a=>?_;unfold zxs at i;split at i<;>cases i;rename_i d;simp only[wcl,wcy]at d;simp only[TS.den];refine wba (id :=.o id) (kd:=kd) n c (by rw[a.ev r,B];simp only[TS.den]) (e:=u) (m:=l.length) (cs:=l.flatMap (jq ty)) ?_ (by rw[a.ev s,k]) d.1 (by omega);obtain⟨f,g⟩:=zq (zl (a.h id (by simp)) A rfl p);cases w:H (.o id)with
 |mk v b=>
  rw[w]at f g;simp only at f g;rw[f,g]
theorem zy3(w:World)(f l ty a:TypeId)(e h:Option Addr)(b c jav d:Nat)(k:P.underlying f=some (.slice a))(j:((P.info? a).map (·.size)).isSome=true)(h0:Nat.min jav b=0):
  (Builtin.copy_ #[f,l] ty #[.slice e b c,.slice h jav d]).run P w=.ok (goInt 0) w:=by
 cases g:P.info? a with
 |none=>simp[g]at j
 |some i=>
  cases h<;>cases e<;>simp[Builtin.copy_,run_underlying k,Builtin.lenOf,Builtin.firstCells,sizeOf,typeInfo,g,storeCells,h0,loadCells,loadCellsFrom]
theorem wca{t t' e:TypeId}{x y:Operand}{id:Nm}{ver m m2:Nat}{cs cs2:List PV}{K:PV->PHeap->Prop}(ho:o.op=.call { callee :=.builtin .copy,args:=#[x,y],argTypes:=#[t,t'] })(hdo:Y4 n o)(hu:P.underlying t=some (.slice e))(hs:(P.info? e).map (·.size)=some 1)
  {te:TypeId}(hx:evP F x=.ps id ver) (hl:Jf H id ver=some (te,1,m,cs)) (hy:zxb H 1 (evP F y)=some (m2,cs2)) (hc2:cs2.length=m2) (hcs:cs.length=m) (hleaf:∀p∈cs2,Jm H p=true)
  (hk:K (.u (.int .i64 (min m m2:Nat))) (H.set id ⟨ver,some (.row te 1 m (cs2.take m++cs.drop m2))⟩)):PE P W n o F H K:=by
 obtain⟨hb,hve⟩:=zq hl;by_cases h0:Nat.min m2 m=0
 ·have hq:PQ P W o F H (.u (.int .i64 (min m m2:Nat))):=waf λV a w hr hh=>by
   obtain⟨vals,hown,hR,h1⟩:=hr.row id _ _ _ _ hb;have hxv:=hh x (by rw[ho];simp[Op.operands,Call.operands]);have hyv:=hh y (by rw[ho];simp[Op.operands,Call.operands]);rw[hx]at hxv;obtain⟨ad,c,hyv,_⟩:=ziu hr hyv hy;have exv:a.eval x=V id:=by
    generalize a.eval x=q at hxv;cases hxv with
    |ps _ _ _ hvv hh=>exact hh (by rw[hb];rfl) hve
   have hVs:∃ad cc,V id=.slice ad m cc:=by
    rcases hown.2 with⟨e1,e0⟩|⟨g,cap,cur,e1,_⟩
    ·exact⟨_,_,by rw[e1,e0]⟩
    ·exact⟨_,_,e1⟩
   obtain⟨ad2,cc,hV⟩:=hVs;refine⟨goInt 0,?_,?_⟩
   ·unfold execOp;simp only[ho,resolve,invoke,builtin,Sem.run_bind,Sem.run_pure,Result.andThen_ok,wfv,wc4,wed,exv,hV,hyv,zy3 w t t' o.type e ad2 ad m cc m2 c hu (by rw[hs];rfl) h0]
   ·have:min m m2=0:=by rw[Nat.min_comm];exact h0
    rw[this];exact .u _
  refine wau hdo hq ?_;have e:H.set id ⟨ver,some (.row te 1 m (cs2.take m++cs.drop m2))⟩=H:=by
   funext j;unfold PHeap.set;split
   ·rename_i hj;subst hj;have e2:cs2.take m++cs.drop m2=cs:=by
     rcases Nat.eq_zero_or_pos m2 with h|h
     ·subst h;rw[wde hc2];simp
     ·have hm:m=0:=by
       have:min m2 m=0:=h0;omega
      subst hm;rw[wde hcs];simp
    rw[e2];cases hH:H j with
    |mk v b=>rw[hH]at hb hve;simp only at hb hve;rw[hb,hve]
   ·rfl
  rw[e]at hk;exact hk
 ·have hm0:m≠0:=λe=>h0 (by rw[e];exact Nat.min_zero _);have hm20:m2≠0:=λe=>h0 (by rw[e];exact Nat.zero_min _);intro V a w hr;obtain⟨vals,hown,hR,h1⟩:=hr.heap.row id _ _ _ _ hb;have hxv:a.eval x=V id:=by
   have:=Rp.eval (P:=P) (F:=F) (a:=a) (Z:=W.Z) (H:=H) (V:=V) (w:=w) x λt _=>hr.slot t;rw[hx]at this;generalize a.eval x=q at this;cases this with
   |ps _ _ _ hvv hh=>exact hh (by rw[hb];rfl) hve
  obtain⟨ad,c,hyv,hsrc⟩:=ziu hr.heap (Rp.eval (P:=P) (F:=F) (a:=a) y λt _=>hr.slot t) hy;rcases hsrc with⟨h0,_⟩|⟨ba,news,rfl,hnl,hRn,hcell⟩
  ·exact absurd h0 hm20
  rcases hown.2 with⟨e1,h0⟩|⟨g,cap,cur,e1,hbg,hgh,hcap,hcm,hcsz,htake⟩
  ·exact absurd h0 hm0
  have hnl':news.length=m2:=by omega
  have hvl:vals.length=m:=by have:=hown.1;omega
  have hone:∀u∈news,u.oneCell'=true:=λu hu=>by
   obtain⟨j,hj,rfl⟩:=wew hu;have hj2:j<cs2.length:=by rw[hRn.1];exact hj
   exact(hRn.2 j _ _ (wcf hj2) (wcf hj)).leaf hr.heap (hleaf _ (wcm _))
  have hrun:=run_copy_row (P:=P) w t t' o.type e g 0 m cap ba m2 c cur te (news.take m) hu hs hgh (by rw[wdl,hnl',Nat.min_comm]) (λj v hj=>hcell j v (by
   rw[wd7]at hj;split at hj
   ·exact hj
   ·cases hj)) (by rw[wdl];omega) (λv hv=>hone v (wez hv))
  have hex:(execOp a.eval o).run P w=.ok (.value (goInt (news.take m).length)) (w.setRow g (cur.toList.take 0++news.take m++cur.toList.drop (0+(news.take m).length)).toArray):=by
   unfold execOp;simp only[ho,resolve,invoke,builtin,Sem.run_bind,Sem.run_pure,Result.andThen_ok,wfv,wc4,wed,hxv,hyv,e1,hrun]
  have hcn:(news.take m).length=min m m2:=by rw[wdl,hnl']
  have hgi:goInt (news.take m).length=.int .i64 (min m m2:Nat):=by rw[hcn];rfl
  have hown':(w.setRow g (cur.toList.take 0++news.take m++cur.toList.drop (0+(news.take m).length)).toArray).ownsRow W.w.heap.size te 1 (V id) m (news.take m++vals.drop m2):=by
   refine⟨by simp[hvl,hnl'];omega,.inr ⟨g,cap,_,e1,hbg,setRow_heap w g cur _ te _ hgh,hcap,hcm,?_,?_⟩⟩
   ·simp[hnl'];omega
   ·have hdrop:vals.drop m2=(cur.toList.take m).drop m2:=by rw[<- htake,wf1]
    rw[hdrop,wf1];simp only[List.take_zero,wei,wdo,hcn];apply wee;intro j;rw[wd7];by_cases hj:j<m
    ·rw[if_pos hj];by_cases hj2:j<m2
     ·rw[wcr (by rw[hcn];omega),wcr (by rw[hcn];omega)]
     ·rw[wct (by rw[hcn];omega),wct (by rw[hcn];omega),hcn,wdv,wdv,wd7];rw[if_pos (by omega)];congr 1;omega
    ·rw[if_neg hj,wdt];simp[hcn];omega
  have hgr:w.grownBy (w.setRow g (cur.toList.take 0++news.take m++cur.toList.drop (0+(news.take m).length)).toArray) (some g):=⟨rfl,rfl,rfl,by simp,λk _ hk=>setRow_other w g k _ (λe=>hk (by rw[e]))⟩
  have hblk:qf (V id)=some g:=by rw[e1];rfl
  have hturn:Turn W H V w id ⟨ver,some (.row te 1 m (cs2.take m++cs.drop m2))⟩ (V id) (w.setRow g (cur.toList.take 0++news.take m++cur.toList.drop (0+(news.take m).length)).toArray):=by
   refine⟨hr.heap.below.grown hgr hr.heap.below.size λkk hk=>by cases hk;exact hbg,hgr.size,λbb hlt hn=>hgr.block bb hlt λe'=>hn ⟨by rw[hb];rfl,by rw[hblk];exact e'.symm⟩,λg' hg'=> .inr ⟨by rw[hb];rfl,hg'⟩,.inr ⟨hve.symm,rfl,by rw[hb];rfl⟩⟩
  refine yv hex ⟨_,_,yq V id (V id),hk,?_⟩;rw[hgi];refine hr.turn hturn (λbd hbd=>?_) o.dst hdo (.u _);cases hbd;refine⟨_,hown',⟨?_,λj p u h3 h4=>?_⟩,λu hu=>?_⟩
  ·simp[hvl,hnl',hc2,hcs]
  ·by_cases hj:j<min m m2
   ·rw[wcr (by simp;omega),wd7,if_pos (by omega)]at h3;rw[wcr (by rw[hcn];exact hj),wd7,if_pos (by omega)]at h4;exact hturn.rp (hRn.2 j p u h3 h4)
   ·rw[wct (by simp;omega),wdv]at h3;rw[wct (by rw[hcn];omega),wdv,hcn]at h4;have e3:m2+(j-(cs2.take m).length)=m2+(j-min m m2):=by rw[wdl,hc2]
    rw[e3]at h3;exact hturn.rp (hR.2 _ p u h3 h4)
  ·rcases wco.1 hu with h|h
   ·exact hone u (wez h)
   ·exact h1 u (we9 h)
theorem jmn{t Z:TypeId}{x y:Operand}{q:SR}(u:o.op=.call { callee :=.builtin .copy,args:=#[x,y],argTypes:=#[t,Z] })(h:sCpy (esz P t) G (evE E x) (evE E y)=some q):SOk P o E G q:=by
 have B:x∈o.op.operands:=by rw[u];simp[Op.operands,Call.operands]
 have C:y∈o.op.operands:=by rw[u];simp[Op.operands,Call.operands]
 unfold sCpy at h;split at h<;>try (cases h;done)
 rename_i id ver Y;split at h<;>try (cases h;done)
 rename_i A;have A:=qc A;split at h<;>try (cases h;done)
 rename_i I ty l S;split at h<;>try (cases h;done)
 rename_i f;simp only[wcl]at f;have k:=zhc f.1;have g:=qc f.2.1;split at h<;>cases h;rename_i r V;refine⟨λ_=>rfl,λz hz W n F H U T R L=>?_⟩;cases hz;have c:Agr o E G r.2 F H:=⟨R,λi p=>L i (.inl p)⟩
 have s:=L id (.inr (by simp));obtain⟨e,ti,X,v,w⟩:=ze1 k;have b:∀l:List ty.D,(l.flatMap (jq ty)).length=l.length:=λl=>by rw[J6 _ (wid ty) _ λx _=>qa ty x,g,wf1]
 have d:=zj9 (H:=H) V g λi p=>c.h i p;refine wca (id :=.o id) (ver:=ver) (te:=I) (m:=l.length) (m2:=r.1.length) (cs:=l.flatMap (jq ty)) (cs2:=r.1.flatMap (jq ty)) u T X (by rw[v,wc3,w]) (by rw[c.ev B,Y];simp only[TS.den]) (by rw[zl s.1 S rfl A,g]) (by rw[c.ev C];exact d) (b _) (b _) (zd5 f.2.2 _) ⟨by simp only[TS.den];rfl,?_⟩;have N:(r.1.flatMap (jq ty)).take l.length++(l.flatMap (jq ty)).drop r.1.length=(r.1.take l.length++l.drop r.1.length).flatMap (jq ty):=by
  have M:∀(a:List ty.D)(j:Nat),(a.flatMap (jq ty)).take j=(a.take j).flatMap (jq ty)/\(a.flatMap (jq ty)).drop j=(a.drop j).flatMap (jq ty):=λa j=>by
   have Q:a.flatMap (jq ty)=(a.take j).flatMap (jq ty)++(a.drop j).flatMap (jq ty):=by rw[<- wex,wdq]
   by_cases J:j<=a.length
   ·have K:((a.take j).flatMap (jq ty)).length=j:=by rw[b,wdl];omega
    rw[Q,wfh K,we1 K];exact⟨rfl,rfl⟩
   ·rw[wd4 (by rw[b];omega),List.drop_of_length_le (by rw[b];omega),wd4 (by omega),List.drop_of_length_le (by omega)];exact⟨rfl,rfl⟩
  rw[(M _ _).1,(M _ _).2,wex]
 have O:(r.1.take l.length++l.drop r.1.length).length=l.length:=by simp;omega
 show _=H.set (.o id) (v6 id _);simp only[v6,wc3,BD.den,N,O,g]
theorem jod{Z:ZM}{V:Nm->Value}{w:World}{t j e:TypeId}{l:List Int}{v:Value}(y:P.underlying t=some (.slice e))(p:P.underlying e=some (.int .u8))(n:P.underlying j=some .string)(h:Rp Z H V w (.sl 1 (l.map λz=>PV.u (.int .u8 z))) v):(convert t j v).run P w=.ok (.string (strOfNums l)) w:=by
 generalize f:(l.map λz=>PV.u (.int .u8 z))=us at h;cases h with
 |nil k a c=>
  have:l=[]:=List.map_eq_nil_iff.1 f;subst this;cases a<;>simp[convert,run_underlying y,run_underlying n,run_underlying p,Conv.bytesToString,loadCells,loadCellsFrom,strOfNums]<;>rfl
 |sl k us b o c A E s hz D B C=>
  subst f;have g:(l.map λz=>PV.u (.int .u8 z)).flatMap PV.cells=l.map λz=>PV.u (.int .u8 z):=flat1 (λv=>rfl) l;have d:∀i,i<l.length->w.cell? ⟨b,o+i,none⟩=some (.int .u8 (l.getD i 0)):=λi r=>by
   have x:((l.map λz=>PV.u (.int .u8 z)).flatMap PV.cells)[i]?=some (PV.u (.int .u8 l[i])):=by rw[g];simp[r]
   have m:=C i _ x;rw[B i _ x];generalize A i=q at m;cases m;simp[List.getD,r]
  have:=run_convert_bytes_arg (P:=P) w t e y p b o l.length c l rfl d j n;rw[wcv];exact this
theorem jm6{t g e:TypeId}{x:Operand}{q:SR}(f:o.op=.convert t g x)(p:P.underlying t=some (.slice e))(j:P.underlying e=some (.int .u8))(i:P.underlying g=some .string)(h:sB2S G (evE E x)=some q):SOk P o E G q:=by
 have c:x∈o.op.operands:=by rw[f];simp[Op.operands]
 unfold sB2S at h;split at h<;>cases h;rename_i l m;refine SOk.dat λz hz W F H b=>waf λV a w n k=>?_;cases hz;have d:=k x c;rw[b.ev c]at d;have r:=(Yb (G:=Zj (idOf (evE E x)) G) (H:=H) (zi4 b.hn) _ _ _ m).1 P W V w n _ d;have:=jod p j i (l:=l) r;refine⟨.string (strOfNums l),?_,?_⟩
 ·simp only[execOp,f,Sem.run_bind,this,Result.andThen_ok];rfl
 ·simp only[TS.den];exact .u _
end
theorem cloneZ{α:Type}(o:Option α):ja o (λx=>some x)=o:=by cases o<;>rfl
theorem jbf{P:Program}{f:FuncId}{t:Ty}{e:TypeId}{b:Nat}{g:List t.D->Option (List t.D)}(B:zoq P f [.sl t] e t g)(q:∀x r,g (x::r)=apO b [] (x::r))
  (M:∀c w,Calls P f #[.slice none 0 c] w λd w'=>d=.returned (.slice none 0 0)/\w'=w)
  (hz:∀a c w,Calls P f #[.slice (some a) 0 c] w λd w'=>∃v',d=.returned v'/\w'.ownsRow w.heap.size e (wid t) v' 0 []/\Below w.heap.size w w'):zoq P f [.sl t] e t (λx=>apO b [] x):=by
 refine⟨B.1,λx r h=>?_⟩;cases x with
 |cons y l=>exact B.2 (y::l) r ((q y l).trans h)
 |nil=>
  obtain⟨_,_,rfl⟩:=za8 h;intro Z w S H L G;obtain⟨v,rfl,N⟩:=rpl1 (p :=.sl (wid t) []) G;have fin:∀{v':Value}{w':World},w'.ownsRow Z.m e (wid t) v' 0 []->(∀g,qf v'=some g->¬PZ Z PHeap.empty V0 g)->∃p,p=PV.fr e (wid t) (([]:List t.D).map (enc t))/\NoP p/\Rp Z PHeap.empty V0 w' p v':=λn j=>
   ⟨_,rfl,.fr _ _ _ λc I=>by simp at I,.fr e (wid t) [] _ [] (λy O=>by cases O) n j (λu E=>by cases E) λi p u K=>by simp at K⟩
  have zero:∀a c,v=.slice (some a) 0 c->Calls P f [v].toArray w (λd w'=>∃v p,d=.returned v/\p=PV.fr e (wid t) (([]++[]:List t.D).map (enc t))/\NoP p/\Rp Z PHeap.empty V0 w' p v/\Below w.heap.size w w'):=λa c ev=>by
   subst ev;refine(hz a c w).mono λd w'⟨v',n,j,F⟩=>?_;obtain⟨p,s,z,A⟩:=fin (v':=v') (w':=w') (Yy (w:=w') j L λ_ _ _=>rfl) λg q hz=>by
    have:=(zbs j q).1;have:=H g (Qz.1 hz);omega
   exact⟨v',p,n,s,z,A,F⟩
  cases N with
  |nil k a c=>
   cases a with
   |some a=>exact zero a c rfl
   |none=>
    refine(M c w).mono λd w'⟨n,j⟩=>?_;subst j;obtain⟨p,s,z,A⟩:=fin (v' :=.slice none 0 0) (w':=w') ⟨by simp,.inl ⟨rfl,rfl⟩⟩ λg q=>by cases q
    exact⟨_,p,n,s,z,A,Below.refl _ _⟩
  |sl k T b o c g E C Q R n j=>exact zero _ _ rfl
def sUg(P:Program)(o:Oper)(E:EF)(G:EG):Option SR:=match o.op with
 |.slice t x (some y) none none=>sSlF (esz P t) G (evE E x) (evE E y)
 |.call ⟨.builtin .copy,⟨[x,y]⟩,⟨[t,_]⟩⟩=>sCpy (esz P t) G (evE E x) (evE E y)
 |.convert t a x=>match P.underlying t with
  |some (.slice e)=>match zmq P e with
   |some .u8=>match zc3 P a with
    |true=>sB2S G (evE E x)
    |false=>none
   |_=>none
  |_=>none
 |_=>none
theorem sUg_ok{P:Program}{o:Oper}{E:EF}{G:EG}{q:SR}(h:sUg P o E G=some q):SOk P o E G q:=by
 unfold sUg at h;split at h<;>try (cases h;done)
 ·rename_i a;exact jnx a h
 ·rename_i a;exact jmn a h
 ·rename_i a;split at h<;>try (cases h;done)
  rename_i d;split at h<;>try (cases h;done)
  rename_i c;split at h<;>try (cases h;done)
  rename_i b;refine jm6 a d (zlk c) ?_ h;unfold zc3 at b;split at b
  ·assumption
  ·cases b
def jg3(e:TypeId->Option KY)(d:Nat->Prm)(fz:Nat->Nat->List (Nat×Ty))(fr:Nat->Nat->Bool)(T:FuncId->Option FF):Sy1:=λb c a o E G=>match sUg Tryz.prog o E G with
 |some q=>some q
 |none=>jjg e d fz fr T b c a o E G
theorem ji1{j:TypeId->Option KY}(g:zz3 Tryz.prog j){a:Nat->Prm}{fz:Nat->Nat->List (Nat×Ty)}{fr:Nat->Nat->Bool}{T:FuncId->Option FF}(l:zbr Tryz.prog T)(k:∀c,Vw Tryz.prog (a c).S)(i:∀c,zgc Tryz.prog (a c).zt)(e:∀c,zgc Tryz.prog (a c).zt2):∀d f b o E G q,jg3 j a fz fr T d f b o E G=some q->SOk Tryz.prog o E G q:=λd f b o E G q h=>by
 unfold jg3 at h;split at h
 ·rename_i n m;cases h;exact sUg_ok m
 ·exact jha g l k i e _ _ _ _ _ _ _ h
def vS(σ:Nm->Option Nm)(V:Nm->Value):Nm->Value:=λk=>match σ k with
 |some i=>V i
 |none => .slice none 0 0
inductive CR(H H2:PHeap)(σ:Nm->Option Nm):PV->PV->Prop
 |keep {p:PV}(hp:Fl p):CR H H2 σ p p
 |nm {j k:Nm}{v1 v2:Nat}(hσ:σ k=some j) (h1:(H2 k).body.isSome=true->(H j).body.isSome=true/\(H j).ver=v1) (h2:v2<=(H2 k).ver):CR H H2 σ (.ps j v1) (.ps k v2)
 |nil {k:Nm}{v2:Nat}(hσ:σ k=none) (h2:v2<=(H2 k).ver):CR H H2 σ (.u (.slice none 0 0)) (.ps k v2)
 |unk {p:PV}:CR H H2 σ p .unk
 |tup {xs ys:List PV}(hl:xs.length=ys.length) (h:∀(i:Nat)(p q:PV),xs[i]?=some p->ys[i]?=some q->CR H H2 σ p q):CR H H2 σ (.tup xs) (.tup ys)
def CRL(H H2:PHeap)(σ:Nm->Option Nm)(cs ds:List PV):Prop:=cs.length=ds.length/\∀(i:Nat)(p q:PV),cs[i]?=some p->ds[i]?=some q->CR H H2 σ p q
def Of(ids:List Nat)(k:Nm):Prop:=∃i∈ids,k.rt=some i
def BodyN(ids:List Nat)(H H2:PHeap)(σ:Nm->Option Nm)(k:Nm)(bd:PBody):Prop:=
 (σ k=none/\(∀w m,bd.Is w m (.slice none 0 0) [])/\bd.cs=[]) \/
 ∃j a,σ k=some j/\Of ids j/\(H j).body=some a/\(∀w m v b,a.Is w m v b->bd.Is w m v b)/\CRL H H2 σ a.cs bd.cs
structure Tell(ids:List Nat)(H H2:PHeap)(σ:Nm->Option Nm):Prop where
 out:∀k,¬Of ids k->H2 k=H k/\σ k=some k
 old:∀k,Of ids k->(H k).ver<=(H2 k).ver/\((H2 k).body.isSome=true->(H2 k).ver=(H k).ver->(H k).body.isSome=true/\σ k=some k)
 body:∀k bd,Of ids k->(H2 k).body=some bd->BodyN ids H H2 σ k bd
 inj:∀k k' j,Of ids k->Of ids k'->(H2 k).body.isSome=true->(H2 k').body.isSome=true->σ k=some j->σ k'=some j->k=k'
section
variable{P:Program}{W:Env}{n:Nat}{H H1 H2:PHeap}{V:Nm → Value}{w:World}{F:PFrame}{ids:List Nat}{σ:Nm → Option Nm}{o:Oper}{p0 p1:PV}
theorem Tell.hz(l:Tell ids H H2 σ){c:Nat}(h:¬PZ W.Z H V c):¬PZ W.Z H2 (vS σ V) c:=by
 refine z21 (λk g i b=>?_) h;by_cases f:Of ids k
 ·obtain⟨m,d⟩:=wdi.1 i;rcases l.body k m f d with⟨e,_⟩|⟨j,n,e,_,a,_⟩
  ·unfold vS at b;rw[e]at b;cases b
  ·exact⟨j,by rw[a];rfl,by unfold vS;rw[e]⟩
 ·obtain⟨a,o⟩:=l.out k f;exact⟨k,by rw[<- a];exact i,by unfold vS;rw[o]⟩
theorem Tell.rp(g:Tell ids H H2 σ){p:PV}{v:Value}(o:Rp W.Z H V w p v)(n:Fl p):Rp W.Z H2 (vS σ V) w p v:=by
 refine Rp.keep o n (λc _ h=>g.hz h) λi q _ d=>?_;by_cases j:Of ids i
 ·obtain⟨e,f⟩:=g.old i j;refine⟨wdk d e,λk r=>?_⟩;obtain⟨l,m⟩:=f k (by omega);exact⟨l,by omega,by unfold vS;rw[m]⟩
 ·obtain⟨e,f⟩:=g.out i j;rw[e];exact⟨d,λa b=>⟨a,b,by unfold vS;rw[f]⟩⟩
theorem Tell.cell(o:Tell ids H H2 σ){p q:PV}(m:CR H H2 σ p q){v:Value}(f:Rp W.Z H V w p v):Rp W.Z H2 (vS σ V) w q v:=by
 induction m generalizing v with
 |tup j _ r=>
  cases f with
  |tup _ s g d=>
   refine .tup _ s (by rw[<- j];exact g) λi q u e l=>?_;have c:=(wcg.1 e).1;rw[<- j]at c;exact r i _ q (wcf c) e (d i _ u (wcf c) l)
 |keep n=>exact o.rp f n
 |nm hσ k d=>
  cases f with
  |ps _ _ _ _ h=>
   refine .ps _ _ _ d λe _=>?_;obtain⟨a,b⟩:=k e;unfold vS;rw[hσ];exact h a b
 |unk=>exact .unk _
 |nil hσ d=>
  cases f;exact .ps _ _ _ d λ_ _=>by unfold vS;rw[hσ]
theorem Tell.heap(m:Tell ids H H2 σ)(K:HRel P W H V w)(O:∀i,Fl (W.G i))(y:∀k,FlB (H k)):HRel P W H2 (vS σ V) w:=by
 refine HRel.ren K (λk=>(σ k).getD k) rfl rfl (λi=>m.rp (K.ghost i) (O i)) (λk p l=>?_) λk z g f d r M e=>?_
 ·by_cases a:Of ids k
  ·rcases m.body k p a l with⟨e,f,d⟩|⟨j,o,e,_,f,d,r⟩
   ·exact .inl ⟨by unfold vS;rw[e],f _ _,d⟩
   ·refine .inr ⟨o,by simp only[e,wda];exact f,by simp only[e,wda];unfold vS;rw[e],λT t u=>?_⟩;simp only[e,wda]at t⊢;refine⟨d _ _ _ _ t,by rw[<- r.1];exact u.1,λi q v I L=>?_⟩;have s:i<o.cs.length:=by rw[r.1];exact(wcg.1 I).1
    exact m.cell (r.2 i _ q (wcf s) I) (u.2 i _ v (wcf s) L)
  ·obtain⟨f,d⟩:=m.out k a;rw[f]at l;refine .inr ⟨p,by simp only[d,wda];exact l,by simp only[d,wda];unfold vS;rw[d],λT t u=>?_⟩;simp only[d,wda]at t⊢;exact⟨t,waj u λc N v S=>m.rp S (y k p l c N)⟩
 ·have n:∀{k:Nm},(H2 k).body.isSome=true->qf (vS σ V k)=some g->∃j,σ k=some j/\(Of ids k->Of ids j)/\(¬Of ids k->j=k):=λ{k}R l=>by
   by_cases a:Of ids k
   ·obtain⟨p,x⟩:=wdi.1 R;rcases m.body k p a x with⟨e,_⟩|⟨j,o,e,Q,_⟩
    ·unfold vS at l;rw[e]at l;cases l
    ·exact⟨j,e,λ_=>Q,λh=>absurd a h⟩
   ·exact⟨k,(m.out k a).2,λh=>absurd h a,λ_=>rfl⟩
  obtain⟨j,E,A,B⟩:=n f r;obtain⟨U,F,C,D⟩:=n d M;simp only[E,F,wda]at e;subst e;by_cases a:Of ids k
  ·by_cases b:Of ids z
   ·exact m.inj k z j a b f d E F
   ·rw[D b]at A;exact absurd (A a) b
  ·by_cases b:Of ids z
   ·rw[B a]at C;exact absurd (C b) a
   ·rw[<- B a,D b]
theorem wak(h:PE P W n o F H λp j=>p=p0/\j=H1)(c:FlW W F H)(d:∀k,FlB (H1 k))(x:Y4 n o)(l:Tell ids H1 H2 σ)(s:CR H1 H2 σ p0 p1):PE P W n o F H λp j=>p=p1/\j=H2:=λV a w u=>
 Oper.wp_mono (λv y⟨p,j,m,⟨q,r⟩,b⟩=>by
  subst q;subst r;refine⟨p1,H2,vS σ m,⟨rfl,rfl⟩,l.heap b.heap c.g d,b.size,b.defers,λt=>?_⟩;have i:=b.slot t;unfold PFrame.put at i⊢;split
  ·rename_i e;rw[if_pos e]at i;exact l.cell s i
  ·rename_i e;rw[if_neg e]at i;exact l.rp i (c.f t)) (h V a w u)
end
def SPk(P:Program)(o:Oper)(E:EF)(G:EG)(q:SR):Prop:=
 (∀x,(q.w x).map Prod.fst=q.tc)/\∀x,q.o=some x->∀W n F H,FlW W F H->Y4 n o->Agr o E G (q.rd++q.tc) F H->PE P W n o F H (λp a=>p=(q.s x).den/\a=qz H (q.w x))
def SR.kP(q:SR):SK:=⟨λk=>z5x q λx=>k (q.s x) (q.w x) ⟨q.rd,q.tc⟩⟩
theorem SPk.k{P:Program}{o:Oper}{E:EF}{G:EG}{q:SR}(h:SPk P o E G q):zxk P o E G q.kP:=λk r i=>by
 obtain⟨x,c,g⟩:=z13 i;refine⟨q.s x,q.w x,⟨q.rd,q.tc⟩,g,λj=>?_,λid a=>by rw[h.1 x]at a;exact a,λW n F H b f d e=>h.2 x c W n F H b f ⟨d,λid a=>e id (by rw[h.1 x];exact wco.1 a)⟩⟩;show z5x q _=_;unfold z5x;rw[c];cases q.imm<;>rfl
section
variable{P:Program}{W:Env}{n:Nat}{o:Oper}{E:EF}{F:PFrame}{H:PHeap}{G:EG}
def ksetO{α:Type}(c:Option (List α))(l:List (List α))(p i:Int)(u:α):Option (List (List α)):=ja c λr=>ja (yz r i u) λa=>some (l.set p.toNat a)
def sKel(ag:Bool)(k:Nat)(G:EG)(x y:TS):Option SR:=match okT G y with
 |false=>none
 |true=>match x with
  |.kel id p w i a v=>match Nat.beq (G id).cv v with
   |true=>match (G id).b with
    |some (.rows c d t l kv h)=>match Nat.beq w (wid t) && (Nat.beq a 0 && Nat.beq k w)with
     |true=>match toT t y with
      |some u=>some ⟨List (List t.D),false,ksetO (Kids.at ⟨t,d,l,h⟩ p) l p i u,λ_=>UND,λe=>[(id,⟨(G id).ver,some (.rows c d t e kv h)⟩)],zkx y,[id],[]⟩
      |none=>none
     |false=>none
    |_=>none
   |false=>none
  |_=>none
theorem jjl{id j tid it kv:Nat}{t:Ty}{l:List (List t.D)}{r:List t.D}{h:Hole}(g:AgN H G id)(f:(G id).b=some (.rows tid it t l kv h))(q:h.is j=false)(p:j<l.length):
  H.set (.c id j) ⟨(G id).cv,some (.row it (wid t) r.length (r.flatMap (jq t)))⟩=qz H [(id,⟨(G id).ver,some (.rows tid it t (l.set j r) kv h)⟩)]:=by
 have a:(G id).cv=(⟨(G id).ver,some (.rows tid it t (l.set j r) kv h)⟩:GB).cv:=by
  unfold GB.cv;rw[f];rfl
 funext k;simp only[qz,zl1];by_cases e:k.rt=some id
 ·rw[if_pos e];cases k with
  |r _=>cases e
  |o i=>
   cases e;simp only[PHeap.set,reduceCtorEq,if_false,Qe];rw[g.1];unfold v6;rw[<- a,f];simp[BD.den]
  |c i m=>
   cases e;simp only[PHeap.set,Nm.c.injEq,true_and,Qe];by_cases d:m=j
   ·subst d;simp[zac,<- a,BD.ch,q,p]
   ·rw[if_neg d,g.2];simp only[zac,<- a,f,wdr,BD.ch];rw[wec (Ne.symm d)]
 ·rw[if_neg e];unfold PHeap.set;rw[if_neg];intro n;rw[n]at e;exact e rfl
theorem jl8{t k:Nat}{ag:Bool}{x y:Operand}{q:SR}(D:o.op=.store t x y)(ht:asz P t=some (ag,k))(h:sKel ag k G (evE E x) (evE E y)=some q):SPk P o E G q:=by
 have L:x∈o.op.operands:=by rw[D];simp[Op.operands]
 have M:y∈o.op.operands:=by rw[D];simp[Op.operands]
 unfold sKel at h;split at h
 ·cases h
 rename_i I;split at h<;>try (cases h;done)
 rename_i id p w i off v hx;split at h<;>try (cases h;done)
 rename_i hv;cases qc hv;split at h<;>try (cases h;done)
 rename_i a4 A ty l kv J T;split at h<;>try (cases h;done)
 rename_i B;simp only[wcl]at B;have C:=wcj B.1;have Y:=wcj B.2.1;have R:=wcj B.2.2;split at h<;>cases h;rename_i u hu;subst Y;refine⟨λ_=>rfl,λl' b W n F H Z j d=>?_⟩;obtain⟨r,V,b⟩:=yb b;obtain⟨r',K,b⟩:=yb b;cases b;obtain⟨s,rfl⟩:=zd8 K;have U:=d.hn id (by simp);have a:=zgi (H:=H) (k:=⟨ty,A,l,J⟩) (id:=id) (v:=(G id).cv) (by unfold zjw;rw[wev,T];rfl) V U;obtain⟨h0,z,m⟩:=wao V;simp only at a z m s;have g:=d.ev M;have S:=(zbt _ _ _ hu).1;have f:(r.flatMap (jq ty)).length=r.length*wid ty:=J6 _ _ _ λx _=>qa ty x;have N:(evE E y).den.cells.length=k:=by rw[S.1,qa,R,C]
 suffices O:PE P W n o F H λX Q=>X=UND.den/\Q=H.set (.c id p.toNat) ⟨(G id).cv,some (.row A (wid ty) (r.set i.toNat u).length ((r.set i.toNat u).flatMap (jq ty)))⟩from
  PE.mono O λX Q e=>⟨e.1,e.2.trans (jjl (r:=r.set i.toNat u) U T m (wcg.1 z).1)⟩
 refine waq (bd :=.row A (wid ty) r.length (setMany (r.flatMap (jq ty)) (i.toNat*wid ty) (evE E y).den.cells)) (bd' :=.row A (wid ty) (r.set i.toNat u).length ((r.set i.toNat u).flatMap (jq ty))) (by rw[<- zvt s,web];exact .row (S.setMany2 _ _)) (by rw[und_den];exact Ref.refl _) j ?_;refine PE.store (id :=.c id p.toNat) (off:=i.toNat*w+0) (ver:=(G id).cv) (cs:=r.flatMap (jq ty)) (bd :=.row A (wid ty) r.length (r.flatMap (jq ty))) D j (by rw[d.ev L,hx];simp only[TS.den]) (by unfold qg;rw[a];simp) ht (by rw[g];exact zft I λi s=>d.h i (by simp[s])) (by rw[g];exact N) ?_ (by rw[a]) ⟨rfl,?_⟩
 ·rw[f,R,C,wd5];have:(i.toNat+1)*wid ty<=r.length*wid ty:=wes _ s;rwa [wfw]at this
 ·rw[g,wd5,C];rfl
theorem jk2{cs:List PV}(h:∀c∈cs,NoP c){d e:PHeap}{σ:Nm->Option Nm}:CRL d e σ cs cs:=⟨rfl,λi p q a b=>by rw[a]at b;cases b;exact .keep (.noP (h p (wck a)))⟩
theorem zjr{t:Ty}{r:List t.D}:∀c∈r.flatMap (jq t),NoP c:=λc a=>by
 obtain⟨x,_,b⟩:=wds.1 a;exact yg t x c b
def kidB(it:TypeId)(t:Ty)(l:List (List t.D))(h:Hole)(j:Nat):Option PBody:=match h.is j with
 |true=>none
 |false=>(l[j]?).map λr=> .row it (wid t) r.length (r.flatMap (jq t))
theorem z1w{f a:PHeap}{σ:Nm->Option Nm}{D:List Nat}{id it ver ver1 kv:Nat}{t:Ty}{l:List (List t.D)}{h:Hole}{bd1 bd2:PBody}
  (hout:∀k,¬Of (id::D) k->a k=f k/\σ k=some k) (g:a (.o id)=⟨ver,some bd2⟩) (b:∀j,a (.c id j)=⟨ver+kv,kidB it t l h j⟩)
  (Y:∀k,Of D k->((a k).body=none/\(f k).ver<=(a k).ver)\/((f k).ver<(a k).ver/\∃x H,σ k=some x/\Of (id::D) x/\(a k).body=some H/\(f x).body=some H/\∀c∈H.cs,NoP c))
  (W:f (.o id)=⟨ver1,some bd1⟩) (F:ver1<=ver) (hσ:σ (.o id)=some (.o id)) (hv:∀j,(f (.c id j)).ver<ver+kv) (E:bd1.cs.length=l.length)
  (Q:∀w m v M,bd1.Is w m v M->bd2.Is w m v M) (A:bd2.cs=(List.range l.length).map (h.cell id (ver+kv)))
  (Z:∀j r,h.is j=false->l[j]?=some r->(∃x v,bd1.cs[j]?=some (.ps x v)/\σ (.c id j)=some x/\Of (id::D) x/\f x=⟨v,some (.row it (wid t) r.length (r.flatMap (jq t)))⟩)\/(r=[]/\bd1.cs[j]?=some (.u (.slice none 0 0))/\σ (.c id j)=none))
  (B:∀k L x,Of (id::D) k->Of (id::D) L->(a k).body.isSome=true->(a L).body.isSome=true->σ k=some x->σ L=some x->k=L):Tell (id::D) f a σ:=by
 have z:∀{k:Nm},Of (id::D) k->k.rt=some id\/Of D k:=λ{k}⟨i,P,e⟩=>by
  rcases wc1.1 P with rfl|P
  ·exact .inl e
  ·exact .inr ⟨i,P,e⟩
 have S:Of (id::D) (.o id):=⟨id,by simp,rfl⟩
 refine⟨hout,λk C=>?_,λk H C d=>?_,B⟩
 ·rcases z C with e|C
  ·cases k with
   |r _=>cases e
   |o i=>
    cases e;rw[g,W];exact⟨F,λ_ _=>⟨rfl,hσ⟩⟩
   |c i j=>
    cases e;rw[b];have:=hv j;exact⟨Nat.le_of_lt this,λ_ e=>by simp only at e;omega⟩
  ·rcases Y k C with⟨e,U⟩|⟨e,_⟩
   ·exact⟨U,λV=>by rw[e]at V;cases V⟩
   ·exact⟨by omega,λ_ U=>by omega⟩
 ·rcases z C with e|R
  ·cases k with
   |r _=>cases e
   |o i=>
    cases e;rw[g]at d;cases d;refine .inr ⟨.o id,bd1,hσ,S,by rw[W],Q,by rw[A];simp[E],λj p q I hq=>?_⟩;rw[A,wcp]at hq;obtain⟨K,J,rfl⟩:=wcs.1 hq;have s:=(wcg.1 J).1;have e:K=j:=by
     have:=(wcg.1 J).2;simpa using this.symm
    subst e;have s:K<l.length:=by simpa using s
    unfold Hole.cell;split
    ·exact .unk
    ·rename_i e;have G:(a (.c id K)).ver=ver+kv:=by rw[b]
     rcases Z K _ (by simpa using e) (wcf s)with⟨x,v,y,n,T,N⟩|⟨_,y,n⟩
     ·rw[y]at I;cases I;exact .nm n (λ_=>by rw[N];exact⟨rfl,rfl⟩) (by rw[G];exact wcq _)
     ·rw[y]at I;cases I;exact .nil n (by rw[G];exact wcq _)
   |c i j=>
    cases e;rw[b]at d;simp only[kidB]at d;split at d<;>try (cases d;done)
    rename_i e;obtain⟨r,O,rfl⟩:=wcs.1 d;rcases Z j r e O with⟨x,v,y,n,T,N⟩|⟨rfl,y,n⟩
    ·exact .inr ⟨x,_,n,T,by rw[N],λw m v M h=>h,jk2 zjr⟩
    ·refine .inl ⟨n,λw m=>?_,rfl⟩;exact⟨⟨by simp,.inl ⟨rfl,rfl⟩⟩,λu hu=>by cases hu⟩
  ·rcases Y k R with⟨e,_⟩|⟨_,x,a1,O,h3,X,h5,h6⟩
   ·rw[e]at d;cases d
   ·rw[d]at X;cases X;exact .inr ⟨x,_,O,h3,h5,λw m v M h=>h,jk2 h6⟩
theorem zki{b a:PHeap}{σ:Nm->Option Nm}{D:List Nat}{id tid it ver ver1 kv:Nat}{t:Ty}{l:List (List t.D)}{h:Hole}{cs:List PV}
  (hout:∀k,¬Of (id::D) k->a k=b k/\σ k=some k) (d:∀k:Nm,k.rt=some id->a k=Qe ⟨ver,some (.rows tid it t l kv h)⟩ k)
  (q:∀k,Of D k->((a k).body=none/\(b k).ver<=(a k).ver)\/((b k).ver<(a k).ver/\∃x n,σ k=some x/\Of (id::D) x/\(a k).body=some n/\(b x).body=some n/\∀c∈n.cs,NoP c))
  (s:id∉D) (p:b (.o id)=⟨ver1,some (.row tid 1 l.length cs)⟩) (g:ver1<=ver) (hσ:σ (.o id)=some (.o id)) (z:∀j,(b (.c id j)).ver<ver+kv) (f:cs.length=l.length)
  (y:∀j r,h.is j=false->l[j]?=some r->(∃x v,cs[j]?=some (.ps x v)/\σ (.c id j)=some x/\Of (id::D) x/\b x=⟨v,some (.row it (wid t) r.length (r.flatMap (jq t)))⟩)\/(r=[]/\cs[j]?=some (.u (.slice none 0 0))/\σ (.c id j)=none))
  (e:∀k i x,Of (id::D) k->Of (id::D) i->(a k).body.isSome=true->(a i).body.isSome=true->σ k=some x->σ i=some x->k=i):Tell (id::D) b a σ:=
 z1w (bd1 :=.row tid 1 l.length cs) (bd2 :=.row tid 1 l.length ((List.range l.length).map (h.cell id (ver+kv)))) hout (d (.o id) rfl) (λj=>d (.c id j) rfl) q p g hσ z f (λw m v A h=>h) rfl y e
def zqj(G:EG)(it:TypeId)(t:Ty):TS->Option (Nat×List t.D)
 |.own c e=>match Nat.beq (G c).ver e with
  |true=>match (G c).b with
   |some (.row a d r)=>match Nat.beq a it with
    |true=>match Dyn.as ⟨.sl d,r⟩ (.sl t)with
     |some r=>some (c,r)
     |none=>none
    |false=>none
   |_=>none
  |false=>none
 |_=>none
theorem zfe{it:TypeId}{t:Ty}{y:TS}{c:Nat}{r:List t.D}(h:zqj G it t y=some (c,r)):y=.own c (G c).ver/\(G c).b=some (.row it t r):=by
 unfold zqj at h;split at h<;>try (cases h;done)
 split at h<;>try (cases h;done)
 rename_i f;split at h<;>try (cases h;done)
 rename_i a;split at h<;>try (cases h;done)
 rename_i e;split at h<;>cases h;rename_i d;cases wag d;rw[qc f,<- qc e];exact⟨rfl,a⟩
theorem zhz{d:Nm}{v tid m j:Nat}{cs:List PV}(h:∀k,FlB (H k))(b:∀c∈cs,Fl c):∀k,FlB ((H.set d ⟨v,some (.row tid m j cs)⟩) k):=λk=>by
 unfold PHeap.set;split
 ·intro e a;cases a;exact b
 ·exact h k
theorem zn5{id v:Nat}{h:Hole}{m:Nat}:∀c∈(List.range m).map (h.cell id v),Fl c:=λc a=>by
 obtain⟨j,_,rfl⟩:=wcz.1 a;unfold Hole.cell;split
 ·exact .unk
 ·exact .ps trivial
theorem Zo{id v:Nat}{h:Hole}{m j:Nat}(a:j<m):((List.range m).map (h.cell id v))[j]?=some (h.cell id v j):=by
 simp[List.getElem?_range a]
theorem jaj{id tid it kv:Nat}{t:Ty}{l:List (List t.D)}{h:Hole}(d:AgN H G id)(a:(G id).b=some (.rows tid it t l kv h)):H (.o id)=⟨(G id).ver,some (.row tid 1 l.length ((List.range l.length).map (h.cell id (G id).cv)))⟩/\(G id).cv=(G id).ver+kv/\(∀j,(H (.c id j)).ver=(G id).cv)/\∀j r,h.is j=false->l[j]?=some r->H (.c id j)=⟨(G id).cv,some (.row it (wid t) r.length (r.flatMap (jq t)))⟩:=by
 refine⟨?_,by unfold GB.cv;rw[a];rfl,λj=>by rw[d.2];rfl,λj r e f=>?_⟩
 ·rw[d.1];unfold v6;rw[a];rfl
 ·rw[d.2];unfold zac;rw[a];simp[BD.ch,e,f]
theorem z9g{c it:Nat}{t:Ty}{r:List t.D}(d:AgN H G c)(a:(G c).b=some (.row it t r)):H (.o c)=⟨(G c).ver,some (.row it (wid t) r.length (r.flatMap (jq t)))⟩:=by
 rw[d.1];unfold v6;rw[a];rfl
theorem zpw{c:Nat}{a:PHeap}(e:AgN H G c)(d:∀k:Nm,k.rt=some c->a k=Qe ⟨(G c).cv+1,none⟩ k){k:Nm}(b:k.rt=some c):(a k).body=none/\(H k).ver<=(a k).ver:=by
 rw[d k b,e.at b];cases k<;>cases b
 ·exact⟨rfl,Nat.le_succ_of_le (GB.ver_le _)⟩
 ·exact⟨rfl,Nat.le_succ _⟩
def z1r{α:Type}(h:Hole)(l:List (List α))(p:Int)(r:List α):Option (List (List α)):=match h with
 |none=>yz l p r
 |some x=>match Nat.beq p.toNat x with
  |true=>yz l p r
  |false=>none
theorem z9o{α:Type}{h:Hole}{l b:List (List α)}{p:Int}{r:List α}(a:z1r h l p r=some b):p.toNat<l.length/\b=l.set p.toNat r/\∀j,j≠p.toNat->h.is j=false:=by
 unfold z1r at a;split at a
 ·exact⟨(zd8 a).1,(zd8 a).2,λj _=>rfl⟩
 ·split at a<;>try (cases a;done)
  rename_i e;refine⟨(zd8 a).1,(zd8 a).2,λj c=>?_⟩;simp only[Hole.is];cases h:Nat.beq j _
  ·rfl
  ·exact absurd ((qc h).trans (qc e).symm) c
def sRst(ag:Bool)(k:Nat)(G:EG)(x y:TS):Option SR:=match x with
 |.elt id w p a d=>match Nat.beq (G id).ver d && (Nat.beq w 1 && (Nat.beq a 0 && (Nat.beq k 1 && !ag)))with
  |true=>match (G id).b with
   |some (.rows c e t l kv h)=>match zqj G e t y with
    |some r=>match Nat.beq r.1 id with
     |false=>some ⟨List (List t.D),false,z1r h l p r.2,λ_=>UND,λf=>[(id,⟨(G id).ver,some (.rows c e t f (kv+1) none)⟩),(r.1,⟨(G r.1).cv+1,none⟩)],[],[id,r.1],[]⟩
     |true=>none
    |none=>none
   |_=>none
  |false=>none
 |_=>none
theorem jn6{t k:Nat}{ag:Bool}{x y:Operand}{q:SR}(J:o.op=.store t x y)(ht:asz P t=some (ag,k))(h:sRst ag k G (evE E x) (evE E y)=some q):SPk P o E G q:=by
 have a1:x∈o.op.operands:=by rw[J];simp[Op.operands]
 have a2:y∈o.op.operands:=by rw[J];simp[Op.operands]
 unfold sRst at h;split at h<;>try (cases h;done)
 rename_i id w p off ver hx;split at h<;>try (cases h;done)
 rename_i hc;simp only[wcl,weg]at hc;obtain⟨c1,c2,c3,c4,c5⟩:=hc;cases qc c1;cases qc c2;cases qc c3;cases qc c4;subst c5;split at h<;>try (cases h;done)
 rename_i tid it ty l kv v hb;split at h<;>try (cases h;done)
 rename_i r hr;obtain⟨c,r⟩:=r;obtain⟨hy,T⟩:=zfe hr;split at h<;>cases h;rename_i g;have g:c≠id:=λe=>by subst e;simp at g
 refine⟨λ_=>rfl,λl' V W n F H L K s=>?_⟩;obtain⟨Z,rfl,z⟩:=z9o V;have hn:=s.hn id (by simp);have A:=s.hn c (by simp);obtain⟨r1,r2,r3,r4⟩:=jaj hn hb;have ro:=z9g A T;have B:evP F y=.ps (.o c) (G c).ver:=by rw[s.ev a2,hy];simp only[TS.den]
 have u:((List.range l.length).map (v.cell id (G id).cv)).length=l.length:=by simp
 have a3:PE P W n o F H λp' R=>p'=UND.den/\R=H.set (.o id) ⟨(G id).ver,some (.row tid 1 l.length (setMany ((List.range l.length).map (v.cell id (G id).cv)) (p.toNat*1+0) [.ps (.o c) (G c).ver]))⟩:=by
  refine PE.store (id :=.o id) (off:=p.toNat*1+0) (ver:=(G id).ver) (cs:=(List.range l.length).map (v.cell id (G id).cv)) (bd :=.row tid 1 l.length ((List.range l.length).map (v.cell id (G id).cv))) J K (by rw[s.ev a1,hx];simp only[TS.den]) (by unfold qg;rw[r1];simp) ht (by rw[B];simp[okC,Jm,ro]) (by rw[B];rfl) (by rw[u];omega) (by rw[r1]) ⟨by rw[und_den],?_⟩;rw[B];rfl
 have M:(([(id,(⟨(G id).ver,some (.rows tid it ty (l.set p.toNat r) (kv+1) none)⟩:GB)),(c,⟨(G c).cv+1,none⟩)]:List (Nat×GB)).map Prod.fst).Nodup:=by simp[Ne.symm g]
 have d:∀{k:Nm},k ≠ .o id->(H.set (.o id) ⟨(G id).ver,some (.row tid 1 l.length (setMany ((List.range l.length).map (v.cell id (G id).cv)) (p.toNat*1+0) [.ps (.o c) (G c).ver]))⟩) k=H k:=λ{k}f=>by unfold PHeap.set;rw[if_neg f]
 have S:∀j,(setMany ((List.range l.length).map (v.cell id (G id).cv)) (p.toNat*1+0) [.ps (.o c) (G c).ver])[j]?=if j=p.toNat then some (.ps (.o c) (G c).ver)else((List.range l.length).map (v.cell id (G id).cv))[j]?:=λj=>by
  rw[V7 _ _ _ (by rw[u,wc5];omega)];by_cases e:j=p.toNat
  ·subst e;simp
  ·rw[if_neg (by simp;omega),if_neg e]
 have I:∀k:Nm,k.rt=some c->qz H [(id,⟨(G id).ver,some (.rows tid it ty (l.set p.toNat r) (kv+1) none)⟩),(c,⟨(G c).cv+1,none⟩)] k=Qe ⟨(G c).cv+1,none⟩ k:=λk f=>y7 M (by simp) f;show PE P W n o F H λp' R=>p'=UND.den/\R=qz H [(id,⟨(G id).ver,some (.rows tid it ty (l.set p.toNat r) (kv+1) none)⟩),(c,⟨(G c).cv+1,none⟩)];refine wak a3 L (zhz L.h λx hx=>?_) K (zki (id:=id) (D:=[c]) (ver:=(G id).ver) (kv:=kv+1) (tid:=tid) (it:=it) (t:=ty) (l:=l.set p.toNat r) (h:=none) (σ:=λk=>if k=.c id p.toNat then some (.o c)else some k) (λk f=>?_) (λk f=>y7 M (by simp) f) (λk f=> .inl ?_) (by simp[Ne.symm g]) (by unfold PHeap.set;rw[if_pos rfl,web]) (wcq _) (by simp) (λj=>?_) ?_ (λj r' U m=> .inl ?_) λk k' x f b4 X Y O C=>?_) (.keep (zbp _))
 ·rcases zfo hx with h|h
  ·exact zn5 _ h
  ·simp only[wci]at h;subst h;exact .ps trivial
 ·rw[d λe=>f ⟨id,by simp,by rw[e];rfl⟩,if_neg λe=>f ⟨id,by simp,by rw[e];rfl⟩];exact⟨J0 λi Q e=>f ⟨i,Q,e⟩,rfl⟩
 ·obtain⟨i,Q,e⟩:=f;simp only[wci]at Q;subst Q;rw[d λC=>by rw[C]at e;cases e;exact g rfl];exact zpw A I e
 ·rw[d (by simp),r3,r2];omega
 ·rw[Q0 _ _ _ (by rw[u,wc5];omega),u,web]
 ·rw[S];by_cases e:j=p.toNat
  ·subst e;rw[wel Z]at m;cases m;refine⟨.o c,_,by rw[if_pos rfl],by rw[if_pos rfl],⟨c,by simp,rfl⟩,?_⟩;rw[d (by simp[g]),ro]
  ·rw[wec (Ne.symm e)]at m;have U:=z j e;refine⟨.c id j,(G id).cv,?_,by rw[if_neg (by simp[e])],⟨id,by simp,rfl⟩,?_⟩
   ·rw[if_neg e,Zo (wcg.1 m).1];unfold Hole.cell;rw[U]
   ·rw[d (by simp)];exact r4 j r' U m
 ·have N:∀{k:Nm},(qz H [(id,⟨(G id).ver,some (.rows tid it ty (l.set p.toNat r) (kv+1) none)⟩),(c,⟨(G c).cv+1,none⟩)] k).body.isSome=true->k ≠ .o c:=λ{k}f e=>by
   subst e;rw[(zpw A I (k :=.o c) rfl).1]at f;cases f
  split at O<;>split at C
  ·rename_i a b;rw[a,b]
  ·cases O;cases C;exact absurd rfl (N Y)
  ·cases O;cases C;exact absurd rfl (N X)
  ·cases O;cases C;rfl
theorem zk{a k:Nm}{b:zlj}(h:k≠a):(H.set a b) k=H k:=by unfold PHeap.set;rw[if_neg h]
def kapO{α:Type}(b:Nat)(c:Option (List α))(xs:List α):Option (List α):=ja c λr=>apO b r xs
def sKap(g:SE)(o:Oper)(G:EG)(a:Nat)(s x:TS):Option SR:=match z6 o with
 |false=>none
 |true=>match g with
  |none=>none
  |some (e,k,b,_)=>match s with
   |.kid id p v=>match Nat.beq (G id).cv v && !(Nat.beq a id)with
    |true=>match (G id).b with
     |some (.rows d c t l kv none)=>match Nat.beq c e && (Nat.beq (wid t) k && zda t)with
      |true=>match z8x t G x with
       |some r=>some ⟨List t.D,false,kapO b (Kids.at ⟨t,c,l,none⟩ p) r.1,λ_=> .own a ((G a).cv+1),λf=>[(id,⟨(G id).ver,some (.rows d c t l (kv+2) (some p.toNat))⟩),(a,⟨(G a).cv+1,some (.row c t f)⟩)],r.2,[id,a],[]⟩
       |none=>none
      |false=>none
     |_=>none
    |false=>none
   |_=>none
theorem jlg{t:Nat}{s x:Operand}{f:Nat}{q:SR}(ho:o.op=.call { callee :=.builtin .append,args:=#[s,x],argTypes:=#[t,t] })(h:sKap (Jy P t) o G f (evE E s) (evE E x)=some q):SPk P o E G q:=by
 have a2:s∈o.op.operands:=by rw[ho];simp[Op.operands,Call.operands]
 have a5:x∈o.op.operands:=by rw[ho];simp[Op.operands,Call.operands]
 unfold sKap at h;split at h
 ·cases h
 rename_i V;obtain⟨d,V⟩:=v8 V;split at h
 ·cases h
 rename_i e k b z a3;split at h<;>try (cases h;done)
 rename_i id p v hs;split at h<;>try (cases h;done)
 rename_i hv;simp only[wcl,weg]at hv;cases qc hv.1;have A:f≠id:=λe=>by subst e;simp at hv
 split at h<;>try (cases h;done)
 rename_i tid it ty l kv hb;split at h<;>try (cases h;done)
 rename_i K;simp only[wcl]at K;have I:=wcj K.1;have B:=wcj K.2.1;subst I;subst B;split at h<;>cases h;rename_i y hr;refine⟨λ_=>rfl,λl' C W n F H Q O u=>?_⟩;obtain⟨r,a1,C⟩:=yb C;obtain⟨b1,b2,rfl⟩:=za8 C;have hn:=u.hn id (by simp);have J:=u.hn f (by simp);obtain⟨r1,r2,r3,r4⟩:=jaj hn hb;have w:=zgi (H:=H) (k:=⟨ty,it,l,none⟩) (id:=id) (v:=(G id).cv) (by unfold zjw;rw[wev,hb];rfl) a1 hn;simp only at w;have U:=zj9 (H:=H) hr rfl λi L=>u.h i (by simp[L]);have a6:PE P W n o F H λp' X=>p'=.ps (.c id p.toNat) ((G id).cv+1)/\X=H.set (.c id p.toNat) ⟨(G id).cv+1,some (.row it (wid ty) (r.length+y.1.length) (r.flatMap (jq ty)++y.1.flatMap (jq ty)))⟩:=
  PE.append (id :=.c id p.toNat) (ver:=(G id).cv) (m:=r.length) (m2:=y.1.length) (cs:=r.flatMap (jq ty)) (cs2:=y.1.flatMap (jq ty)) ho V (O d V) a3 (by rw[u.ev a2,hs];simp only[TS.den]) (by unfold Jf;rw[w];simp) (by rw[u.ev a5];exact U) (zd5 K.2.2 _) b1 b2 ⟨rfl,rfl⟩
 have R:(([(id,(⟨(G id).ver,some (.rows tid it ty l (kv+2) (some p.toNat))⟩:GB)),(f,⟨(G f).cv+1,some (.row it ty (r++y.1))⟩)]:List (Nat×GB)).map Prod.fst).Nodup:=by simp[Ne.symm A]
 have N:∀k:Nm,k.rt=some f->qz H [(id,⟨(G id).ver,some (.rows tid it ty l (kv+2) (some p.toNat))⟩),(f,⟨(G f).cv+1,some (.row it ty (r++y.1))⟩)] k=Qe ⟨(G f).cv+1,some (.row it ty (r++y.1))⟩ k:=λk g=>y7 R (by simp) g;have M:∀k:Nm,k.rt=some id->qz H [(id,⟨(G id).ver,some (.rows tid it ty l (kv+2) (some p.toNat))⟩),(f,⟨(G f).cv+1,some (.row it ty (r++y.1))⟩)] k=Qe ⟨(G id).ver,some (.rows tid it ty l (kv+2) (some p.toNat))⟩ k:=λk g=>y7 R (by simp) g;show PE P W n o F H λp' X=>p'=(TS.own f ((G f).cv+1)).den/\X=qz H [(id,⟨(G id).ver,some (.rows tid it ty l (kv+2) (some p.toNat))⟩),(f,⟨(G f).cv+1,some (.row it ty (r++y.1))⟩)];refine wak (ids:=[id,f]) (σ:=λk=>if k=.o f then some (.c id p.toNat)else some k) a6 Q (zhz Q.h λx hx=>?_) O (zki (id:=id) (D:=[f]) (ver:=(G id).ver) (ver1:=(G id).ver) (kv:=kv+2) (tid:=tid) (it:=it) (t:=ty) (l:=l) (h:=some p.toNat) (cs:=(List.range l.length).map (Hole.cell id (G id).cv none)) (λk g=>?_) M (λk g=>?_) (by simp[Ne.symm A]) (by rw[zk (by simp)];exact r1) (wcq _) (by rw[if_neg (by simp[Ne.symm A])]) (λj=>?_) (by simp) (λj r' hj T=> .inl ?_) λk k' x g b5 Y Z I B=>?_) ?_
 ·rcases wco.1 hx with h|h<;>exact .noP (zjr _ h)
 ·rw[zk λe=>g ⟨id,by simp,by rw[e];rfl⟩,if_neg λe=>g ⟨f,by simp,by rw[e];rfl⟩];exact⟨J0 λi L e=>g ⟨i,L,e⟩,rfl⟩
 ·obtain⟨i,L,e⟩:=g;simp only[wci]at L;subst L;rw[zk λB=>by rw[B]at e;cases e;exact A rfl,N k e,J.at e];cases k with
  |r _=>cases e
  |c i j=>cases e;exact .inl ⟨rfl,Nat.le_succ _⟩
  |o i=>
   cases e;refine .inr ⟨Nat.lt_succ_of_le (GB.ver_le _),.c id p.toNat,_,by rw[if_pos rfl],⟨id,by simp,rfl⟩,rfl,?_,λc K=>zjr c K⟩;unfold PHeap.set;rw[if_pos rfl];simp[BD.den]
 ·by_cases e:j=p.toNat
  ·subst e;unfold PHeap.set;rw[if_pos rfl];simp only;omega
  ·rw[zk (by simp[e]),r3];omega
 ·have e:j≠p.toNat:=λe=>by subst e;simp[Hole.is]at hj
  refine⟨.c id j,(G id).cv,?_,by rw[if_neg (by simp)],⟨id,by simp,rfl⟩,?_⟩
  ·rw[Zo (wcg.1 T).1];rfl
  ·rw[zk (by simp[e])];exact r4 j r' rfl T
 ·have S:∀{k:Nm},(qz H [(id,⟨(G id).ver,some (.rows tid it ty l (kv+2) (some p.toNat))⟩),(f,⟨(G f).cv+1,some (.row it ty (r++y.1))⟩)] k).body.isSome=true->k ≠ .c id p.toNat:=λ{k}g e=>by
   subst e;rw[M _ rfl]at g;simp[Qe,zac,BD.ch,Hole.is]at g
  split at I<;>split at B
  ·rename_i a b;rw[a,b]
  ·cases I;cases B;exact absurd rfl (S Z)
  ·cases I;cases B;exact absurd rfl (S Y)
  ·cases I;cases B;rfl
 ·simp only[TS.den];refine .nm (if_pos rfl) (λ_=>?_) (by rw[N _ rfl];exact wcq _);unfold PHeap.set;rw[if_pos rfl];exact⟨rfl,rfl⟩
theorem z9a{id c tid it ver kv:Nat}{t:Ty}{l:List (List t.D)}{r:List t.D}{cs:List PV}(g:c≠id)(m:AgN H G c)(y:(G c).b=some (.row it t r))(M:∀j,(H (.c id j)).ver<ver+kv)(B:cs.length=l.length)
  (K:∀j r,l[j]?=some r->∃v,cs[j]?=some (.ps (.c id j) v)/\H (.c id j)=⟨v,some (.row it (wid t) r.length (r.flatMap (jq t)))⟩) :
  Tell [id,c] (H.set (.o id) ⟨ver,some (.row tid 1 (l.length+1) (cs++[.ps (.o c) (G c).ver]))⟩) (qz H [(id,⟨ver,some (.rows tid it t (l++[r]) kv none)⟩),(c,⟨(G c).cv+1,none⟩)]) λk=>if k=.c id l.length then some (.o c)else some k:=by
 have q:(([(id,(⟨ver,some (.rows tid it t (l++[r]) kv none)⟩:GB)),(c,⟨(G c).cv+1,none⟩)]:List (Nat×GB)).map Prod.fst).Nodup:=by simp[Ne.symm g]
 have p:∀k:Nm,k.rt=some c->qz H [(id,⟨ver,some (.rows tid it t (l++[r]) kv none)⟩),(c,⟨(G c).cv+1,none⟩)] k=Qe ⟨(G c).cv+1,none⟩ k:=λk d=>y7 q (by simp) d;refine zki (id:=id) (D:=[c]) (ver:=ver) (ver1:=ver) (kv:=kv) (tid:=tid) (it:=it) (t:=t) (l:=l++[r]) (h:=none) (cs:=cs++[.ps (.o c) (G c).ver]) (λk d=>?_) (λk d=>y7 q (by simp) d) (λk d=> .inl ?_) (by simp[Ne.symm g]) (by unfold PHeap.set;rw[if_pos rfl,wcu];rfl) (wcq _) (by simp) (λj=>by rw[zk (by simp)];exact M j) (by simp[B]) (λj N _ f=> .inl ?_) λk O x d L C E u n=>?_
 ·rw[zk λe=>d ⟨id,by simp,by rw[e];rfl⟩,if_neg λe=>d ⟨id,by simp,by rw[e];rfl⟩];exact⟨J0 λi w e=>d ⟨i,w,e⟩,rfl⟩
 ·obtain⟨i,w,e⟩:=d;simp only[wci]at w;subst w;rw[zk λn=>by rw[n]at e;cases e;exact g rfl];exact zpw m p e
 ·rcases Nat.lt_or_ge j l.length with z|z
  ·rw[wcr z]at f;obtain⟨v,F,I⟩:=K j N f;refine⟨.c id j,v,by rw[wcr (by rw[B];exact z)];exact F,by rw[if_neg (by simp;omega)],⟨id,by simp,rfl⟩,?_⟩;rw[zk (by simp)];exact I
  ·have A:=(wcg.1 f).1;rw[wcu,wc5]at A;have:j=l.length:=by omega
   subst this;simp at f;subst f;refine⟨.o c,(G c).ver,by rw[<- B];simp,by rw[if_pos rfl],⟨c,by simp,rfl⟩,?_⟩;rw[zk (by simp[g]),z9g m y]
 ·have s:∀{k:Nm},(qz H [(id,⟨ver,some (.rows tid it t (l++[r]) kv none)⟩),(c,⟨(G c).cv+1,none⟩)] k).body.isSome=true->k ≠ .o c:=λ{k}d e=>by
   subst e;rw[(zpw m p (k :=.o c) rfl).1]at d;cases d
  split at u<;>split at n
  ·rename_i a b;rw[a,b]
  ·cases u;cases n;exact absurd rfl (s E)
  ·cases u;cases n;exact absurd rfl (s C)
  ·cases u;cases n;rfl
def jad(G:EG):TS->Option (Nat×TS)
 |.own a vx=>match Nat.beq (G a).ver vx with
  |true=>match (G a).b with
   |some (.rowx _ 1 [y])=>some (a,y)
   |_=>none
  |false=>none
 |_=>none
theorem z8y{x y:TS}{a:Nat}(h:jad G x=some (a,y)):x=.own a (G a).ver/\∃e,(G a).b=some (.rowx e 1 [y]):=by
 unfold jad at h;split at h<;>try (cases h;done)
 split at h<;>try (cases h;done)
 rename_i d;split at h<;>cases h;rename_i c;rw[qc d];exact⟨rfl,_,c⟩
def kv0(G:EG)(id:Nat):Nat:=(G id).cv-(G id).ver
def sRap(j:SE)(o:Oper)(G:EG)(a:Nat)(s x:TS):Option SR:=match z6 o with
 |false=>none
 |true=>match j with
  |none=>none
  |some (e,k,b,_)=>match jad G x with
   |none=>none
   |some (i,y)=>match s with
    |.own id d=>match Nat.beq (G id).ver d && Nat.beq k 1 with
     |true=>match (G id).b with
      |some (.rows g f t l kv none)=>match Nat.beq g e with
       |true=>match zqj G f t y with
        |some r=>match Nat.beq r.1 id with
         |false=>some ⟨List (List t.D),false,apO b l [r.2],λ_=> .own id (d+1),λh=>[(id,⟨d+1,some (.rows g f t h kv none)⟩),(r.1,⟨(G r.1).cv+1,none⟩)],[i],[id,r.1],[]⟩
         |true=>none
        |none=>none
       |false=>none
      |_=>none
     |false=>none
    |.c (.slice none 0 0)=>match y with
     |.own c m=>match (G c).b with
      |some (.row f t _)=>match zqj G f t y with
       |some r=>match Nat.beq r.1 a || !(Nat.beq k 1)with
        |false=>some ⟨List (List t.D),false,apO b [] [r.2],λ_=> .own a (nv G a),λh=>[(a,⟨nv G a,some (.rows e f t h (kv0 G a) none)⟩),(r.1,⟨(G r.1).cv+1,none⟩)],[i],[a,r.1],[]⟩
        |true=>none
       |none=>none
      |_=>none
     |_=>none
    |_=>none
theorem jns{t:Nat}{s x:Operand}{a:Nat}{q:SR}(T:o.op=.call { callee :=.builtin .append,args:=#[s,x],argTypes:=#[t,t] })(h:sRap (Jy P t) o G a (evE E s) (evE E x)=some q):SPk P o E G q:=by
 have N:s∈o.op.operands:=by rw[T];simp[Op.operands,Call.operands]
 have a0:x∈o.op.operands:=by rw[T];simp[Op.operands,Call.operands]
 unfold sRap at h;split at h
 ·cases h
 rename_i I;obtain⟨d,I⟩:=v8 I;split at h
 ·cases h
 rename_i e k b z O;split at h<;>try (cases h;done)
 rename_i xi y M;obtain⟨K,tx,a1⟩:=z8y M;have R:∀{rd F H}{c:Nat},Agr o E G rd F H->xi∈rd->y=.own c (G c).ver->k=1->zxb H k (evP F x)=some (1,[.ps (.o c) (G c).ver]):=λ{rd F H c}f a2 Q hk=>by
  rw[f.ev a0,K];simp only[TS.den];unfold zxb;simp only;rw[zl (t:=tx) (k:=1) (n:=1) (cs:=[.ps (.o c) (G c).ver]) (f.h xi a2) a1 (by simp[BD.den,qd,Q,TS.den,PV.cells]) rfl];simp[hk]
 split at h
 ·rename_i id ver Z;split at h<;>try (cases h;done)
  rename_i J;simp only[wcl]at J;cases qc J.1;have C:=qc J.2;split at h<;>try (cases h;done)
  rename_i tid it ty l kv hb;split at h<;>try (cases h;done)
  rename_i he;cases qc he;split at h<;>try (cases h;done)
  rename_i r Y;obtain⟨c,r⟩:=r;obtain⟨Q,i⟩:=zfe Y;split at h<;>cases h;rename_i g;have g:c≠id:=λe=>by subst e;simp at g
  refine⟨λ_=>rfl,λl' A W n F H u p f=>?_⟩;obtain⟨V,X,rfl⟩:=za8 A;have S:=f.hn id (by simp);have v:=f.hn c (by simp);obtain⟨r1,r2,r3,r4⟩:=jaj S hb;have B:PE P W n o F H λp' U=>p'=(TS.own id ((G id).ver+1)).den/\U=H.set (.o id) ⟨(G id).ver+1,some (.row e 1 (l.length+1) ((List.range l.length).map (Hole.cell id (G id).cv none)++[.ps (.o c) (G c).ver]))⟩:=
   PE.append (id :=.o id) (ver:=(G id).ver) (m:=l.length) (m2:=1) (cs:=(List.range l.length).map (Hole.cell id (G id).cv none)) (cs2:=[.ps (.o c) (G c).ver]) T I (p d I) O (by rw[f.ev N,Z];simp only[TS.den]) (by unfold Jf;rw[r1,C];simp) (R f (by simp) Q C) (by simp[Jm,z9g v i]) V X ⟨by simp only[TS.den],by rw[C]⟩
  refine wak B u (zhz u.h λx K=>?_) p (z9a (tid:=e) (ver:=(G id).ver+1) (kv:=kv) (l:=l) (cs:=(List.range l.length).map (Hole.cell id (G id).cv none)) g v i (λj=>by rw[r3,r2];omega) (by simp) λj r' w=>⟨(G id).cv,by rw[Zo (wcg.1 w).1];rfl,r4 j r' rfl w⟩) (.keep (zbp _));rcases wco.1 K with h|h
  ·exact zn5 _ h
  ·simp only[wci]at h;subst h;exact .ps trivial
 ·rename_i Z;split at h<;>try (cases h;done)
  split at h<;>try (cases h;done)
  rename_i it ty l0 a4;split at h<;>try (cases h;done)
  rename_i r Y;obtain⟨c,r⟩:=r;obtain⟨Q,i⟩:=zfe Y;split at h<;>cases h;rename_i g;simp only[Bool.or_eq_false_iff,Bool.not_eq_false']at g;have C:=qc g.2;have g:c≠a:=λe=>by subst e;simp at g
  refine⟨λ_=>rfl,λl' A W n F H u p f=>?_⟩;obtain⟨V,X,rfl⟩:=za8 A;have S:=f.hn a (by simp);have v:=f.hn c (by simp);have L:(H (.o a)).ver+1=nv G a:=by rw[S.1];rfl
  have B:PE P W n o F H λp' U=>p'=(TS.own a (nv G a)).den/\U=H.set (.o a) ⟨nv G a,some (.row e 1 (([]:List (List ty.D)).length+1) ([]++[.ps (.o c) (G c).ver]))⟩:=
   waw (id :=.o a) (m2:=1) (cs2:=[.ps (.o c) (G c).ver]) T I (p d I) O (by rw[f.ev N,Z];simp only[TS.den];rfl) (R f (by simp) Q C) (by simp[Jm,z9g v i]) V X ⟨by rw[L];simp only[TS.den],by rw[L,C];rfl⟩
  refine wak B u (zhz u.h λx K=>?_) p (z9a (tid:=e) (ver:=nv G a) (kv:=kv0 G a) (l:=[]) (cs:=[]) g v i (λj=>?_) rfl λj r' w=>by simp at w) (.keep (zbp _))
  ·simp only[wei,wci]at K;subst K;exact .ps trivial
  ·rw[S.2];have:=(G a).ver_le;simp only[zac,nv,kv0];omega
 ·cases h
def nilS(id:Nat):Nm->Option Nm
 |.c i j=>if i=id then none else some (.c i j)
 |k=>some k
theorem z0r{id:Nat}{k x:Nm}(h:nilS id k=some x):x=k:=by
 cases k with
 |c i j=>simp only[nilS]at h;split at h<;>cases h;rfl
 |_=>cases h;rfl
theorem z8p{id tid it ver kv m:Nat}{t:Ty}(s:∀j,(H (.c id j)).ver<ver+kv):Tell [id] (H.set (.o id) ⟨ver,some (.row tid 1 m (List.replicate m (.u (.slice none 0 0))))⟩) (qz H [(id,⟨ver,some (.rows tid it t (List.replicate m []) kv none)⟩)]) (nilS id):=by
 refine zki (id:=id) (D:=[]) (ver:=ver) (ver1:=ver) (kv:=kv) (tid:=tid) (it:=it) (t:=t) (l:=List.replicate m []) (h:=none) (cs:=List.replicate m (.u (.slice none 0 0))) (λk b=>?_) (λk b=>y7 (by simp) (by simp) b) (λk⟨i,d,_⟩=>by cases d) (by simp) (by unfold PHeap.set;rw[if_pos rfl,wch]) (wcq _) rfl (λj=>by rw[zk (by simp)];exact s j) (by simp) (λj w _ a=> .inr ?_) λk v x b p q r g n=>by rw[<- z0r g,<- z0r n]
 ·rw[zk λe=>b ⟨id,by simp,by rw[e];rfl⟩];refine⟨J0 λi d e=>b ⟨i,d,e⟩,?_⟩;cases k with
  |c i j=>simp only[nilS];rw[if_neg];intro e;exact b ⟨id,by simp,by rw[e];rfl⟩
  |_=>rfl
 ·have f:j<m:=by have:=(wcg.1 a).1;simpa using this
  rw[wdf,if_pos f]at a;cases a;exact⟨rfl,by rw[wdf,if_pos f],by simp[nilS]⟩
def sRmk(fl:Option (TypeId×Ty))(f:SE)(o:Oper)(G:EG)(c:Nat)(same:Bool)(x:TS):Option SR:=match z6 o && same with
 |false=>none
 |true=>match fl with
  |none=>none
  |some (d,t)=>match f with
   |some (e,1,b,z)=>match jd2 z with
    |true=>match zeu x with
     |some a=>some ⟨Nat,false,mkO b a,λ_=> .own c (nv G c),λm=>[(c,⟨nv G c,some (.rows e d t (List.replicate m []) (kv0 G c) none)⟩)],[],[c],[]⟩
     |none=>none
    |false=>none
   |_=>none
theorem jms{fl:Option (TypeId×Ty)}{t:Nat}{x y:Operand}{c:Nat}{q:SR}(C:o.op=.makeSlice t x y)(h:sRmk fl (Jy P t) o G c (zpo x y) (evE E x)=some q):SPk P o E G q:=by
 have s:x∈o.op.operands:=by rw[C];simp[Op.operands]
 unfold sRmk at h;split at h
 ·cases h
 rename_i f;simp only[wcl]at f;obtain⟨d,A⟩:=v8 f.1;split at h<;>try (cases h;done)
 split at h<;>try (cases h;done)
 rename_i e b z r;split at h<;>try (cases h;done)
 rename_i hz;cases zut hz;split at h<;>cases h;rename_i a L;obtain⟨D,M⟩:=Ye L;refine⟨λ_=>rfl,λ(m:Nat)(N:mkO b a=some m)W n F H l k i=>?_⟩;obtain⟨rfl,Q,R⟩:=z9d N;have g:evP F x=.u (.int D m):=by rw[i.ev s,M]
 obtain⟨T,V,w,U,K⟩:=z1v (F:=F) f.2 ⟨D,m,g⟩;rw[g]at w;cases w;have B:=i.hn c (by simp);have p:(H (.o c)).ver+1=nv G c:=by rw[B.1];rfl
 have v:PE P W n o F H λS I=>S=(TS.own c (nv G c)).den/\I=H.set (.o c) ⟨nv G c,some (.row e 1 m (List.replicate m (.u (.slice none 0 0))))⟩:=
  PE.makeSlice (id :=.o c) (m:=m) C A (k d A) r rfl g K Q R ⟨by rw[p];simp only[TS.den],by rw[p]⟩
 refine wak v l (zhz l.h λx O=>?_) k (z8p (tid:=e) (ver:=nv G c) (kv:=kv0 G c) (m:=m) λj=>?_) (.keep (zbp _))
 ·rw[(List.mem_replicate.1 O).2];exact .noP (.u _)
 ·rw[B.2];have:=(G c).ver_le;simp only[zac,nv,kv0];omega
def sRlt(fl:Option (TypeId×Ty))(d:SE)(o:Oper)(G:EG)(a len:Nat)(ps:List (Nat×Operand)):Option SR:=match z6 o with
 |false=>none
 |true=>match fl with
  |none=>none
  |some (c,t)=>match d with
   |some (e,1,b,z)=>match z.cells.toList.all Value.oneCell' with
    |true=>match len,ps with
     |0,[]=>some ⟨Unit,true,some (),λ_=> .own a (nv G a),λ_=>[(a,⟨nv G a,some (.rows e c t [] (kv0 G a) none)⟩)],[],[a],[]⟩
     |_,_=>none
    |false=>none
   |_=>none
theorem jno{fl:Option (TypeId×Ty)}{t len a:Nat}{c:Array (Nat×Operand)}{q:SR}(A:o.op=.buildSlice t len c)(h:sRlt fl (Jy P t) o G a len c.toList=some q):SPk P o E G q:=by
 unfold sRlt at h;split at h
 ·cases h
 rename_i p;obtain⟨d,v⟩:=v8 p;split at h<;>try (cases h;done)
 split at h<;>try (cases h;done)
 rename_i e b z r;split at h<;>try (cases h;done)
 rename_i hz;split at h<;>try (cases h;done)
 rename_i k;cases h;refine⟨λ_=>rfl,λ_ _ W n F H g f l=>?_⟩;have w:=l.hn a (by simp);have i:(H (.o a)).ver+1=nv G a:=by rw[w.1];rfl
 have s:PE P W n o F H λC y=>C=(TS.own a (nv G a)).den/\y=H.set (.o a) ⟨nv G a,some (.row e 1 0 (List.replicate 0 (.u (.slice none 0 0))))⟩:=
  PE.buildSlice (id :=.o a) A v (f d v) r hz (by simp) (by simp[maxLen]) (by rw[k];rfl) ⟨by rw[i];simp only[TS.den],by rw[i,k];rfl⟩
 refine wak s g (zhz g.h λx B=>by cases B) f (z8p (tid:=e) (ver:=nv G a) (kv:=kv0 G a) (m:=0) λj=>?_) (.keep (zbp _));rw[w.2];have:=(G a).ver_le;simp only[zac,nv,kv0];omega
end
def jc8(P:Program)(fl:Option (TypeId×Ty))(a:Nat)(o:Oper)(E:EF)(G:EG):Option SK:=match o.op with
 |.store t x y=>match asz P t with
  |some (c,k)=>match sKel c k G (evE E x) (evE E y)with
   |some q=>some q.kP
   |none=>match sRst c k G (evE E x) (evE E y)with
    |some q=>some q.kP
    |none=>none
  |none=>none
 |.makeSlice t x y=>match sRmk fl (Jy P t) o G a (zpo x y) (evE E x)with
  |some q=>some q.kP
  |none=>none
 |.buildSlice t len b=>match sRlt fl (Jy P t) o G a len b.toList with
  |some q=>some q.kP
  |none=>none
 |.call ⟨.builtin .append,⟨[s,x]⟩,⟨[t,d]⟩⟩=>match Nat.beq t d with
  |true=>match sKap (Jy P t) o G a (evE E s) (evE E x)with
   |some q=>some q.kP
   |none=>match sRap (Jy P t) o G a (evE E s) (evE E x)with
    |some q=>some q.kP
    |none=>none
  |false=>none
 |_=>none
theorem z5t{P:Program}{fl:Option (TypeId×Ty)}{d:Nat}{o:Oper}{E:EF}{G:EG}{r:SK}(h:jc8 P fl d o E G=some r):zxk P o E G r:=by
 unfold jc8 at h;split at h
 ·rename_i t x y b;split at h<;>try (cases h;done)
  rename_i f k c;split at h
  ·rename_i q a;cases h;exact(jl8 b c a).k
  ·split at h<;>cases h;rename_i q a;exact(jn6 b c a).k
 ·rename_i t x y b;split at h<;>cases h;rename_i q a;exact(jms b a).k
 ·rename_i t len e b;split at h<;>cases h;rename_i q a;exact(jno b a).k
 ·rename_i s x t g b;split at h<;>try (cases h;done)
  rename_i c;cases qc c;split at h
  ·rename_i q a;cases h;exact(jlg b a).k
  ·split at h<;>cases h;rename_i q a;exact(jns b a).k
 ·cases h
section
variable{P:Program}{W:Env}{n:Nat}{o:Oper}{E:EF}{F:PFrame}{H:PHeap}{G:EG}
theorem jgz{w:World}{t ty e:TypeId}{i:TypeInfo}(x:P.underlying t=some (.slice e))(hi:P.info? e=some i)
  {g off m cap:Nat}{d:Array Value}(s:w.heap[g]?=some (.cells d e (0,0))) (p:off<=m)
  {a:Addr}{m2 c:Nat}{b:List Value}(v:b.length=m2*i.size) (h:∀j u,b[j]?=some u->w.cell? (a.add j)=some u) (q:∀u∈b,u.oneCell'=true)
  (o:m+m2<=cap) (l:m*i.size+b.length<=d.size) :
  (Builtin.append_ #[t,t] ty #[.slice (some ⟨g,off*i.size,none⟩) (m-off) (cap-off),.slice (some a) m2 c]).run P w =
   .ok (.slice (some ⟨g,off*i.size,none⟩) (m-off+m2) (cap-off)) (w.setRow g (d.toList.take (m*i.size)++b++d.toList.drop (m*i.size+b.length)).toArray):=by
 have r:=run_firstCells_some (P:=P) w i.size m2 a m2 c b v h;have n:=run_storeCells_at P g (m*i.size) e b 0 d w s (by simpa using l) q;simp only[wd5]at n;have k:off*i.size+(m-off)*i.size=m*i.size:=by rw[<- wd6];congr 1;omega
 have f:m-off+m2<=cap-off:=by omega
 simp[Builtin.append_,run_underlying x,sizeOf,typeInfo,hi,Builtin.lenOf,f,r,Jj,k,n]
theorem jd4{w:World}{base:Nat}{e:TypeId}{i:TypeInfo}{z:Value}(j:z.cells.size=i.size){n m old:Nat}(p:old<n+m){xs a:List Value}(d:xs.length=n*i.size)(o:a.length=m*i.size)(f:n+m<=maxLen)(c:base<=w.heap.size)(row:Option Nat):
  (w.drew.alloc (.cells (xs.toArray++a.toArray++Builtin.zeroCells z.cells (grownCap w (n+m) old e-(n+m))) e)).ownsRow base e i.size
    (.slice (some ⟨w.heap.size,0,none⟩) (n+m) (grownCap w (n+m) old e)) (n+m) (xs++a) /\
   w.grownBy (w.drew.alloc (.cells (xs.toArray++a.toArray++Builtin.zeroCells z.cells (grownCap w (n+m) old e-(n+m))) e)) row:=by
 have h:=grownCap_ge w (n+m) old e;have g:grownCap w (n+m) old e<=maxLen:=grownCap_le_maxLen w (n+m) old e f;have b:(xs++a).length=(n+m)*i.size:=by rw[wcu,d,o,wd6]
 refine⟨⟨b,.inr ⟨w.heap.size,_,_,rfl,c,heap_alloc_new w.drew _,h,g,?_,?_⟩⟩,⟨rfl,rfl,rfl,by simp,λk l _=>by first|exact heap_alloc_old _ _ _ l|exact heap_alloc_old _ _ l⟩⟩
 ·simp only[Array.size_append,List.size_toArray,size_zeroCells,j,d,o,<- wd6];congr 1;omega
 ·simp only[Array.toList_append,wc6];rw[<- wc6,<- b];exact List.take_left
theorem z1j{V:Nm->Value}{w:World}(v:HRel P W H V w){id:Nm}{e k m:Nat}{cs:List PV}{bd:PBody}(s:(H id).body=some bd)(t:bd=.row e k m cs\/bd=.que e k m cs):
  ∃g a b c,w.ownsRow W.w.heap.size e k g (a+m) (b++c)/\b.length=a*k/\zrj a k g (V id)/\(∀u∈b++c,u.oneCell'=true)/\RpL W.Z H V w cs c:=by
 obtain⟨c,l,n⟩:=v.body id bd s;rcases t with rfl|rfl
 ·obtain⟨f,h⟩:=l;refine⟨V id,0,[],c,by simpa using f,by simp,?_,by simpa using h,n⟩;rcases f.2 with⟨d,x⟩|⟨p,i,j,d,_,_,o,_⟩
  ·exact⟨none,0,0,none,d,d,wcq _,wcq _,.inl ⟨rfl,rfl⟩⟩
  ·exact⟨_,_,_,_,d,d,wem _,o,.inr ⟨p,0,rfl,rfl,.inl (by simp)⟩⟩
 ·obtain⟨g,a,b,f,h,q,r⟩:=l;exact⟨g,a,b,c,f,h,q,r,n⟩
theorem wbz{lo x:Operand}{id:Nm}{t ver e k m:Nat}{kd:IntKind}{z:Int}{cs:List PV}{bd:PBody}{K:PV->PHeap->Prop}(ho:o.op=.slice t x (some lo) none none)(S:Y4 n o)(ht:esz P t=some k)(hx:evP F x=.ps id ver)(E:H id=⟨ver,some bd⟩)(Y:bd=.row e k m cs\/bd=.que e k m cs)(hy:evP F lo=.u (.int kd z))(h0:0<=z)(hz:z.toNat<=m)
  (hk:K (.ps id (ver+1)) (H.set id ⟨ver+1,some (.que e k (m-z.toNat) (cs.drop (z.toNat*k)))⟩)):PE P W n o F H K:=λV a w M=>by
 obtain⟨e',f,hu,J,rfl⟩:=ze1 ht;have B:=Rp.eval (P:=P) (F:=F) (a:=a) (Z:=W.Z) (H:=H) (V:=V) (w:=w) x λt _=>M.slot t;have C:=Rp.eval (P:=P) (F:=F) (a:=a) (Z:=W.Z) (H:=H) (V:=V) (w:=w) lo λt _=>M.slot t;rw[hx]at B;rw[hy]at C;have D:a.eval x=V id:=by
  generalize a.eval x=q at B;cases B with
  |ps _ _ _ c4 Y=>exact Y (by rw[E];rfl) (by rw[E])
 have e2:a.eval lo=.int kd z:=by generalize a.eval lo=q at C;cases C;rfl
 obtain⟨v0,c,a0,vs,j,L,I,h1,hR⟩:=z1j M.heap (bd:=bd) (by rw[E]) Y;have y:=V8 I;obtain⟨ad,mm,cap,d,hV,N,a8,U,A⟩:=I;have X:mm=c+m:=by
  rcases j.2 with⟨D,e0⟩|⟨g,cap,b3,D,_⟩<;>rw[hV]at D<;>cases D
  ·omega
  ·rfl
 subst X;rw[weq]at N;have R:=y9 (P:=P) (w:=w) (isS:=true) (len:=m) (cap:=cap-c) (l:=z.toNat) (h:=m) (lo:=some (.int kd z)) (hi:=none) (.inr ⟨kd,z,rfl,h0,rfl⟩) (.inl ⟨rfl,rfl⟩) (by omega) (by omega);have T:(execOp a.eval o).run P w=.ok (.value (.slice (if cap-c=z.toNat then d else d.map (·.add (z.toNat*f.size))) (m-z.toNat) (cap-c-z.toNat))) w:=by
  simp only[execOp,ho];simp[D,N,e2,Instr.sliceAt,Instr.slice,run_underlying hu,R,sizeOf,typeInfo,J]
 have s:zrj (c+z.toNat) f.size v0 (.slice (if cap-c=z.toNat then d else d.map (·.add (z.toNat*f.size))) (m-z.toNat) (cap-c-z.toNat)):=by
  refine⟨ad,c+m,cap,_,hV,by rw[show m-z.toNat=c+m-(c+z.toNat) by omega,show cap-c-z.toNat=cap-(c+z.toNat) by omega],by omega,U,?_⟩;rcases A with⟨O,r2⟩|⟨b,oo,O,r2,Q⟩
  ·left;subst r2;refine⟨O,?_⟩;split<;>rfl
  ·right;subst r2;by_cases hc:cap-c=z.toNat
   ·exact⟨b,oo,O,by rw[if_pos hc],.inr (by omega)⟩
   ·refine⟨b,oo+z.toNat*f.size,O,by rw[if_neg hc];simp[Jj],?_⟩;rcases Q with Q|Q
    ·left;rw[Q,wd6]
    ·right;omega
 have hl:=j.1;rw[wcu,L,wd6]at hl;have c0:vs.length=m*f.size:=by omega
 have b9:z.toNat*f.size<=m*f.size:=wes _ hz;have r:Turn W H V w id ⟨ver+1,some (.que e f.size (m-z.toNat) (cs.drop (z.toNat*f.size)))⟩ (.slice (if cap-c=z.toNat then d else d.map (·.add (z.toNat*f.size))) (m-z.toNat) (cap-c-z.toNat)) w:=
  ⟨M.heap.below,wcq _,λb _ _=>rfl,λg hg=> .inr ⟨by rw[E];rfl,by rw[y,<- V8 s];exact hg⟩,.inl (by rw[E];exact wfd _)⟩
 refine yv T ⟨_,_,yq V id _,hk,M.turn r (λb2 G=>?_) o.dst S ?_⟩
 ·cases G;refine⟨vs.drop (z.toNat*f.size),⟨v0,c+z.toNat,a0++vs.take (z.toNat*f.size),?_,?_,s,?_⟩,?_⟩
  ·rw[wc6,wdq,show c+z.toNat+(m-z.toNat)=c+m by omega];exact j
  ·rw[wcu,wdl,L,wd6,wft (by omega)]
  ·rw[wc6,wdq];exact h1
  ·refine⟨by simp[hR.1],λi p v h3 h4=>?_⟩;rw[wdv]at h3 h4;exact r.rp (hR.2 _ p v h3 h4)
 ·refine .ps _ _ _ ?_ λ_ _=>?_
  ·simp[PHeap.set]
  ·simp[yq]
theorem wbq{s x:Operand}{t e:TypeId}{k b d ver m m2:Nat}{id:Nm}{z:Value}{cs cs2:List PV}{K:PV->PHeap->Prop}(ho:o.op=.call { callee :=.builtin .append,args:=#[s,x],argTypes:=#[t,t] })(hd:o.dst=some d)(h2:d<n)(ht:Jy P t=some (e,k,b,z))
  (hs:evP F s=.ps id ver) (hH:H id=⟨ver,some (.que e k m cs)⟩) (hx:zxb H k (evP F x)=some (m2,cs2)) (c5:∀p∈cs2,Jm H p=true) (e8:m+m2<=maxLen) (D:(m+m2)*b<=140737488355328)
  (hk:K (.ps id (ver+1)) (H.set id ⟨ver+1,some (.que e k (m+m2) (cs++cs2))⟩)):PE P W n o F H K:=λV a w hr=>by
 obtain⟨i,B,hi,d3,d0,rfl,d2,b8⟩:=zbl ht;have i9:a.eval s=V id:=by
  have:=Rp.eval (P:=P) (F:=F) (a:=a) (Z:=W.Z) (H:=H) (V:=V) (w:=w) s λt _=>hr.slot t;rw[hs]at this;generalize a.eval s=q at this;cases this with
  |ps _ _ _ k9 hh=>exact hh (by rw[hH];rfl) (by rw[hH])
 obtain⟨v0,l,a4,vs,A,S,a7,h1,hR⟩:=z1j hr.heap (bd :=.que e k m cs) (by rw[hH]) (.inr rfl);obtain⟨ad,c,j2,f7⟩:=ziu hr.heap (Rp.eval (P:=P) (F:=F) (a:=a) x λt _=>hr.slot t) hx;have c9:∃f,RpL W.Z H V w cs2 f/\(∀u∈f,u.oneCell'=true)/\((m2=0/\f=[])\/∃b,ad=some b/\f.length=m2*k/\(∀j u,f[j]?=some u->w.cell? (b.add j)=some u)/\∀u∈f,u.oneCell'=true):=by
  rcases f7 with⟨rfl,rfl⟩|⟨b,f,C,e2,Y,e4⟩
  ·exact⟨[],⟨rfl,λi p v h=>by simp at h⟩,(λu B=>by cases B),.inl ⟨rfl,rfl⟩⟩
  ·have N:∀u∈f,u.oneCell'=true:=λu B=>by
    obtain⟨j,hj,rfl⟩:=wew B;have f3:j<cs2.length:=by rw[Y.1];exact hj
    exact(Y.2 j _ _ (wcf f3) (wcf hj)).leaf hr.heap (c5 _ (wcm f3))
   exact⟨f,Y,N,.inr ⟨b,C,e2,e4,N⟩⟩
 obtain⟨f,Y,N,i8⟩:=c9;have i7:=Yt A;have J:=V8 a7;have R:vs.length=m*k:=by
  have:=A.1;rw[wcu,S,wd6]at this;omega
 have X:RpL W.Z H V w (cs++cs2) (vs++f):=RpL.append hR Y;have fin:∀(I:Nat)(Q vf:Value)(T:World)(L:List Value),
   (execOp a.eval o).run P w=.ok (.value Q) T->T.ownsRow W.w.heap.size e k vf (I+(m+m2)) (L++(vs++f))->L.length=I*k->w.grownBy T v0.ownBlock ->
   (∀g,qf vf=some g->w.heap.size<=g\/qf v0=some g)->zrj I k vf Q->(∀u∈L,u.oneCell'=true) ->
   o.wp P a w (λa' T=>∃p H' V',K p H'/\Rel P W n (F.put o.dst p) H' V' a' T) (λ_ _ _=>False):=by
  intro I Q vf T L h7 c8 f6 c3 f0 b3 g7;refine yv h7 ⟨_,_,yq V id Q,hk,?_⟩;have a3:Turn W H V w id ⟨ver+1,some (.que e k (m+m2) (cs++cs2))⟩ Q T:=by
   refine⟨hr.heap.below.grown c3 hr.heap.below.size λkk hk=>?_,c3.size,λbb i0 hn=>c3.block bb i0 λe'=>hn ⟨by rw[hH];rfl,by rw[J,<- i7];exact e'.symm⟩,λg hg=>?_,.inl (by rw[hH];exact wfd _)⟩
   ·exact(A.lt kk hk).1
   ·rcases f0 g (by rw[<- V8 b3];exact hg)with h|h
    ·exact .inl h
    ·exact .inr ⟨by rw[hH];rfl,by rw[J];exact h⟩
  rw[hd];refine hr.turn a3 (λbd g5=>?_) (some d) (λt ht=>by cases ht;exact h2) ?_
  ·cases g5;refine⟨vs++f,⟨vf,I,L,c8,f6,b3,λu B=>?_⟩,⟨X.1,λi p v h3 h4=>a3.rp (X.2 i p v h3 h4)⟩⟩;rcases wco.1 B with B|B
   ·exact g7 u B
   ·rcases wco.1 B with B|B
    ·exact h1 u (List.mem_append_right _ B)
    ·exact N u B
  ·refine .ps _ _ _ ?_ λ_ _=>?_
   ·simp[PHeap.set]
   ·simp[yq]
 have M:∀u∈a4,u.oneCell'=true:=λu B=>h1 u (wfj _ B);obtain⟨j8,mm,y,U,hV,f8,b7,i3,E⟩:=a7;have i4:mm=l+m:=by
  rcases A.2 with⟨C,e0⟩|⟨g,y,c0,C,_⟩<;>rw[hV]at C<;>cases C
  ·omega
  ·rfl
 subst i4;rw[weq]at f8;have G:∀{Q T},(Builtin.append_ #[t,t] o.type #[.slice U m (y-l),.slice ad m2 c]).run P w=.ok Q T->(execOp a.eval o).run P w=.ok (.value Q) T:=λO=>by
  unfold execOp;simp only[ho,resolve,invoke,builtin,Sem.run_bind,Sem.run_pure,Result.andThen_ok,wfv,wc4,wed,i9,f8,j2,O]
 have b4:zrj l k v0 (.slice U m (y-l)):=⟨_,_,_,_,hV,by rw[weq],b7,i3,E⟩
 rcases i8 with⟨rfl,rfl⟩|⟨bb,rfl,hl,hc,c1⟩
 ·-- nothing is appended
  refine fin l (.slice U m (y-l)) v0 w a4 (G ?_) (by simpa using A) S ⟨rfl,rfl,rfl,wcq _,λ_ _ _=>rfl⟩ (λg hg=> .inr hg) b4 M;rcases E with⟨rfl,rfl⟩|⟨bk,oo,rfl,rfl,_⟩
  ·rcases A.2 with⟨C,h0⟩|⟨g',b2,d9,C,_⟩<;>rw[hV]at C<;>injection C with e2 e3 e4<;>try (cases e2;done)
   have h0:m=0:=by omega
   subst h0;subst e4;cases ad<;>simp[Builtin.append_,run_underlying B,sizeOf,typeInfo,hi,Builtin.lenOf,Builtin.firstCells,loadCells,loadCellsFrom]
  ·have:m<=y-l:=by omega
   cases ad<;>simp[Builtin.append_,run_underlying B,sizeOf,typeInfo,hi,Builtin.lenOf,Builtin.firstCells,loadCells,loadCellsFrom,this,storeCells]
 ·rcases A.2 with⟨C,h0⟩|⟨g,b2,c0,C,g6,f2,j5,g8,g9,d1⟩
  ·-- nil
   rw[hV]at C;injection C with e2 e3 e4
   subst e2;subst e4;have i1:m=0:=by omega
   have c6:l=0:=by omega
   subst i1;subst c6;have g4:U=none:=by
    rcases E with⟨_,r⟩|⟨_,_,r,_⟩
    ·exact r
    ·cases r
   subst g4;have j1:vs=[]:=wde (by simpa using R);subst j1;obtain⟨Q,T,O,h4,h5,h6⟩:=run_append_own (P:=P) w W.w.heap.size t o.type e i z k i.bytes B hi d3 d0 rfl d2 b8 (.slice none 0 0) 0 [] (World.ownsRow_nil _ _ _ _) bb m2 c f hl hc c1 (by omega) (by simpa using D) hr.heap.below.size;obtain⟨l7,l8,a2,e7,_⟩:=run_append_own (P:=P) w w.heap.size t o.type e i z k i.bytes B hi d3 d0 rfl d2 b8 (.slice none 0 0) 0 [] (World.ownsRow_nil _ _ _ _) bb m2 c f hl hc c1 (by omega) (by simpa using D) (wcq _);rw[O]at a2;cases a2;have a8:∀g,qf Q=some g->w.heap.size<=g:=λg hg=>by
    refine(e7.lt g ?_).1;rw[Yt e7];exact hg
   have a7:zrj 0 k Q Q:=by
    rcases h4.2 with⟨C,e2⟩|⟨g',b2,d9,C,_,_,e5,_⟩
    ·exact⟨none,0,0,none,C,C,wcq _,wcq _,.inl ⟨rfl,rfl⟩⟩
    ·exact⟨_,_,_,_,C,C,wem _,e5,.inr ⟨g',0,rfl,rfl,.inl (by simp)⟩⟩
   exact fin 0 Q Q T [] (G O) (by simpa using h4) (by simp) (by rw[hV];exact h5) (λg hg=> .inl (a8 g hg)) a7 (λu B=>by cases B)
  ·rw[hV]at C;cases C;obtain⟨oo,rfl,f5⟩:∃oo,U=some ⟨g,oo,none⟩/\(oo=l*k\/y=l):=by
    rcases E with⟨r,_⟩|⟨b',o',r1,r2,r3⟩
    ·cases r
    ·cases r1;exact⟨o',r2,r3⟩
   subst d0;by_cases a1:l+m+m2<=y
   ·by_cases i2:m2=0
    ·subst i2;have i6:f=[]:=wde (by simpa using hl);subst i6;refine fin l (.slice (some ⟨g,oo,none⟩) m (y-l)) v0 w a4 (G ?_) (by simpa using A) S ⟨rfl,rfl,rfl,wcq _,λ_ _ _=>rfl⟩ (λg hg=> .inr hg) b4 M;have:m<=y-l:=by omega
     simp[Builtin.append_,run_underlying B,sizeOf,typeInfo,hi,Builtin.lenOf,Builtin.firstCells,loadCells,loadCellsFrom,this,storeCells]
    ·have a0:oo=l*i.size:=by rcases f5 with h|h;exact h;omega
     subst a0;have f1:(l+m)*i.size+f.length<=c0.size:=by rw[hl,g9,<- wd6];exact wes _ a1
     have b0:=jgz (P:=P) (c:=c) (ty:=o.type) B hi f2 b7 hl hc c1 a1 f1;rw[weq]at b0;have b6:(a4++(vs++f)).length=(l+(m+m2))*i.size:=by rw[wcu,wcu,S,R,hl,<- wd6,<- wd6]
     refine fin l _ (.slice (some ⟨g,0,none⟩) (l+(m+m2)) y) _ a4 (G b0) ⟨b6,.inr ⟨g,y,_,rfl,g6,setRow_heap w g c0 _ e _ f2,by omega,g8,?_,?_⟩⟩ S ⟨rfl,rfl,rfl,by simp,λk _ hk=>setRow_other w g k _ (λe=>hk (by rw[hV];simp[Value.ownBlock,e]))⟩ (λg' c2=> .inr (by rw[hV];exact c2)) ⟨_,_,_,_,rfl,by rw[weq],by omega,by omega,.inr ⟨g,_,rfl,rfl,.inl rfl⟩⟩ M
     ·simp only[List.size_toArray,wcu,wdl,wdw,Array.length_toList];omega
     ·rw[d1,<- b6];simp only[<- wc6];exact List.take_left
   ·have c7:∀j u,vs[j]?=some u->w.cell? ((⟨g,oo,none⟩:Addr).add j)=some u:=λj u hj=>by
     by_cases he:y=l
     ·have i5:m=0:=by omega
      rw[i5,Nat.zero_mul]at R;rw[wde R]at hj;cases hj
     ·have a0:oo=l*i.size:=by rcases f5 with h|h;exact h;omega
      subst a0;have:=A.cells (g:=g) (by rw[hV];rfl) (l*i.size+j) u (by rw[wct (by omega),S,weq];exact hj);rw[Jj]at this;rw[Jj];simpa using this
    have e9:((m+m2:Nat):Int)<=9223372036854775807:=by simp only[maxLen]at e8;omega
    have b0:=run_append_grow (P:=P) w t o.type e i z B hi d3 ⟨g,oo,none⟩ m (y-l) vs R c7 bb m2 c f hl hc (by omega) e9 (growslice_fits (by omega) D);obtain⟨h8,h9⟩:=jd4 (w:=w) (base:=W.w.heap.size) (e:=e) d2 (old:=y-l) (by omega) R hl e8 hr.heap.below.size v0.ownBlock;exact fin 0 _ _ _ [] (G b0) (by rw[wdo,wei];exact h8) (by simp) h9 (λg' c2=> .inl (by cases c2;exact wcq _)) ⟨_,_,_,_,rfl,rfl,wem _,grownCap_ge w _ _ e,.inr ⟨_,0,rfl,rfl,.inl (by simp)⟩⟩ (λu B=>by cases B)
def quel(G:EG)(id:Nat):Option (TypeId×(t:Ty)×List t.D):=match (G id).b with
 |some (.row a t l)=>some (a,⟨t,l⟩)
 |some (.que a t l)=>some (a,⟨t,l⟩)
 |_=>none
theorem je6{id:Nat}{r:TypeId×(t:Ty)×List t.D}(h:quel G id=some r)(c:AgN H G id):∃a,H (.o id)=⟨(G id).ver,some a⟩/\(a=.row r.1 (wid r.2.1) r.2.2.length (r.2.2.flatMap (jq r.2.1))\/a=.que r.1 (wid r.2.1) r.2.2.length (r.2.2.flatMap (jq r.2.1))):=by
 unfold quel at h;rw[c.1];unfold v6;split at h<;>cases h
 ·rename_i b;rw[b];exact⟨_,rfl,.inl rfl⟩
 ·rename_i b;rw[b];exact⟨_,rfl,.inr rfl⟩
def sQsl(es:Option Nat)(G:EG)(x y:TS):Option SR:=match x with
 |.own id a=>match Nat.beq (G id).ver a with
  |true=>match quel G id with
   |some r=>match oeq es (some (wid r.2.1))with
    |true=>match zeu y with
     |some z=>some (.memO Nat (zxs r.2.2 z) (.own id (a+1)) id (λj=>⟨a+1,some (.que r.1 r.2.1 (r.2.2.drop j))⟩) [])
     |none=>none
    |false=>none
   |none=>none
  |false=>none
 |_=>none
theorem z02{t:Ty}:∀(l:List t.D)(j:Nat),(l.drop j).flatMap (jq t)=(l.flatMap (jq t)).drop (j*wid t)
 |l,0=>by simp
 |[],j+1=>by simp
 |x::l,j+1=>by
  rw[List.drop_succ_cons,z02 l j,wdd,wfw,wfr,<- List.drop_drop,we1 (qa t x)]
theorem jlr{t:TypeId}{x y:Operand}{q:SR}(g:o.op=.slice t x (some y) none none)(h:sQsl (esz P t) G (evE E x) (evE E y)=some q):SOk P o E G q:=by
 have i:x∈o.op.operands:=by rw[g];simp[Op.operands]
 have k:y∈o.op.operands:=by rw[g];simp[Op.operands]
 unfold sQsl at h;split at h<;>try (cases h;done)
 rename_i id ver u;split at h<;>try (cases h;done)
 rename_i s;cases qc s;split at h<;>try (cases h;done)
 rename_i r p;split at h<;>try (cases h;done)
 rename_i b;have b:=zhc b;split at h<;>cases h;rename_i z hz;obtain⟨w,f⟩:=Ye hz;refine SOk.memO λj e W n F H d a=>?_;unfold zxs at e;split at e<;>cases e;rename_i c;simp only[wcl,wcy]at c;obtain⟨v,l,m⟩:=je6 p (a.hn id (by simp));refine wbz (id :=.o id) (ver:=(G id).ver) g d b (by rw[a.ev i,u];simp only[TS.den]) l m (by rw[a.ev k,f]) c.1 (by omega) ⟨by simp only[TS.den],?_⟩;unfold v6;simp only[wc3,BD.den,wdw,z02]
def sQap(f:SE)(o:Oper)(G:EG)(s x:TS):Option SR:=match z6 o with
 |false=>none
 |true=>match f with
  |none=>none
  |some (e,k,b,_)=>match s with
   |.own id a=>match Nat.beq (G id).ver a with
    |true=>match (G id).b with
     |some (.que c ty l)=>match Nat.beq c e && (Nat.beq (wid ty) k && zda ty)with
      |true=>match z8x ty G x with
       |some r=>some (.memO (List ty.D) (apO b l r.1) (.own id (a+1)) id (λd=>⟨a+1,some (.que c ty d)⟩) r.2)
       |none=>none
      |false=>none
     |_=>none
    |false=>none
   |_=>none
theorem jn8{t:Nat}{s x:Operand}{q:SR}(u:o.op=.call { callee :=.builtin .append,args:=#[s,x],argTypes:=#[t,t] })(h:sQap (Jy P t) o G (evE E s) (evE E x)=some q):SOk P o E G q:=by
 have v:s∈o.op.operands:=by rw[u];simp[Op.operands,Call.operands]
 have y:x∈o.op.operands:=by rw[u];simp[Op.operands,Call.operands]
 unfold sQap at h;split at h
 ·cases h
 rename_i g;obtain⟨d,g⟩:=v8 g;split at h
 ·cases h
 rename_i e k b z w;split at h<;>try (cases h;done)
 rename_i id ver M;split at h<;>try (cases h;done)
 rename_i N;cases qc N;split at h<;>try (cases h;done)
 rename_i O ty l I;split at h<;>try (cases h;done)
 rename_i f;simp only[wcl]at f;have C:=wcj f.1;have D:=wcj f.2.1;subst C;subst D;split at h<;>cases h;rename_i r L;refine SOk.memO λQ p W n F H j a=>?_;obtain⟨A,B,rfl⟩:=za8 p;have c:=zj9 (H:=H) L rfl λi K=>a.h i (by simp[K]);refine wbq (id :=.o id) (ver:=(G id).ver) (m:=l.length) (m2:=r.1.length) (cs:=l.flatMap (jq ty)) (cs2:=r.1.flatMap (jq ty)) u g (j d g) w (by rw[a.ev v,M];simp only[TS.den]) (by rw[a.h id (by simp)];unfold v6;rw[I];rfl) (by rw[a.ev y];exact c) (zd5 f.2.2 _) A B ⟨by simp only[TS.den],?_⟩;simp only[v6,wc3,BD.den,wcu,wex]
end
def jnd(P:Program)(o:Oper)(E:EF)(G:EG):Option SK:=match o.op with
 |.slice t x (some y) none none=>match sQsl (esz P t) G (evE E x) (evE E y)with
  |some q=>some (q.k G)
  |none=>none
 |.call ⟨.builtin .append,⟨[s,x]⟩,⟨[t,a]⟩⟩=>match Nat.beq t a with
  |true=>match sQap (Jy P t) o G (evE E s) (evE E x)with
   |some q=>some (q.k G)
   |none=>none
  |false=>none
 |_=>none
theorem jc7{P:Program}{o:Oper}{E:EF}{G:EG}{r:SK}(h:jnd P o E G=some r):zxk P o E G r:=by
 unfold jnd at h;split at h
 ·rename_i t x y a;split at h<;>cases h;rename_i q b;exact(jlr a b).k
 ·rename_i s x t d a;split at h<;>try (cases h;done)
  rename_i c;cases qc c;split at h<;>cases h;rename_i q b;exact(jn8 a b).k
 ·cases h
section
variable{P:Program}{W:Env}{n:Nat}{o:Oper}{E:EF}{F:PFrame}{H:PHeap}{G:EG}
theorem zqt{kt t:Ty}{it kv i v:Nat}{es:List (kt.D×List t.D×Unit)}{h:Hole}:(BD.mrows kt it t es kv h).den i v=Qq (es.map λe=>oV kt e.1) (List.range es.length) es.length ((List.range es.length).map (h.cell i v)):=rfl
theorem zkh{id it kv:Nat}{kt t:Ty}{es:List (kt.D×List t.D×Unit)}{h:Hole}(d:AgN H G id)(a:(G id).b=some (.mrows kt it t es kv h)):
  H (.o id)=⟨(G id).ver,some (Qq (es.map λe=>oV kt e.1) (List.range es.length) es.length ((List.range es.length).map (h.cell id (G id).cv)))⟩/\(G id).cv=(G id).ver+kv/\(∀j,(H (.c id j)).ver=(G id).cv)/\∀j r,h.is j=false->(es.map λe=>e.2.1)[j]?=some r->H (.c id j)=⟨(G id).cv,some (.row it (wid t) r.length (r.flatMap (jq t)))⟩:=by
 refine⟨?_,by unfold GB.cv;rw[a];rfl,λj=>by rw[d.2];rfl,λj r g f=>?_⟩
 ·rw[d.1,<- zqt (it:=it) (kv:=kv)];unfold v6;rw[a];rfl
 ·rw[wcp]at f;obtain⟨e,i,rfl⟩:=wcs.1 f;rw[d.2];unfold zac;rw[a];simp[BD.ch,g,i]
theorem zen{b a:PHeap}{σ:Nm->Option Nm}{D:List Nat}{id it ver ver1 kv:Nat}{kt t:Ty}{es:List (kt.D×List t.D×Unit)}{h:Hole}{cs:List PV}
  (hout:∀k,¬Of (id::D) k->a k=b k/\σ k=some k) (d:∀k:Nm,k.rt=some id->a k=Qe ⟨ver,some (.mrows kt it t es kv h)⟩ k)
  (s:∀k,Of D k->((a k).body=none/\(b k).ver<=(a k).ver)\/((b k).ver<(a k).ver/\∃x p,σ k=some x/\Of (id::D) x/\(a k).body=some p/\(b x).body=some p/\∀c∈p.cs,NoP c))
  (q:b (.o id)=⟨ver1,some (Qq (es.map λe=>oV kt e.1) (List.range es.length) es.length cs)⟩) (i:ver1<=ver) (hσ:σ (.o id)=some (.o id)) (z:∀j,(b (.c id j)).ver<ver+kv) (g:cs.length=es.length)
  (y:∀j r,h.is j=false->(es.map λe=>e.2.1)[j]?=some r->(∃x v,cs[j]?=some (.ps x v)/\σ (.c id j)=some x/\Of (id::D) x/\b x=⟨v,some (.row it (wid t) r.length (r.flatMap (jq t)))⟩)\/(r=[]/\cs[j]?=some (.u (.slice none 0 0))/\σ (.c id j)=none))
  (f:∀k n x,Of (id::D) k->Of (id::D) n->(a k).body.isSome=true->(a n).body.isSome=true->σ k=some x->σ n=some x->k=n):Tell (id::D) b a σ:=by
 refine z1w (l:=es.map λe=>e.2.1) (bd1:=Qq (es.map λe=>oV kt e.1) (List.range es.length) es.length cs) (bd2:=(BD.mrows kt it t es kv h).den id (ver+kv)) hout (d (.o id) rfl) (λj=>?_) s q i hσ z (by simpa [Qq,PBody.cs]using g) (λw m v A h=>?_) (by rw[zqt];simp[Qq,PBody.cs]) y f
 ·rw[d _ rfl];simp only[Qe,zac,wdr,BD.ch,kidB,wcp,Option.map_map];congr 1
 ·rw[zqt];exact h
structure MR(kt:Ty)where
 id:Nat
 it:TypeId
 t:Ty
 es:List (kt.D×List t.D×Unit)
 kv:Nat
def jlp(G:EG)(kt:Ty):TS->Option (MR kt)
 |.own id d=>match Nat.beq (G id).ver d with
  |true=>match (G id).b with
   |some (.mrows c e t a kv none)=>match Dyn.as ⟨mty c t,a⟩ (mty kt t)with
    |some a=>some ⟨id,e,t,a,kv⟩
    |none=>none
   |_=>none
  |false=>none
 |_=>none
theorem z0k{kt:Ty}{x:TS}{r:MR kt}(h:jlp G kt x=some r):x=.own r.id (G r.id).ver/\(G r.id).b=some (.mrows kt r.it r.t r.es r.kv none):=by
 unfold jlp at h;split at h<;>try (cases h;done)
 split at h<;>try (cases h;done)
 rename_i e;split at h<;>try (cases h;done)
 rename_i c;split at h<;>cases h;rename_i d;have:=wag d;injection this with e1 a
 injection e1 with e1
 injection e1 with e1
 injection e1 with e1
 subst e1;have a:=eq_of_heq a;subst a;rw[qc e];exact⟨rfl,c⟩
def z8o{κ α:Type}(eqb:κ->κ->Bool)(k:κ)(es:List (κ×List α×Unit)):Option (Nat×List (κ×List α×Unit)):=match kIx eqb k (es.map λe=>e.1)with
 |some j=>some (j,es)
 |none=>some (es.length,es++[(k,[],())])
def nilZ(P:Program)(e:TypeId):Bool:=match (P.info? e).bind (·.zero)with
 |some z=>jd2 z
 |none=>false
theorem jny{e:TypeId}(h:nilZ P e=true):∀w,(zeroValue e).run P w=.ok (.slice none 0 0) w:=by
 unfold nilZ at h;split at h
 ·rename_i z hz;cases zut h;obtain⟨i,b,a⟩:=wdm.1 hz;intro w;unfold zeroValue;rw[Sem.run_bind,run_typeInfo w b];simp only[Result.andThen_ok,a];rfl
 ·cases h
def sMen(P:Program)(b:TypeId->Option KY)(t:TypeId)(G:EG)(x y:TS):Option SR:=match znl P t with
 |none=>none
 |some a=>match b a.1 with
  |none=>none
  |some q=>match jlp G q.kt x with
   |none=>none
   |some m=>match nilZ P a.2 with
    |false=>none
    |true=>match toT q.kt y with
     |none=>none
     |some k=>some ⟨Nat×List (q.kt.D×List m.t.D×Unit),false,z8o q.eqb k m.es,λy=> .tup [.kid m.id (y.1:Int) ((G m.id).cv+1),.v ⟨.int .i64,(y.1:Int)⟩],λy=>[(m.id,⟨(G m.id).ver,some (.mrows q.kt m.it m.t y.2 (m.kv+1) none)⟩)],[],[m.id],[]⟩
theorem jmg{ky:TypeId->Option KY}(a0:zz3 P ky){t:TypeId}{x y:Operand}{q:SR}(Y:o.op=.mapEntry t x y)(h:sMen P ky t G (evE E x) (evE E y)=some q):SPk P o E G q:=by
 have a3:x∈o.op.operands:=by rw[Y];simp[Op.operands]
 have a4:y∈o.op.operands:=by rw[Y];simp[Op.operands]
 unfold sMen at h;split at h<;>try (cases h;done)
 rename_i ke J;split at h<;>try (cases h;done)
 rename_i s hq;split at h<;>try (cases h;done)
 rename_i m hm;split at h<;>try (cases h;done)
 rename_i hz;split at h<;>cases h;rename_i k N;obtain⟨a2,hK⟩:=a0 _ _ hq;have hz:=jny hz;have ht:=zgw J;obtain⟨Q,R⟩:=z0k hm;obtain⟨id,it,ty,es,kv⟩:=m;simp only at Q R;refine⟨λ_=>rfl,λ(r:Nat×List (s.kt.D×List ty.D×Unit))(f:z8o s.eqb k es=some r)W n F H A z K=>?_⟩;have hn:=K.hn id (by simp);obtain⟨r1,r2,r3,r4⟩:=zkh hn R;have C:∀(Z:ZM)(V:Nm->Value)(w:World)(v:Value),Rp Z H V w (evP F y) v->v=oV s.kt k:=λZ V w v hv=>by
  rw[K.ev a4]at hv;exact zoe N a2 hv
 have U:evP F x=.ps (.o id) (G id).ver:=by rw[K.ev a3,Q];simp only[TS.den]
 have hH:H (.o id)=⟨(G id).ver,some (Qq ((es.map λe=>e.1).map (oV s.kt)) (List.range es.length) es.length ((List.range es.length).map (Hole.cell id (G id).cv none)))⟩:=by rw[r1,wd8];rfl
 show PE P W n o F H λX S=>X=(TS.tup [.kid id (r.1:Int) ((G id).cv+1),.v ⟨.int .i64,(r.1:Int)⟩]).den/\S=qz H [(id,⟨(G id).ver,some (.mrows s.kt it ty r.2 (kv+1) none)⟩)];have a:∀(k:Nm)(I:List (s.kt.D×List ty.D×Unit)),k.rt=some id->qz H [(id,⟨(G id).ver,some (.mrows s.kt it ty I (kv+1) none)⟩)] k=Qe ⟨(G id).ver,some (.mrows s.kt it ty I (kv+1) none)⟩ k:=λk I N=>y7 (by simp) (by simp) N;unfold z8o at f;split at f<;>cases f
 ·rename_i j T;have M:j<es.length:=by
   obtain⟨_,d,_⟩:=zar T;simpa using(wcg.1 d).1
  have O:PE P W n o F H λX S=>X=.tup [.ps (.c id j) (G id).cv,.u (.int .i64 (j:Nat))]/\S=H:=
   wau z (wbg hK Y ht hH U C T (by rw[Zo M];rfl) (by simp[M])) ⟨rfl,rfl⟩
  refine wak (ids:=[id]) (σ:=some) O A A.h z (zen (D:=[]) (ver:=(G id).ver) (ver1:=(G id).ver) (kv:=kv+1) (it:=it) (kt:=s.kt) (t:=ty) (es:=es) (h:=none) (cs:=(List.range es.length).map (Hole.cell id (G id).cv none)) (λk N=>⟨J0 λi L e=>N ⟨i,L,e⟩,rfl⟩) (λk N=>a k es N) (λk⟨i,L,_⟩=>by cases L) r1 (wcq _) rfl (λj=>by rw[r3,r2];omega) (by simp) (λj r T f=> .inl ⟨.c id j,(G id).cv,?_,rfl,⟨id,by simp,rfl⟩,r4 j r rfl f⟩) λk b x _ _ _ _ Q R=>by cases Q;cases R;rfl) ?_
  ·rw[Zo (by simpa using(wcg.1 f).1)];rfl
  ·simp only[TS.den,yo];refine .tup rfl λi p q d g=>?_
   match i,d,g with
   |0,d,g=>
    cases d;cases g;refine .nm rfl (λ_=>by rw[r4 j _ rfl (by rw[wcp,wcf M];rfl)];exact⟨rfl,rfl⟩) ?_;rw[a _ _ rfl];show(G id).cv+1<=(G id).ver+(kv+1);omega
   |1,d,g=>cases d;cases g;exact .keep (.noP (.u _))
 ·rename_i T;have O:PE P W n o F H λX S=>X=.tup [.u (.slice none 0 0),.u (.int .i64 (es.length:Nat))]/\S=H.set (.o id) ⟨(G id).ver,some (Qq ((es.map (λe=>e.1)++[k]).map (oV s.kt)) (List.range es.length++[es.length]) (es.length+1) ((List.range es.length).map (Hole.cell id (G id).cv none)++[.u (.slice none 0 0)]))⟩:=
   wbc hK Y z ht hz hH U C T ⟨rfl,rfl⟩
  have hs:∀{b x:Nm},(if b=.c id es.length then none else some b)=some x->x=b:=λ{b x}h=>by
   split at h<;>cases h;rfl
  refine wak (ids:=[id]) (σ:=λb=>if b=.c id es.length then none else some b) O A (λb=>?_) z (zen (D:=[]) (ver:=(G id).ver) (ver1:=(G id).ver) (kv:=kv+1) (it:=it) (kt:=s.kt) (t:=ty) (es:=es++[(k,[],())]) (h:=none) (cs:=(List.range es.length).map (Hole.cell id (G id).cv none)++[.u (.slice none 0 0)]) (λb l=>?_) (λb l=>a b _ l) (λk⟨i,L,_⟩=>by cases L) ?_ (wcq _) (by rw[if_neg (by simp)]) (λj=>by rw[zk (by simp),r3,r2];omega) (by simp) (λj r _ f=>?_) λk b x _ _ _ _ Q R=>by rw[<- hs Q,<- hs R]) ?_
  ·unfold PHeap.set;split
   ·intro bd hb c hc;cases hb;rcases wco.1 (show c∈(List.range es.length).map (Hole.cell id (G id).cv none)++[.u (.slice none 0 0)]from hc)with h|h
    ·exact zn5 _ h
    ·simp only[wci]at h;subst h;exact .noP (.u _)
   ·exact A.h b
  ·rw[zk λe=>l ⟨id,by simp,by rw[e];rfl⟩,if_neg λe=>l ⟨id,by simp,by rw[e];rfl⟩];exact⟨J0 λi L e=>l ⟨i,L,e⟩,rfl⟩
  ·unfold PHeap.set;rw[if_pos rfl];simp[List.range_succ,Function.comp_def]
  ·rcases Nat.lt_or_ge j es.length with B|B
   ·rw[wdb,wcr (by simpa using B)]at f;refine .inl ⟨.c id j,(G id).cv,?_,by rw[if_neg (by simp;omega)],⟨id,by simp,rfl⟩,by rw[zk (by simp)];exact r4 j r rfl f⟩;rw[wcr (by simpa using B),Zo B];rfl
   ·have a1:=(wcg.1 f).1;simp at a1;have:j=es.length:=by omega
    subst this;simp at f;exact .inr ⟨f,by simp,by rw[if_pos rfl]⟩
  ·simp only[TS.den,yo];refine .tup rfl λi p q d g=>?_
   match i,d,g with
   |0,d,g=>
    cases d;cases g;refine .nil (by simp) ?_;rw[a _ _ rfl];show(G id).cv+1<=(G id).ver+(kv+1);omega
   |1,d,g=>cases d;cases g;exact .keep (.noP (.u _))
def z0a{κ α:Type}(es:List (κ×List α×Unit))(p:Nat)(z:Int)(r:List α):Option (List (κ×List α×Unit)):=match decide (z=(p:Int))with
 |true=>match es[p]? with
  |some e=>some (es.set p (e.1,r,()))
  |none=>none
 |false=>none
theorem jfc{κ α:Type}{es es':List (κ×List α×Unit)}{p:Nat}{z:Int}{r:List α}(h:z0a es p z r=some es'):z=(p:Int)/\∃e,es[p]?=some e/\es'=es.set p (e.1,r,()):=by
 unfold z0a at h;split at h<;>try (cases h;done)
 rename_i hz;split at h<;>cases h;rename_i e a;exact⟨wcd hz,e,a,rfl⟩
def sMes(G:EG)(x s y:TS):Option SR:=match x with
 |.own id c=>match Nat.beq (G id).ver c with
  |true=>match (G id).b with
   |some (.mrows e d t f kv (some p))=>match zqj G d t y with
    |some r=>match s with
     |.v ⟨.int .i64,z⟩=>match Nat.beq r.1 id with
      |false=>some ⟨List (e.D×List t.D×Unit),false,z0a f p z r.2,λ_=>UND,λa=>[(id,⟨(G id).ver,some (.mrows e d t a (kv+1) none)⟩),(r.1,⟨(G r.1).cv+1,none⟩)],[],[id,r.1],[]⟩
      |true=>none
     |_=>none
    |none=>none
   |_=>none
  |false=>none
 |_=>none
theorem z3l{α β:Type}{f:α->β}{l:List α}{p:Nat}{e e':α}(h:l[p]?=some e)(a:f e'=f e):(l.set p e').map f=l.map f:=by
 apply wee;intro i;rw[wcp,wcp,wc8];split
 ·rename_i b;subst b;rw[h,if_pos (wcg.1 h).1];simp[a]
 ·rfl
theorem jlk{t:TypeId}{x s y:Operand}{q:SR}(O:o.op=.entryStore t x s y)(h:sMes G (evE E x) (evE E s) (evE E y)=some q):SPk P o E G q:=by
 have J:x∈o.op.operands:=by rw[O];simp[Op.operands]
 have Z:s∈o.op.operands:=by rw[O];simp[Op.operands]
 have a0:y∈o.op.operands:=by rw[O];simp[Op.operands]
 unfold sMes at h;split at h<;>try (cases h;done)
 rename_i id ver hx;split at h<;>try (cases h;done)
 rename_i hv;cases qc hv;split at h<;>try (cases h;done)
 rename_i kt it ty es kv p hb;split at h<;>try (cases h;done)
 rename_i r hr;obtain⟨c,r⟩:=r;obtain⟨hy,U⟩:=zfe hr;split at h<;>try (cases h;done)
 rename_i z hz;split at h<;>cases h;rename_i m;have m:c≠id:=λe=>by subst e;simp at m
 refine⟨λ_=>rfl,λ(R:List (kt.D×List ty.D×Unit))(V:z0a es p z r=some R)W n F H I C l=>?_⟩;obtain⟨rfl,e,he,rfl⟩:=jfc V;have u:=(wcg.1 he).1;have hn:=l.hn id (by simp);have v:=l.hn c (by simp);obtain⟨r1,r2,r3,r4⟩:=zkh hn hb;have ro:=z9g v U;have a1:evP F y=.ps (.o c) (G c).ver:=by rw[l.ev a0,hy];simp only[TS.den]
 have a2:PE P W n o F H λp' Q=>p'=UND.den/\Q=H.set (.o id) ⟨(G id).ver,some (Qq (es.map λe=>oV kt e.1) (List.range es.length) es.length (((List.range es.length).map (Hole.cell id (G id).cv (some p))).set p (.ps (.o c) (G c).ver)))⟩:=
  PE.entryStore (j:=p) (b:=p) O C r1 (by rw[l.ev J,hx];simp only[TS.den]) (by rw[l.ev Z,hz];simp only[TS.den];rfl) (by simp[u]) a1 ⟨by rw[und_den],rfl⟩
 have K:(([(id,(⟨(G id).ver,some (.mrows kt it ty (es.set p (e.1,r,())) (kv+1) none)⟩:GB)),(c,⟨(G c).cv+1,none⟩)]:List (Nat×GB)).map Prod.fst).Nodup:=by simp[Ne.symm m]
 have B:∀k:Nm,k.rt=some c->qz H [(id,⟨(G id).ver,some (.mrows kt it ty (es.set p (e.1,r,())) (kv+1) none)⟩),(c,⟨(G c).cv+1,none⟩)] k=Qe ⟨(G c).cv+1,none⟩ k:=λk g=>y7 K (by simp) g;show PE P W n o F H λp' Q=>p'=UND.den/\Q=qz H [(id,⟨(G id).ver,some (.mrows kt it ty (es.set p (e.1,r,())) (kv+1) none)⟩),(c,⟨(G c).cv+1,none⟩)];refine wak (ids:=[id,c]) (σ:=λk=>if k=.c id p then some (.o c)else some k) a2 I (λk'=>?_) C (zen (D:=[c]) (ver:=(G id).ver) (ver1:=(G id).ver) (kv:=kv+1) (it:=it) (kt:=kt) (t:=ty) (es:=es.set p (e.1,r,())) (h:=none) (cs:=((List.range es.length).map (Hole.cell id (G id).cv (some p))).set p (.ps (.o c) (G c).ver)) (λk g=>?_) (λk g=>y7 K (by simp) g) (λk g=> .inl ?_) ?_ (wcq _) (by simp) (λj=>by rw[zk (by simp),r3,r2];omega) (by simp) (λj r' _ d=> .inl ?_) λk k' x g b0 X Y M w=>?_) (.keep (zbp _))
 ·unfold PHeap.set;split
  ·intro bd S c2 T;cases S;rcases wd9 (show c2∈((List.range es.length).map (Hole.cell id (G id).cv (some p))).set p (.ps (.o c) (G c).ver)from T)with h|h
   ·exact zn5 _ h
   ·subst h;exact .ps trivial
  ·exact I.h k'
 ·rw[zk λe=>g ⟨id,by simp,by rw[e];rfl⟩,if_neg λe=>g ⟨id,by simp,by rw[e];rfl⟩];exact⟨J0 λi N e=>g ⟨i,N,e⟩,rfl⟩
 ·obtain⟨i,N,e⟩:=g;simp only[wci]at N;subst N;rw[zk λw=>by rw[w]at e;cases e;exact m rfl];exact zpw v B e
 ·unfold PHeap.set;rw[if_pos rfl,z3l (f:=λe:kt.D×List ty.D×Unit=>oV kt e.1) (e':=(e.1,r,())) he rfl,web]
 ·by_cases A:j=p
  ·subst A;rw[wcp,wel u]at d;cases d;refine⟨.o c,_,by rw[wel (by simpa using u)],by rw[if_pos rfl],⟨c,by simp,rfl⟩,?_⟩;rw[zk (by simp[m]),ro]
  ·rw[wcp,wec (Ne.symm A)]at d;have d:(es.map λe=>e.2.1)[j]?=some r':=by rw[wcp];exact d
   have hh:Hole.is (some p) j=false:=by
    simp only[Hole.is];cases h:Nat.beq j p
    ·rfl
    ·exact absurd (qc h) A
   refine⟨.c id j,(G id).cv,?_,by rw[if_neg (by simp[A])],⟨id,by simp,rfl⟩,?_⟩
   ·rw[wec (Ne.symm A),Zo (by simpa using(wcg.1 d).1)];unfold Hole.cell;rw[hh]
   ·rw[zk (by simp)];exact r4 j r' hh d
 ·have L:∀{k:Nm},(qz H [(id,⟨(G id).ver,some (.mrows kt it ty (es.set p (e.1,r,())) (kv+1) none)⟩),(c,⟨(G c).cv+1,none⟩)] k).body.isSome=true->k ≠ .o c:=λ{k}g e=>by
   subst e;rw[(zpw v B (k :=.o c) rfl).1]at g;cases g
  split at M<;>split at w
  ·rename_i a b;rw[a,b]
  ·cases M;cases w;exact absurd rfl (L Y)
  ·cases M;cases w;exact absurd rfl (L X)
  ·cases M;cases w;rfl
def sMmk(fl:Option (Ty×TypeId×Ty))(o:Oper)(G:EG)(a:Nat):Option SR:=match fl with
 |none=>none
 |some (c,b,t)=>match z6 o with
  |true=>some ⟨Unit,true,some (),λ_=> .own a (nv G a),λ_=>[(a,⟨nv G a,some (.mrows c b t [] (kv0 G a) none)⟩)],[],[a],[]⟩
  |false=>none
theorem jlh{fl:Option (Ty×TypeId×Ty)}{t:TypeId}{d:Nat}{q:SR}(X:o.op=.makeMap t none)(h:sMmk fl o G d=some q):SPk P o E G q:=by
 unfold sMmk at h;split at h<;>try (cases h;done)
 rename_i kt it ty;split at h<;>cases h;rename_i B;obtain⟨J,T⟩:=v8 B;refine⟨λ_=>rfl,λ_ _ W n F H s m z=>?_⟩;have L:=z.hn d (by simp);have f:(H (.o d)).ver+1=nv G d:=by rw[L.1];rfl
 have K:PE P W n o F H λZ N=>Z=(TS.own d (nv G d)).den/\N=H.set (.o d) ⟨nv G d,some (Qq [] [] 0 [])⟩:=λV a w u=>by
  have C:(execOp a.eval o).run P w=.ok (.value (.map (some w.heap.size))) (w.alloc (.map #[] 0)):=by
   simp only[execOp,X];rfl
  refine yv C ⟨.ps (.o d) (nv G d),H.set (.o d) ⟨(H (.o d)).ver+1,some (Qq [] [] 0 [])⟩,yq V (.o d) (.map (some w.heap.size)),⟨by simp only[TS.den],by rw[f]⟩,?_⟩;have l:Below w.heap.size w (w.alloc (.map #[] 0)):=(Below.refl _ _).alloc (wcq _) _;refine u.turn (wal u.heap l rfl λg U=>by cases U;exact wcq _) (λO A=>?_) o.dst (λt Y=>by exact m t Y) ?_
  ·cases A;exact⟨w.heap.size,_,[],rfl,u.heap.below.size,heap_alloc_new w _,⟨#[],rfl,rfl,rfl,rfl,List.nodup_nil,λb l=>by cases l⟩,rfl,λi p v h=>by simp at h⟩
  ·refine .ps _ _ _ ?_ λ_ _=>?_
   ·simp[PHeap.set,f]
   ·simp[yq]
 refine wak (ids:=[d]) (σ:=some) K s (λM=>?_) m (zen (D:=[]) (ver:=nv G d) (ver1:=nv G d) (kv:=kv0 G d) (it:=it) (kt:=kt) (t:=ty) (es:=[]) (h:=none) (cs:=[]) (λk y=>?_) (λk y=>y7 (by simp) (by simp) y) (λk⟨i,I,_⟩=>by cases I) (by unfold PHeap.set;rw[if_pos rfl];rfl) (wcq _) rfl (λj=>?_) rfl (λj r _ u=>by simp at u) λk M x _ _ _ _ Q R=>by cases Q;cases R;rfl) (.keep (zbp _))
 ·unfold PHeap.set;split
  ·intro O l c S;cases l;cases S
  ·exact s.h M
 ·rw[zk λe=>y ⟨d,by simp,by rw[e];rfl⟩];exact⟨J0 λi I e=>y ⟨i,I,e⟩,rfl⟩
 ·rw[zk (by simp),L.2];have:=(G d).ver_le;simp only[zac,nv,kv0];omega
def sMka(h:SE)(o:Oper)(G:EG)(a:Nat)(s x:TS):Option SR:=match z6 o with
 |false=>none
 |true=>match h with
  |none=>none
  |some (e,k,b,_)=>match s with
   |.kid id p v=>match Nat.beq (G id).cv v && !(Nat.beq a id)with
    |true=>match (G id).b with
     |some (.mrows f c t d kv none)=>match Nat.beq c e && (Nat.beq (wid t) k && zda t)with
      |true=>match z8x t G x with
       |some r=>some ⟨List t.D,false,kapO b (Kids.at ⟨t,c,d.map λe=>e.2.1,none⟩ p) r.1,λ_=> .own a ((G a).cv+1),λg=>[(id,⟨(G id).ver,some (.mrows f c t d (kv+2) (some p.toNat))⟩),(a,⟨(G a).cv+1,some (.row c t g)⟩)],r.2,[id,a],[]⟩
       |none=>none
      |false=>none
     |_=>none
    |false=>none
   |_=>none
theorem jor{t:Nat}{s x:Operand}{f:Nat}{q:SR}(J:o.op=.call { callee :=.builtin .append,args:=#[s,x],argTypes:=#[t,t] })(h:sMka (Jy P t) o G f (evE E s) (evE E x)=some q):SPk P o E G q:=by
 have a1:s∈o.op.operands:=by rw[J];simp[Op.operands,Call.operands]
 have a4:x∈o.op.operands:=by rw[J];simp[Op.operands,Call.operands]
 unfold sMka at h;split at h
 ·cases h
 rename_i U;obtain⟨d,U⟩:=v8 U;split at h
 ·cases h
 rename_i e k b z a2;split at h<;>try (cases h;done)
 rename_i id p v hs;split at h<;>try (cases h;done)
 rename_i hv;simp only[wcl,weg]at hv;cases qc hv.1;have B:f≠id:=λe=>by subst e;simp at hv
 split at h<;>try (cases h;done)
 rename_i kt it ty es kv hb;split at h<;>try (cases h;done)
 rename_i I;simp only[wcl]at I;have C:=wcj I.1;have y:=wcj I.2.1;subst C;subst y;split at h<;>cases h;rename_i w hr;refine⟨λ_=>rfl,λl' A W n F H O N l=>?_⟩;obtain⟨r,a0,A⟩:=yb A;obtain⟨b1,b2,rfl⟩:=za8 A;have hn:=l.hn id (by simp);have Z:=l.hn f (by simp);obtain⟨r1,r2,r3,r4⟩:=zkh hn hb;have u:=zgi (H:=H) (k:=⟨ty,it,es.map λe=>e.2.1,none⟩) (id:=id) (v:=(G id).cv) (by unfold zjw;rw[wev,hb];rfl) a0 hn;simp only at u;have T:=zj9 (H:=H) hr rfl λi K=>l.h i (by simp[K]);have a5:PE P W n o F H λp' V=>p'=.ps (.c id p.toNat) ((G id).cv+1)/\V=H.set (.c id p.toNat) ⟨(G id).cv+1,some (.row it (wid ty) (r.length+w.1.length) (r.flatMap (jq ty)++w.1.flatMap (jq ty)))⟩:=
  PE.append (id :=.c id p.toNat) (ver:=(G id).cv) (m:=r.length) (m2:=w.1.length) (cs:=r.flatMap (jq ty)) (cs2:=w.1.flatMap (jq ty)) J U (N d U) a2 (by rw[l.ev a1,hs];simp only[TS.den]) (by unfold Jf;rw[u];simp) (by rw[l.ev a4];exact T) (zd5 I.2.2 _) b1 b2 ⟨rfl,rfl⟩
 have Q:(([(id,(⟨(G id).ver,some (.mrows kt it ty es (kv+2) (some p.toNat))⟩:GB)),(f,⟨(G f).cv+1,some (.row it ty (r++w.1))⟩)]:List (Nat×GB)).map Prod.fst).Nodup:=by simp[Ne.symm B]
 have M:∀k:Nm,k.rt=some f->qz H [(id,⟨(G id).ver,some (.mrows kt it ty es (kv+2) (some p.toNat))⟩),(f,⟨(G f).cv+1,some (.row it ty (r++w.1))⟩)] k=Qe ⟨(G f).cv+1,some (.row it ty (r++w.1))⟩ k:=λk g=>y7 Q (by simp) g;have L:∀k:Nm,k.rt=some id->qz H [(id,⟨(G id).ver,some (.mrows kt it ty es (kv+2) (some p.toNat))⟩),(f,⟨(G f).cv+1,some (.row it ty (r++w.1))⟩)] k=Qe ⟨(G id).ver,some (.mrows kt it ty es (kv+2) (some p.toNat))⟩ k:=λk g=>y7 Q (by simp) g;show PE P W n o F H λp' V=>p'=(TS.own f ((G f).cv+1)).den/\V=qz H [(id,⟨(G id).ver,some (.mrows kt it ty es (kv+2) (some p.toNat))⟩),(f,⟨(G f).cv+1,some (.row it ty (r++w.1))⟩)];refine wak (ids:=[id,f]) (σ:=λk=>if k=.o f then some (.c id p.toNat)else some k) a5 O (zhz O.h λx hx=>?_) N (zen (id:=id) (D:=[f]) (ver:=(G id).ver) (ver1:=(G id).ver) (kv:=kv+2) (it:=it) (kt:=kt) (t:=ty) (es:=es) (h:=some p.toNat) (cs:=(List.range es.length).map (Hole.cell id (G id).cv none)) (λk g=>?_) L (λk g=>?_) (by rw[zk (by simp)];exact r1) (wcq _) (by rw[if_neg (by simp[Ne.symm B])]) (λj=>?_) (by simp) (λj r' hj S=> .inl ?_) λk k' x g b4 X Y C y=>?_) ?_
 ·rcases wco.1 hx with h|h<;>exact .noP (zjr _ h)
 ·rw[zk λe=>g ⟨id,by simp,by rw[e];rfl⟩,if_neg λe=>g ⟨f,by simp,by rw[e];rfl⟩];exact⟨J0 λi K e=>g ⟨i,K,e⟩,rfl⟩
 ·obtain⟨i,K,e⟩:=g;simp only[wci]at K;subst K;rw[zk λy=>by rw[y]at e;cases e;exact B rfl,M k e,Z.at e];cases k with
  |r _=>cases e
  |c i j=>cases e;exact .inl ⟨rfl,Nat.le_succ _⟩
  |o i=>
   cases e;refine .inr ⟨Nat.lt_succ_of_le (GB.ver_le _),.c id p.toNat,_,by rw[if_pos rfl],⟨id,by simp,rfl⟩,rfl,?_,λc I=>zjr c I⟩;unfold PHeap.set;rw[if_pos rfl];simp[BD.den]
 ·by_cases e:j=p.toNat
  ·subst e;unfold PHeap.set;rw[if_pos rfl];simp only;omega
  ·rw[zk (by simp[e]),r3];omega
 ·have e:j≠p.toNat:=λe=>by subst e;simp[Hole.is]at hj
  refine⟨.c id j,(G id).cv,?_,by rw[if_neg (by simp)],⟨id,by simp,rfl⟩,?_⟩
  ·rw[Zo (by simpa using(wcg.1 S).1)];rfl
  ·rw[zk (by simp[e])];exact r4 j r' rfl S
 ·have R:∀{k:Nm},(qz H [(id,⟨(G id).ver,some (.mrows kt it ty es (kv+2) (some p.toNat))⟩),(f,⟨(G f).cv+1,some (.row it ty (r++w.1))⟩)] k).body.isSome=true->k ≠ .c id p.toNat:=λ{k}g e=>by
   subst e;rw[L _ rfl]at g;simp[Qe,zac,BD.ch,Hole.is]at g
  split at C<;>split at y
  ·rename_i a b;rw[a,b]
  ·cases C;cases y;exact absurd rfl (R Y)
  ·cases C;cases y;exact absurd rfl (R X)
  ·cases C;cases y;rfl
 ·simp only[TS.den];refine .nm (if_pos rfl) (λ_=>?_) (by rw[M _ rfl];exact wcq _);unfold PHeap.set;rw[if_pos rfl];exact⟨rfl,rfl⟩
def jch(G:EG):TS->Option (Nat×MS)
 |.own id a=>match Nat.beq (G id).ver a with
  |true=>match (G id).b with
   |some (.mrows c e t d kv none)=>match plT c with
    |true=>some (id,⟨0,0,id,a,c,e,t,d,kv,[]⟩)
    |false=>none
   |_=>none
  |false=>none
 |_=>none
theorem zxv{x:TS}{id:Nat}{m:MS}(h:jch G x=some (id,m)):x=.own id m.mver/\G id=⟨m.mver,some (.mrows m.kt m.lt m.t m.es m.kv none)⟩/\plT m.kt=true:=by
 unfold jch at h;split at h<;>try (cases h;done)
 split at h<;>try (cases h;done)
 rename_i b;split at h<;>try (cases h;done)
 rename_i a;split at h<;>cases h;exact⟨rfl,by rw[<- a,<- qc b],by assumption⟩
def sMrg(P:Program)(t:TypeId)(o:Oper)(a:Nat)(G:EG)(x:TS):Option SR:=match znl P t with
 |none=>none
 |some _=>match z6 o with
  |false=>none
  |true=>match jch G x with
   |none=>none
   |some (id,m)=>match Nat.beq id a with
    |true=>none
    |false=>some (.mem (.own a (nv G a)) a ⟨nv G a,some (.iter id m.mver (List.replicate m.es.length false) none)⟩ [id])
theorem jlc{t:TypeId}{c:Nat}{x:Operand}{q:SR}(l:o.op=.range t x)(h:sMrg P t o c G (evE E x)=some q):SOk P o E G q:=by
 have k:x∈o.op.operands:=by rw[l];simp[Op.operands]
 unfold sMrg at h;split at h<;>try (cases h;done)
 rename_i w i;split at h<;>try (cases h;done)
 rename_i g;split at h<;>try (cases h;done)
 rename_i id m u;split at h<;>cases h;rename_i j;obtain⟨s,d,_⟩:=zxv u;obtain⟨p,b⟩:=v8 g;refine SOk.mem λW n F H f a=>?_;obtain⟨v,_,_,_⟩:=zkh (a.hn id (by simp)) (by rw[d]);refine wb0 (id :=.o id) (r :=.o c) l b (f p b) (zgw i) (λe=>by cases e;simp at j) v (by rw[a.ev k,s,d];simp only[TS.den]) ?_;rw[zrz a];exact⟨by simp only[TS.den],by rw[d];rfl⟩
def zx2{α:Type}(a:List Bool)(es:List α)(j:Nat):Option α:=match Nat.beq a.length es.length with
 |true=>zpz es j
 |false=>none
def sMnt(G:EG)(x:TS):Option SR:=match x with
 |.own f g=>match Nat.beq (G f).ver g with
  |true=>match (G f).b with
   |some (.iter a d c (some j))=>match jch G (.own a d)with
    |some (_,m)=>some (.dat (m.kt.D×List m.t.D×Unit) (zx2 c m.es j) (λe=> .tup [.v ⟨m.kt,e.1⟩,.kid a (j:Int) (m.mver+m.kv)]) [f,a])
    |none=>none
   |_=>none
  |false=>none
 |_=>none
theorem jl5{x:Operand}{q:SR}(p:o.op=.entry x)(h:sMnt G (evE E x)=some q):SOk P o E G q:=by
 have i:x∈o.op.operands:=by rw[p];simp[Op.operands]
 unfold sMnt at h;split at h<;>try (cases h;done)
 rename_i k l B;split at h<;>try (cases h;done)
 rename_i A;split at h<;>try (cases h;done)
 rename_i b s f j w;split at h<;>cases h;rename_i id m y;obtain⟨u,n,v⟩:=zxv y;cases u;refine SOk.dat λe c W F H a=>?_;unfold zx2 at c;split at c<;>try (cases c;done)
 rename_i g;have g:=qc g;have d:j<m.es.length:=(wcg.1 c).1;obtain⟨t,_,_,_⟩:=zkh (a.hn b (by simp)) (by rw[n]);have z:H (.o k)=⟨l,some (itB (.o b) m.mver f (some j))⟩:=by
  rw[a.h k (by simp)];unfold v6;rw[w,qc A];rfl
 rw[n]at t;have:=wby (P:=P) (W:=W) (F:=F) (id :=.o b) (r :=.o k) (j:=j) p t z g (by rw[a.ev i,B];simp only[TS.den]) d (by rw[Zo d]) (by rw[wcp];rw[show m.es[j]?=some e from c];rfl);simp only[TS.den,yo,zx5 _ _ v];exact this
def sMlk(P:Program)(b:TypeId->Option KY)(t:TypeId)(G:EG)(x y:TS):Option SR:=match znl P t with
 |none=>none
 |some a=>match b a.1 with
  |none=>none
  |some q=>match jlp G q.kt x with
   |none=>none
   |some m=>match toT q.kt y with
    |none=>none
    |some k=>some (.dat Nat (kIx q.eqb k (m.es.map λe=>e.1)) (λj=> .kid m.id (j:Int) (G m.id).cv) [m.id])
theorem jmm{r:TypeId->Option KY}(d:zz3 P r){t:TypeId}{x y:Operand}{q:SR}(f:o.op=.lookup t x y false)(h:sMlk P r t G (evE E x) (evE E y)=some q):SOk P o E G q:=by
 have i:x∈o.op.operands:=by rw[f];simp[Op.operands]
 have l:y∈o.op.operands:=by rw[f];simp[Op.operands]
 unfold sMlk at h;split at h<;>try (cases h;done)
 rename_i M c;split at h<;>try (cases h;done)
 rename_i K I;split at h<;>try (cases h;done)
 rename_i m D;split at h<;>cases h;rename_i k C;obtain⟨g,B⟩:=d _ _ I;obtain⟨s,u⟩:=z0k D;refine SOk.dat λj n W F H a=>?_;obtain⟨L,_,_,_⟩:=zkh (a.hn m.id (by simp)) u;have b:j<m.es.length:=by
  obtain⟨_,z,_⟩:=zar n;simpa using(wcg.1 z).1
 have A:H (.o m.id)=⟨(G m.id).ver,some (Qq ((m.es.map λe=>e.1).map (oV K.kt)) (List.range m.es.length) m.es.length ((List.range m.es.length).map (Hole.cell m.id (G m.id).cv none)))⟩:=by rw[L,wd8];rfl
 have:=wbx (P:=P) (W:=W) (F:=F) (id :=.o m.id) B f (zgw c) A (by rw[a.ev i,s];simp only[TS.den]) (k:=k) (λZ V w v p=>by rw[a.ev l]at p;exact zoe C g p) n (by rw[Zo b]);simp only[TS.den];exact this
end
def z49(P:Program)(b:TypeId->Option KY)(fl:Option (Ty×TypeId×Ty))(a:Nat)(o:Oper)(E:EF)(G:EG):Option SK:=match o.op with
 |.makeMap t none=>match sMmk fl o G a with
  |some q=>some q.kP
  |none=>none
 |.mapEntry t x y=>match sMen P b t G (evE E x) (evE E y)with
  |some q=>some q.kP
  |none=>none
 |.entryStore t x s y=>match sMes G (evE E x) (evE E s) (evE E y)with
  |some q=>some q.kP
  |none=>none
 |.call ⟨.builtin .append,⟨[s,x]⟩,⟨[t,c]⟩⟩=>match Nat.beq t c with
  |true=>match sMka (Jy P t) o G a (evE E s) (evE E x)with
   |some q=>some q.kP
   |none=>none
  |false=>none
 |.range t x=>match sMrg P t o a G (evE E x)with
  |some q=>some (q.k G)
  |none=>none
 |.entry x=>match sMnt G (evE E x)with
  |some q=>some (q.k G)
  |none=>none
 |.lookup t x y false=>match sMlk P b t G (evE E x) (evE E y)with
  |some q=>some (q.k G)
  |none=>none
 |_=>none
theorem z2f{P:Program}{e:TypeId->Option KY}(c:zz3 P e){fl:Option (Ty×TypeId×Ty)}{d:Nat}{o:Oper}{E:EF}{G:EG}{r:SK}(h:z49 P e fl d o E G=some r):zxk P o E G r:=by
 unfold z49 at h;split at h
 ·rename_i a;split at h<;>cases h;rename_i q b;exact(jlh a b).k
 ·rename_i a;split at h<;>cases h;rename_i q b;exact(jmg c a b).k
 ·rename_i a;split at h<;>cases h;rename_i q b;exact(jlk a b).k
 ·rename_i s x t g a;split at h<;>try (cases h;done)
  rename_i f;cases qc f;split at h<;>cases h;rename_i q b;exact(jor a b).k
 ·rename_i a;split at h<;>cases h;rename_i q b;exact(jlc a b).k
 ·rename_i a;split at h<;>cases h;rename_i q b;exact(jl5 a b).k
 ·rename_i a;split at h<;>cases h;rename_i q b;exact(jmm c a b).k
 ·cases h
def stR(P:Program)(c:TypeId->Option KY)(lk:Option LK)(q:Option SR)(a:Nat)(o:Oper)(E:EF)(G:EG):Option SK:=match lk with
 |some (.rows b t)=>jc8 P (some (b,t)) a o E G
 |some .que=>jnd P o E G
 |some (.mrows d b t)=>z49 P c (some (d,b,t)) a o E G
 |_=>match stK P q a o E G with
  |some r=>some r
  |none=>match jnd P o E G with
   |some r=>some r
   |none=>match jc8 P none a o E G with
    |some r=>some r
    |none=>z49 P c none a o E G
theorem jgy{P:Program}{d:TypeId->Option KY}(a:zz3 P d){lk:Option LK}{q:Option SR}{c:Nat}{o:Oper}{E:EF}{G:EG}(e:∀x,q=some x->SOk P o E G x){r:SK}(h:stR P d lk q c o E G=some r):zxk P o E G r:=by
 unfold stR at h;split at h
 ·exact z5t h
 ·exact jc7 h
 ·exact z2f a h
 ·split at h
  ·rename_i b;cases h;exact stK_ok e b
  ·split at h
   ·rename_i b;cases h;exact jc7 b
   ·split at h
    ·rename_i b;cases h;exact z5t b
    ·exact z2f a h
structure RE where
 f:FuncId
 n:Nat
 rs:List ResultVar
 b:Nat
 un:List Nat
 hin:LH
 hout:LH
 g:DL hin.tys->Option (DL hout.tys)
def zoo(P:Program)(x:RE):Prop:=∃fn c,P.funcs[x.f]?=some fn/\fn.body=some c/\fn.ntmps=x.n/\fn.results.toList=x.rs/\V9 P x.f=true/\∀t r,x.g t=some r ->
 ∃a,(a=.normal\/a=.ret)/\OutC P x.b x.n c (unE x.hin (zu _ t)) (unG x.hin (zu _ t)) a (unE x.hout (zu _ r)) (unG x.hout (zu _ r))
def jm1(P:Program)(x:RE)(e:Call)(d:Nat)(E:EF)(G:EG):Option SK:=match z2z E e with
 |none=>none
 |some (f,c)=>match Nat.beq f x.f && Nat.ble c.length x.n with
  |false=>none
  |true=>match zro G 1000 (zcb G (zil c)) []with
   |none=>none
   |some a=>match zru x.un true a 0 with
    |L0=>match L0++zru x.un false a 0 with
     |L=>match zi8 L && Nat.beq L0.length x.b with
      |false=>none
      |true=>some ⟨λk=>meet x.b x.hin (λt=>ja (x.g t) λr=>inlX P ⟨x.f,x.n,x.rs,.skip,λ_=>none,0,x.un⟩ L x.b d G k .ret 0 (unE x.hout (zu _ r)) (unG x.hout (zu _ r))) (jgs (V6 (mu1 L L.length G) c)) (inG L G)⟩
theorem jci{P:Program}{x:RE}(hx:zoo P x){o:Oper}{O:Call}(R:o.op=.call O){u:Nat}{E:EF}{G:EG}{q:SK}(h:jm1 P x O u E G=some q):zxk P o E G q:=by
 obtain⟨fn,c,J,Y,Q,hr,hg,U⟩:=hx;unfold jm1 at h;split at h<;>try (cases h;done)
 rename_i f az ht;split at h<;>try (cases h;done)
 rename_i e;simp only[wcl]at e;have z:=qc e.1;have A:=wd2 e.2;subst z;split at h<;>try (cases h;done)
 rename_i d L;simp only at h;split at h<;>try (cases h;done)
 rename_i j;simp only[wcl]at j;cases h;intro β k r hk;obtain⟨t,hp,l,hu⟩:=Vs hk;cases a:x.g t with
 |none=>rw[a]at l;cases l
 |some N=>
  rw[a]at l
  replace l:inlX P ⟨x.f,x.n,x.rs,.skip,λ_=>none,0,x.un⟩ (zru x.un true d 0++zru x.un false d 0) x.b u G k .ret 0 (unE x.hout (zu _ N)) (unG x.hout (zu _ N))=some r:=l
  obtain⟨_,s,NL,hs,y,D,M⟩:=z0l l;obtain⟨e0,w,I⟩:=U t N a;have a3:=qc j.2;refine⟨_,_,_,D,λk2=>?_,λid m=>by rw[zd3]at m;exact m,λW n F H B Z V X=>?_⟩
  ·refine(hu _).trans ?_;rw[a];exact M k2
  ·have v:Agr o E G [] F H:=⟨V,λid h=>by cases h⟩
   have p:=OutC.into (za9 (P:=P) (n:=x.n) hp) I;refine wcc Z R (znn R v ht) hg J Y (by rw[Q];exact A) B (z6g y) (zg5 j.1) (λi hi=>X i (.inr (by rw[zd3];exact hi))) w (λT S C K=>by rw[Q];exact p T S C K) ?_;rw[hr];exact hs
def jco(re:FuncId->Option RE)(o:Oper)(E:EF):Option (RE×Call):=match o.op with
 |.call c=>match z2z E c with
  |some (f,_)=>match re f with
   |some x=>some (x,c)
   |none=>none
  |none=>none
 |_=>none
theorem zxw{re:FuncId->Option RE}{o:Oper}{E:EF}{x:RE×Call}(h:jco re o E=some x):o.op=.call x.2/\∃f,re f=some x.1:=by
 unfold jco at h;split at h<;>try (cases h;done)
 rename_i c a;split at h<;>try (cases h;done)
 rename_i f d e;split at h<;>cases h;rename_i y b;exact⟨a,_,b⟩
def syR(P:Program)(e:TypeId->Option KY)(f:Nat->Nat->Option LK)(st:Sy1)(it:Nat->Nat->FuncId->Option IE)(re:FuncId->Option RE)(fuel:Nat):Nat->SyT
 |0=>λc a b o E G=>match jco re o E with
  |some x=>jm1 P x.1 x.2 a E G
  |none=>stR P e (f c (zw5 o)) (st c a b o E G) a o E G
 |d+1=>λc a b o E G=>match jco re o E with
  |some x=>jm1 P x.1 x.2 a E G
  |none=>match jg7 it c b o E with
   |some x=>inlK P (syR P e f st it re fuel d) fuel x.1 x.2 a E G
   |none=>stR P e (f c (zw5 o)) (st c a b o E G) a o E G
theorem jim{P:Program}{r:TypeId->Option KY}(e:zz3 P r){s:Nat->Nat->Option LK}{st:Sy1}{it:Nat->Nat->FuncId->Option IE}{re:FuncId->Option RE}{fuel:Nat}(hm:P.follows .mixedOrders=true)(i:∀b j a o E G q,st b j a o E G=some q->SOk P o E G q)(l:∀b a f x,it b a f=some x->jkp P x)(g:∀f x,re f=some x->zoo P x):∀d,zw3 P (syR P r s st it re fuel d)
 |0=>λb j a o E G q h=>by
  simp only[syR]at h;split at h
  ·rename_i x c;obtain⟨m,f,k⟩:=zxw c;exact jci (g _ _ k) m h
  ·exact jgy e (λx c=>i _ _ _ _ _ _ _ c) h
 |d+1=>λb j a o E G q h=>by
  simp only[syR]at h;split at h
  ·rename_i x c;obtain⟨m,f,k⟩:=zxw c;exact jci (g _ _ k) m h
  ·split at h
   ·rename_i x c;obtain⟨m,p,n,f,k⟩:=ja6 c;exact jl3 (jim e hm i l g d) hm (l _ _ _ _ k) m h
   ·exact jgy e (λx c=>i _ _ _ _ _ _ _ c) h
def funE(P:Program)(a:SyT)(hint:Nat->Option HK)(n:Nat)(c:Code)(b:Nat)(hin hout:LH)(nn:Nat)(t:DL hin.tys):Option (DL hout.tys):=
 q7 a nn hint 0 b n c 1 hin.nx (unE hin (zu _ t)) (unG hin (zu _ t)) λe _ E G=>match e with
  |.normal=>meet b hout some E G
  |.ret=>meet b hout some E G
  |_=>none
theorem jm7{P:Program}{l:SyT}(j:zw3 P l)(hm:P.follows .mixedOrders=true){hint:Nat->Option HK}{x:RE}{nn:Nat}{fn:Func}{c:Code}(o:P.funcs[x.f]?=some fn)(m:fn.body=some c)(s:fn.ntmps=x.n)(u:fn.results.toList=x.rs)(p:V9 P x.f=true)
  (q:∀t,funE P l hint x.n c x.b x.hin x.hout nn t=x.g t):zoo P x:=by
 refine⟨fn,c,o,m,s,u,p,λt r h=>?_⟩;have h:=(q t).trans h;unfold funE at h;obtain⟨e,z,w,y,a,_,k⟩:=y5 (P:=P) (n:=x.n) hm j c 1 _ _ _ _ r h;cases e with
 |normal=>
  obtain⟨v,i,d,_⟩:=Vs a;cases d;exact⟨_,.inl rfl,k.ren (za9 i)⟩
 |ret=>
  obtain⟨v,i,d,_⟩:=Vs a;cases d;exact⟨_,.inr rfl,k.ren (za9 i)⟩
 |_=>cases a
def lk{α:Type}(l:List (Nat×α))(k:Nat):Option α:=List.rec (motive:=λ_=>Option α) none (λe _ a=>cond (Nat.beq k e.1) (some e.2) a) l
def hsN(l:List Nat)(k:Nat):Bool:=List.rec (motive:=λ_=>Bool) false (λa _ b=>cond (Nat.beq k a) true b) l
def lkL{α:Type}(l:List (Nat×List α))(k:Nat):List α:=List.rec (motive:=λ_=>List α) [] (λe _ a=>cond (Nat.beq k e.1) e.2 a) l
theorem zmz{α:Type}{a:Nat}{y:α}{l:List (Nat×α)}{f:Nat}{x:α}(h:lk ((a,y)::l) f=some x):f=a/\y=x\/lk l f=some x:=by
 have h:cond (Nat.beq f a) (some y) (lk l f)=some x:=h;cases b:Nat.beq f a
 ·rw[b]at h;exact .inr h
 ·rw[b]at h;exact .inl ⟨wcj b,wdz h⟩
structure Cfg where
 zt:ZT
 zt2:ZT
 zy:ZY
 ky:TypeId->Option KY
structure jh0(c:Cfg):Prop where
 zt:zgc Tryz.prog c.zt
 zt2:zgc Tryz.prog c.zt2
 ky:zz3 Tryz.prog c.ky
def prsK(cf:Cfg)(bds:List (Nat×List Nat))(lits:List (Nat×List (Nat×LK)))(S:z9s)(c:Nat):Prm:={ bd:=hsN (lkL bds c),lit:=lk (lkL lits c),zt:=cf.zt,zt2:=cf.zt2,zy:=cf.zy,S:=S }
def fzK(l:List (Nat×List (Nat×Ty)))(c t:Nat):List (Nat×Ty):=lkL l (c*1000000+t)
def frK(l:List Nat)(c t:Nat):Bool:=hsN l (c*1000000+t)
def itK(l:List (Nat×IE))(c t f:Nat):Option IE:=lk l ((c*1000000+t)*10000+f)
def syK(cf:Cfg)(bds:List (Nat×List Nat))(lits:List (Nat×List (Nat×LK)))(fz:List (Nat×List (Nat×Ty)))(frs:List Nat)(S:List (Nat×PF))(T:List (Nat×FF))(it:List (Nat×IE))(re:List (Nat×RE))(nn d:Nat):SyT:=
 syR Tryz.prog cf.ky (λc t=>lk (lkL lits c) t) (jg3 cf.ky (prsK cf bds lits (lk S)) (fzK fz) (frK frs) (lk T)) (itK it) (lk re) nn d
def jv(f:FuncId)(x:PF):Prop:=z30 Tryz.prog f x.ats x.rt x.g
def FFOk(f:FuncId)(x:FF):Prop:=zoq Tryz.prog f x.ats x.e x.rt x.g
theorem tn:Vw Tryz.prog (lk []):=λf x h=>by cases h
theorem tc{f:FuncId}{y:PF}{l:List (Nat×PF)}(h:jv f y)(b:Vw Tryz.prog (lk l)):Vw Tryz.prog (lk ((f,y)::l)):=λg x a=>by
 rcases zmz a with⟨rfl,rfl⟩|a
 ·exact h
 ·exact b g x a
theorem gn:zbr Tryz.prog (lk []):=λf x h=>by cases h
theorem gc{f:FuncId}{y:FF}{l:List (Nat×FF)}(h:FFOk f y)(b:zbr Tryz.prog (lk l)):zbr Tryz.prog (lk ((f,y)::l)):=λg x a=>by
 rcases zmz a with⟨rfl,rfl⟩|a
 ·exact h
 ·exact b g x a
def z7j(l:List (Nat×IE)):Prop:=∀k x,lk l k=some x->jkp Tryz.prog x
abbrev ie(f:FuncId)(fn:Func)(h:Nat->Option HK)(ctx:Nat)(un:List Nat):IE:=⟨f,fn.ntmps,fn.results.toList,fn.body.getD .skip,h,ctx,un⟩
def ckI(f:FuncId)(fn:Func):Bool:=fn.body.isSome && V9 Tryz.prog f
theorem itn:z7j []:=λk x h=>by cases h
theorem zgo{fn:Func}(h:fn.body.isSome=true):fn.body=some (fn.body.getD .skip):=by
 cases a:fn.body with
 |none=>rw[a]at h;cases h
 |some c=>rfl
theorem itc(k:Nat){f:FuncId}{fn:Func}(hf:Tryz.prog.funcs[f]?=some fn)(h:Nat->Option HK)(ctx:Nat)(d:List Nat){l:List (Nat×IE)}(c:z7j l)(a:ckI f fn=true):z7j ((k,ie f fn h ctx d)::l):=λg x b=>by
 rcases zmz b with⟨rfl,rfl⟩|b
 ·unfold ckI at a;rw[wcl]at a;exact⟨fn,hf,zgo a.1,rfl,rfl,a.2⟩
 ·exact c g x b
def ckF(f:FuncId)(fn:Func)(ats:List Ty):Bool:=fn.body.isSome && (Nat.ble ats.length fn.ntmps && V9 Tryz.prog f)
def znp(l:List (Nat×RE)):Prop:=∀f x,lk l f=some x->zoo Tryz.prog x
theorem rn:znp []:=λk x h=>by cases h
theorem rc{y:RE}{l:List (Nat×RE)}(h:zoo Tryz.prog y)(b:znp l):znp ((y.f,y)::l):=λg x a=>by
 rcases zmz a with⟨rfl,rfl⟩|a
 ·exact h
 ·exact b g x a
theorem jaz{cf:Cfg}(hcf:jh0 cf){bds:List (Nat×List Nat)}{lits:List (Nat×List (Nat×LK))}{fz:List (Nat×List (Nat×Ty))}{frs:List Nat}{S:List (Nat×PF)}{T:List (Nat×FF)}{it:List (Nat×IE)}{re:List (Nat×RE)}{nn d:Nat}(b:Vw Tryz.prog (lk S))(c:zbr Tryz.prog (lk T))(hI:z7j it)(a:znp re):zw3 Tryz.prog (syK cf bds lits fz frs S T it re nn d):=
 jim hcf.ky mixed (ji1 hcf.ky c (λ_=>b) (λ_=>hcf.zt) (λ_=>hcf.zt2)) (λ_ _ _ _ h=>hI _ _ h) a d
section
variable{cf:Cfg}(hcf:jh0 cf){f:FuncId}{fn:Func}(hf:Tryz.prog.funcs[f]?=some fn)(nn d:Nat)(bds:List (Nat × List Nat))(lits:List (Nat × List (Nat × LK)))(fz:List (Nat × List (Nat × Ty)))(frs:List Nat){S:List (Nat × PF)}{T:List (Nat × FF)}{it:List (Nat × IE)}{re:List (Nat × RE)}(hI:z7j it)(h:Nat → Option HK)
include hcf hf hI
theorem mkP(b:znp re)(e:zbr Tryz.prog (lk T))(c:Vw Tryz.prog (lk S)){x:PF}(a:ckF f fn x.ats=true)(i:∀t,funP Tryz.prog (syK cf bds lits fz frs S T it re nn d) h fn.ntmps fn.results.toList (fn.body.getD .skip) x.ats x.rt nn t=x.g t):jv f x:=by
 unfold ckF at a;simp only[wcl]at a;have h:=jmv (jaz hcf (bds:=bds) (lits:=lits) (fz:=fz) (frs:=frs) (nn:=nn) (d:=d) c e hI b) mixed (hint:=h) (ats:=x.ats) (rt:=x.rt) (nn:=nn) hf (zgo a.1) rfl rfl a.2.1 a.2.2;exact⟨h.1,λt r j=>h.2 t r ((i t).trans j)⟩
theorem mkF(b:znp re)(i:zbr Tryz.prog (lk T))(c:Vw Tryz.prog (lk S)){x:FF}(a:ckF f fn x.ats=true)(j:∀t,funF Tryz.prog (syK cf bds lits fz frs S T it re nn d) h fn.ntmps fn.results.toList (fn.body.getD .skip) x.ats x.e x.rt nn t=x.g t):FFOk f x:=by
 unfold ckF at a;simp only[wcl]at a;have h:=jof (jaz hcf (bds:=bds) (lits:=lits) (fz:=fz) (frs:=frs) (nn:=nn) (d:=d) c i hI b) mixed (hint:=h) (ats:=x.ats) (ee:=x.e) (rt:=x.rt) (nn:=nn) hf (zgo a.1) rfl rfl a.2.1 a.2.2;exact⟨h.1,λt r k=>h.2 t r ((j t).trans k)⟩
theorem mkR(e:znp re)(i:zbr Tryz.prog (lk T)){ats:List Ty}{rt:Ty}{b:(DL ats->Option rt.D)->DL ats->Option rt.D}{q:Nat->DL ats->Option rt.D}{S:(DL ats->Option rt.D)->List (Nat×PF)}(g:∀rec,jv f ⟨ats,rt,rec⟩->Vw Tryz.prog (lk (S rec)))(a:ckF f fn ats=true)(j:∀rec t,funP Tryz.prog (syK cf bds lits fz frs (S rec) T it re nn d) h fn.ntmps fn.results.toList (fn.body.getD .skip) ats rt nn t=b rec t)
  (h0:∀t,q 0 t=none) (c:∀m t,q (m+1) t=b (q m) t):∀m,jv f ⟨ats,rt,q m⟩
 |0=>by
  unfold ckF at a;simp only[wcl]at a;exact⟨a.2.2,λt r k=>by have:=(h0 t).symm.trans k;cases this⟩
 |m+1=>by
  have l:=mkR e i g a j h0 c m;exact mkP hcf hf nn d bds lits fz frs hI h e i (g _ l) (x:=⟨ats,rt,q (m+1)⟩) a λt=>(j _ t).trans (c m t).symm
theorem mkS(g:znp re){ats:List Ty}{e:TypeId}{rt:Ty}{b:(DL ats->Option (List rt.D))->DL ats->Option (List rt.D)}{q:Nat->DL ats->Option (List rt.D)}{T:(DL ats->Option (List rt.D))->List (Nat×FF)}{S:List (Nat×PF)}(j:∀rec,FFOk f ⟨ats,e,rt,rec⟩->zbr Tryz.prog (lk (T rec)))(i:Vw Tryz.prog (lk S))(a:ckF f fn ats=true)(k:∀rec t,funF Tryz.prog (syK cf bds lits fz frs S (T rec) it re nn d) h fn.ntmps fn.results.toList (fn.body.getD .skip) ats e rt nn t=b rec t)
  (h0:∀t,q 0 t=none) (c:∀m t,q (m+1) t=b (q m) t):∀m,FFOk f ⟨ats,e,rt,q m⟩
 |0=>by
  unfold ckF at a;simp only[wcl]at a;exact⟨a.2.2,λt r l=>by have:=(h0 t).symm.trans l;cases this⟩
 |m+1=>by
  have n:=mkS g j i a k h0 c m;exact mkF hcf hf nn d bds lits fz frs hI h g (j _ n) i (x:=⟨ats,e,rt,q (m+1)⟩) a λt=>(k _ t).trans (c m t).symm
theorem mkE{b:Nat}{c:List Nat}{hin hout:LH}{bo:(DL hin.tys->Option (DL hout.tys))->DL hin.tys->Option (DL hout.tys)}{q:Nat->DL hin.tys->Option (DL hout.tys)}{re:(DL hin.tys->Option (DL hout.tys))->List (Nat×RE)}(g:∀rec,zoo Tryz.prog ⟨f,fn.ntmps,fn.results.toList,b,c,hin,hout,rec⟩->znp (re rec))(j:zbr Tryz.prog (lk T))(i:Vw Tryz.prog (lk S))(a:ckI f fn=true)(k:∀rec t,funE Tryz.prog (syK cf bds lits fz frs S T it (re rec) nn d) h fn.ntmps (fn.body.getD .skip) b hin hout nn t=bo rec t)
  (h0:∀t,q 0 t=none) (e:∀m t,q (m+1) t=bo (q m) t):∀m,zoo Tryz.prog ⟨f,fn.ntmps,fn.results.toList,b,c,hin,hout,q m⟩
 |0=>by
  unfold ckI at a;rw[wcl]at a;exact⟨fn,_,hf,zgo a.1,rfl,rfl,a.2,λt r l=>by have:=(h0 t).symm.trans l;cases this⟩
 |m+1=>by
  have n:=mkE g j i a k h0 e m;unfold ckI at a;rw[wcl]at a;exact jm7 (x:=⟨f,fn.ntmps,fn.results.toList,b,c,hin,hout,q (m+1)⟩) (jaz hcf (bds:=bds) (lits:=lits) (fz:=fz) (frs:=frs) (nn:=nn) (d:=d) i j hI (g _ n)) mixed (hint:=h) (nn:=nn) hf (zgo a.1) rfl rfl a.2 λt=>(k _ t).trans (e m t).symm
end
def vi(n:Nat):Nat×HS:=(n,.v (.int .i64))
def vb(n:Nat):Nat×HS:=(n,.v .bool)
def vl(n:Nat):Nat×HS:=(n,.v (.sl (.int .i64)))
def vo(n X:Nat):Nat×HS:=(n,.own X)
def vp(n X:Nat):Nat×HS:=(n,.pt X 0)
def hbz(l:List HB)(k:Nat):List (Nat×HB):=List.rec (motive:=λ_=>Nat->List (Nat×HB)) (λ_=>[]) (λb _ a k=>(k,b)::a (k+1)) l k
def me(s:List (Nat×HS))(l:List HB)(n:Nat):HK :=.meet ⟨s,hbz l 0,n⟩
theorem zn{P:Program}:zgc P (lk (α:=List TS) []):=λt a h=>by cases h
theorem zc{P:Program}{t:Nat}{xs:List TS}{l:List (Nat×List TS)}(e:(zw9 P t).isSome=true)(b:((zw9 P t).getD []).all Value.oneCell'=true)(c:((zw9 P t).getD []).map .u=qd xs)(f:zgc P (lk l)):zgc P (lk ((t,xs)::l)):=λg h a=>by
 rcases zmz a with⟨rfl,rfl⟩|a
 ·obtain⟨us,d⟩:=wdi.1 e;rw[d]at b c;exact⟨us,d,b,wa4 c⟩
 ·exact f g h a
theorem FFOk.pure{f:FuncId}{x:FF}(h:FFOk f x):jv f ⟨x.ats,.sl x.rt,x.g⟩:=⟨h.1,λt r a=>(h.2 t r a).forget⟩
end
end Go.Proofs.YtigdmmgklieofaaGreat.T
namespace Go.Proofs.YtigdmmgklieofaaGreat
noncomputable section
set_option maxRecDepth 100000
set_option maxHeartbeats 8000000
set_option linter.unusedVariables false
set_option linter.unusedSimpArgs false
open Go.ChangeShapes Go.WideShapes Go.ChangeAt Go.RowKit
theorem zlb{H:Type}{enc:TypeId×Value->H}{P:Program}(k:laidOutB P=true){W i:World}(j:Below W.heap.size W i):
  ∀(ts:List TypeId)(vs:List Value)(ds:List (DataW H))(ps:List MemPlace),(∀t∈ts,P.readableRec t=true/\t<P.types.size)->(∀x∈ps,x.block<W.heap.size) ->
   DataW.TrodAll enc P W 0 (λ_=>true) true ts vs ds ps->DataW.TrodAll enc P i 0 (λb=>decide (b<W.heap.size)) true ts vs ds ps
 |[],vs,ds,ps,_,_,h=>by
  obtain⟨rfl,rfl,rfl⟩:=trodAll_nil h;exact trodAll_mk0
 |t::ts,vs,ds,ps,l,a,h=>by
  obtain⟨v,g,d,e,p,q,rfl,rfl,rfl,h0,m⟩:=trodAll_cons h;have c:=l t (by simp);exact trodAll_cons_mk (Below.trod k c.1 c.2 h0 j λx f=>a x (by simp[f]))
   (zlb k j ts g e q (λt c=>l t (by simp[c])) (λx f=>a x (by simp[f])) m)
theorem law_post{H:Type}{enc:TypeId×Value->H}{P:Program}{f:Func}{s:ChangeSpec}{o:TypeId}(w:laidOutB P=true)(y:(f.params.toList.all λt=>P.readableRec t && decide (t<P.types.size))=true)
  (b:s.vars=[]) (d:f.resultTypes = #[o]) (v:P.underlying o=some .bool) {W k:World}{args:Array Value}{ds r:List (DataW H)}{a:List MemPlace}
  (m:DataW.Whole enc P f.params.toList s.vars false W args.toList ds r a) (e:s.fn H ds = { results:=[.lit (.bool true)],args:=ds }) (n:Below W.heap.size W k) :
  s.post enc P f false true false false W args (.bool true) k:=by
 have g:=m;obtain⟨p,q,u,l,c,_,_⟩:=m;rw[b]at l;obtain⟨rfl,rfl⟩:=trodVars_none l;rw[wc7]at c;subst c;have i:∀x∈a,x.block<W.heap.size:=λx A=>by simpa using g.lt x A
 have j:∀t∈f.params.toList,P.readableRec t=true/\t<P.types.size:=by
  intro t z;have:=wdx.1 y t z;simpa using this
 refine⟨ds,[],a,[],a,[],g,?_,?_,?_,n.frame _,λh=>by cases h⟩
 ·rw[wc7,e,d];exact trodAll_mk1 (shut_bool v true)
 ·rw[wc7,e];exact zlb w n _ _ _ _ j i u
 ·rw[wc7,e,b];rfl
open Go Go.RowKit Go.ChangeShapes Go.WideShapes L
abbrev F0:ZM:=⟨λ_=>False,0⟩
abbrev B(b:Bool):PV :=.u (.bool b)
abbrev S(s:ByteArray):PV :=.u (.string s)
def arV{α:Type}{n:Nat}(b:α->PV)(a:{l:List α // l.length=n}):PV :=.agg (a.1.map b)
def OkI(k:IntKind)(z:Int):Prop:=(Lit.int k z).wf=true
theorem OkI.u64{z:Int}(h:OkI .u64 z):0<=z/\z<18446744073709551616:=by
 have:0<=z/\z<=18446744073709551615:=by simpa [OkI,Lit.wf,IntKind.min,IntKind.max,IntKind.signed,IntKind.bits]using h
 omega
section
variable{w:World}{Z:ZM}{H:PHeap}{V:Nm → Value}
theorem rl_nil:RpL Z H V w [] []:=⟨rfl,λi p v h=>by simp at h⟩
theorem rl_cons{p:PV}{v:Value}{ps:List PV}{vs:List Value}(h:Rp Z H V w p v)(e:RpL Z H V w ps vs):RpL Z H V w (p::ps) (v::vs):=⟨by simp[e.1],λi a b c d=>by
 cases i with
 |zero=>simp at c d;subst c;subst d;exact h
 |succ i=>exact e.2 i a b (by simpa using c) (by simpa using d)⟩
theorem rl_app{ps qs:List PV}{vs us:List Value}(h:RpL Z H V w ps vs)(f:RpL Z H V w qs us):RpL Z H V w (ps++qs) (vs++us):=by
 refine⟨by simp[h.1,f.1],λi a b c d=>?_⟩;by_cases e:i<ps.length
 ·rw[wcr e]at c;rw[wcr (h.1▸e)]at d;exact h.2 i a b c d
 ·rw[wct (by omega)]at c;rw[wct (by rw[<- h.1];omega),<- h.1]at d;exact f.2 _ a b c d
theorem rl_cut{ps qs:List PV}{cs:List Value}(n:Nat)(h:RpL Z H V w ps (cs.take n))(a:RpL Z H V w qs (cs.drop n)):RpL Z H V w (ps++qs) cs:=by
 have:=rl_app h a;rwa [wdq]at this
theorem rl_end{cs:List Value}(h:cs.length=0):RpL Z H V w [] cs:=by
 cases cs with
 |nil=>exact rl_nil
 |cons c cs=>simp at h
theorem rl_dd{ps:List PV}{cs:List Value}{m n k:Nat}(e:m+n=k)(h:RpL Z H V w ps (cs.drop k)):RpL Z H V w ps ((cs.drop m).drop n):=by rw[List.drop_drop,e];exact h
theorem rl_one{p:PV}{v:Value}(h:RpL Z H V w [p] [v]):Rp Z H V w p v:=h.2 0 p v rfl rfl
theorem rl_agg{ps:List PV}{cs:Array Value}(h:RpL Z H V w ps (Value.agg cs).cells.toList):Rp Z H V w (.agg ps) (.agg cs):=
 .agg _ _ (by simpa [Value.cells]using h.1) λi p u a b=>h.2 i p u a (by simpa [Value.cells]using b)
end
section
variable{H:Type}{enc:TypeId × Value → H}{P:Program}{w:World}{base:Nat}{spare:Nat → Bool}{held:Bool}
def zr2(enc:TypeId×Value->H)(P:Program)(w:World)(base:Nat)(spare:Nat->Bool)(held:Bool)(t:TypeId){α:Type}(c:α->PV)(C:α->Prop):Prop:=
 ∀(b:Nat)(cs:List Value)(x:DataW H×List MemPlace),DataW.trod enc P w base spare held b t cs=some x->∃a,RpL F0 PHeap.empty V0 w (c a).cells cs/\C a
theorem jf9{t:TypeId}{k:IntKind}(b:P.underlying t=some (.int k)):zr2 enc P w base spare held t (λz=> .u (.int k z)) (OkI k):=λa cs x h=>by
 obtain⟨n,rfl,_,c⟩:=DataW.trod_int b h;exact⟨n,rl_cons (.u _) rl_nil,c⟩
theorem jac{t:TypeId}(b:P.underlying t=some .bool):zr2 enc P w base spare held t B (λ_=>True):=λa cs x h=>by
 obtain⟨n,rfl,_⟩:=DataW.trod_bool b h;exact⟨n,rl_cons (.u _) rl_nil,trivial⟩
theorem jgh{t:TypeId}(c:P.underlying t=some .string):zr2 enc P w base spare held t S (λs=>s.size<=maxLen):=λa cs x h=>by
 obtain⟨n,rfl,_,b⟩:=DataW.trod_string c h;exact⟨n,rl_cons (.u _) rl_nil,b⟩
theorem jko{α:Type}[Inhabited α]{t e:TypeId}{k:Nat}{c:α->PV}{C:α->Prop}(ht:P.underlying t=some (.slice e))(hk:P.cellsOf e=k)(f:0<k)(d:∀a,(c a).cells.length=k)
  (he:zr2 enc P w base spare held e c C):zr2 enc P w base spare held t (λ(l:List α)=> .sl k (l.map c)) (λl=>l.length<=maxLen/\∀a∈l,C a):=λa7 cs x h=>by
 have s:=he
 suffices hs:∃(l:List α)(v:Value),cs=[v]/\Rp F0 PHeap.empty V0 w (.sl k (l.map c)) v/\l.length<=maxLen/\∀a∈l,C a by
  obtain⟨l,v,rfl,j,F⟩:=hs;exact⟨l,rl_cons j rl_nil,F⟩
 rcases Go.Deep.open_slice ht h with⟨g,_⟩|⟨a,len,W,m,n,D,Pl,g,hb,hl,hm,a2,_,hx⟩
 ·exact⟨[],_,g,.nil _ _ _,wem _,λa Y=>by cases Y⟩
 ·have b5:len<=m:=by rw[a2];split<;>omega
  by_cases h0:len=0
  ·subst h0;exact⟨[],_,g,.nil _ _ _,wem _,λa Y=>by cases Y⟩
  have K:∀i,i<m->∃q:α,(∀r,r<k->∃u p,w.cell? (a.add (i*k+r))=some u/\(c q).cells[r]?=some p/\Rp F0 PHeap.empty V0 w p u)/\C q:=λi O=>by
   obtain⟨I,j,F⟩:=hx i O;rw[hk]at j;obtain⟨_,a9,a0⟩:=World.cells?_some j;obtain⟨q,R,hC⟩:=s n I _ F;refine⟨q,λr A=>?_,hC⟩;have X:=a0 r A;rw[Go.Deep.add_add]at X;have U:r<I.length:=by omega
   have h4:r<(c q).cells.length:=by rw[d];exact A
   rw[wcf U]at X;exact⟨_,_,X,wcf h4,R.2 r _ _ (wcf h4) (wcf U)⟩
  obtain⟨q,R⟩:=Go.Deep.choose_lt K;obtain⟨b,o,T⟩:=a;obtain⟨u0,_,E,_,_⟩:=(R 0 (by omega)).1 0 f;have B:T=none:=by simpa [Addr.add]using World.cell?_spot E
  subst B;have J:b<w.heap.size:=by
   unfold World.cell? at E;by_cases a1:b<w.heap.size
   ·exact a1
   ·simp[Addr.add,Array.getElem?_eq_none (by omega:w.heap.size<=b)]at E
  refine⟨(List.range len).map q,_,g,?_,by simp;omega,λz hz=>by obtain⟨i,O,rfl⟩:=wcz.1 hz;exact(R i (by have:=wef.1 O;omega)).2⟩;have hu:∀y∈((List.range len).map q).map c,y.cells.length=k:=λy hy=>by obtain⟨z,_,rfl⟩:=wcz.1 hy;exact d z
  have Q:(((List.range len).map q).map c).length=len:=by simp
  have M:∀k,w.cell? ((⟨b,o,none⟩:Addr).add k)=w.cell? ⟨b,o+k,none⟩:=λk=>by rw[Jj]
  have S:∀(i:Nat)(p:PV),((((List.range len).map q).map c).flatMap PV.cells)[i]?=some p->∃v,w.cell? ⟨b,o+i,none⟩=some v/\Rp F0 PHeap.empty V0 w p v:=λi p G=>by
   have O:i<len*k:=by
    have:=(wcg.1 G).1;rw[L.flat_length _ hu,Q]at this;exact this
   have hj:i / k<len:=by rw[Nat.div_lt_iff_lt_mul f];exact O
   have A:i % k<k:=Nat.mod_lt _ f;have hy:(((List.range len).map q).map c)[i / k]?=some (c (q (i / k))):=by simp[hj]
   have e:=zuw hu (i / k) (i % k) _ hy A;have N:i / k*k+i % k=i:=by rw[Nat.mul_comm];exact Nat.div_add_mod i k
   rw[N,G]at e;obtain⟨u,p',j,F,U⟩:=(R (i / k) (by omega)).1 (i % k) A;rw[<- e]at F;cases F;rw[M,N]at j;exact⟨u,j,U⟩
  have a3:=Rp.sl (Z:=F0) (H:=PHeap.empty) (V:=V0) (w:=w) k (((List.range len).map q).map c) b o W (λi=>(w.cell? ⟨b,o+i,none⟩).getD undef) hu (by simpa using hl) (λh=>(Qz.1 h).elim) J
   (λi p G=>by obtain⟨v,hv,_⟩:=S i p G;rw[hv];rfl) (λi p G=>by obtain⟨v,hv,A⟩:=S i p G;simp only[hv,wda];exact A)
  rwa [Q]at a3
theorem jeo{α:Type}[Inhabited α]{t e:TypeId}{n:Nat}{b:α->PV}{C:α->Prop}(E:P.underlying t=some (.array n e))(B:P.cellsOf e=1)(D:P.cellsOf t=n)(c:∀a,(b a).cells=[b a])
  (A:zr2 enc P w base spare held e b C):zr2 enc P w base spare held t (arV (n:=n) b) (λa=>∀x∈a.1,C x):=λo cs x h=>by
 obtain⟨H,m,_,_,j,G,hz⟩:=DataW.trod_array E h;rw[D]at j;have f:∀i,i<n->∃q:α,(∃u,cs[i]?=some u/\Rp F0 PHeap.empty V0 w (b q) u)/\C q:=λi d=>by
  have g:=hz i d;rw[B,wf1,wcf (by omega)]at g;obtain⟨q,k,y⟩:=A m _ _ g;have z:(cs.drop i).take 1=[cs[i]'(by omega)]:=by rw[wc0 (by omega)];rfl
  rw[z,c]at k;exact⟨q,⟨_,wcf (by omega),rl_one k⟩,y⟩
 obtain⟨q,k⟩:=Go.Deep.choose_lt f;refine⟨⟨(List.range n).map q,by simp⟩,?_,λx F=>?_⟩
 ·refine⟨by simp[arV,PV.cells,j],λi p v g l=>?_⟩;have d:i<n:=by have:=(wcg.1 l).1;omega
  simp[arV,PV.cells,d]at g;obtain⟨u,r,s⟩:=(k i d).1;rw[r]at l;cases l;subst g;exact s
 ·obtain⟨i,d,rfl⟩:=wcz.1 F;exact(k i (wef.1 d)).2
end
theorem jf7{f:FuncId}{qs:List PV}(h:PCall Tryz.prog f qs (· = B true)){w:World}{vs:List Value}(j:RpL F0 PHeap.empty V0 w qs vs):Calls Tryz.prog f vs.toArray w λe d=>e=.returned (.bool true)/\Below w.heap.size w d:=
 (h F0 w vs (λb a=>False.elim a) (wem _) j).mono λe d⟨v,p,c,i,_,g,a⟩=>by
  subst i;rw[rpu g]at c;exact⟨c,a⟩
end
end Go.Proofs.YtigdmmgklieofaaGreat
namespace Go.Proofs.YtigdmmgklieofaaGreat.T
noncomputable section
set_option maxRecDepth 100000
set_option maxHeartbeats 8000000
set_option linter.unusedVariables false
set_option linter.unusedSimpArgs false
open Go Go.RowKit Go.ChangeShapes Go.WideShapes L
instance {n:Nat}{α:Type} [Inhabited α]:Inhabited (Arr n α):=⟨⟨List.replicate n default,wch⟩⟩
def OkD:(t:Ty)->t.D->Prop
 |.int k,z=>OkI k z
 |.bool,_=>True
 |.str,s=>s.length<=maxLen
 |.sl t,l=>l.length<=maxLen/\∀x∈l,OkD t x
 |.ref _,_=>True
 |.arr _ t,a=>∀x∈a.l,OkD t x
 |.nil,_=>True
 |.cons a r,x=>OkD a x.1/\OkD r x.2
 |.st r,x=>OkD r x
 |.tup r,x=>True
section
variable{H:Type}{ec:TypeId × Value → H}{P:Program}{w:World}{base:Nat}{spare:Nat → Bool}{held:Bool}
abbrev OpenT(ec:TypeId×Value->H)(P:Program)(w:World)(base:Nat)(spare:Nat->Bool)(held:Bool)(t:TypeId)(y:Ty):Prop:=zr2 ec P w base spare held t (enc y) (OkD y)
theorem op_int{t:TypeId}{k:IntKind}(a:P.underlying t=some (.int k)):OpenT ec P w base spare held t (.int k):=jf9 a
theorem op_bool{t:TypeId}(a:P.underlying t=some .bool):OpenT ec P w base spare held t .bool:=jac a
theorem op_str{t:TypeId}(d:P.underlying t=some .string):OpenT ec P w base spare held t .str:=λa cs x h=>by
 obtain⟨s,b,c⟩:=jgh d a cs x h;exact⟨s.data.toList,b,c⟩
theorem op_sl{t e:TypeId}{y:Ty}[Inhabited y.D](j:P.underlying t=some (.slice e))(i:P.cellsOf e=wid y)(c:0<wid y)(g:OpenT ec P w base spare held e y):OpenT ec P w base spare held t (.sl y):=λb cs x h=>by
 obtain⟨l,d,f⟩:=jko j i c (λa=>by rw[enc_cells];exact qa y a) g b cs x h;exact⟨l,d,f⟩
theorem op_arr{t e:TypeId}{n:Nat}{y:Ty}[Inhabited y.D](m:P.underlying t=some (.array n e))(j:P.cellsOf e=1)(k:P.cellsOf t=n)(d:∀a:y.D,jq y a=[enc y a])(i:OpenT ec P w base spare held e y):OpenT ec P w base spare held t (.arr n y):=λc cs x h=>by
 obtain⟨a,f,g⟩:=jeo m j k (λa=>by rw[enc_cells,d]) i c cs x h;refine⟨⟨a.1,a.2⟩,?_,g⟩;have e:(enc (.arr n y) (⟨a.1,a.2⟩:Arr n y.D)).cells=(arV (n:=n) (enc y) a).cells:=by
  rw[enc_cells];show a.1.flatMap (jq y)=a.1.map (enc y);generalize a.1=l;induction l with
  |nil=>rfl
  |cons b l o=>rw[wdd,d,o];rfl
 rw[e];exact f
end
theorem row_pure{f:FuncId}{ats:List Ty}{g:DL ats->Option Bool}(h:z30 Tryz.prog f ats .bool g){t:DL ats}(a:g t=some true){w:World}{vs:List Value}(b:RpL F0 PHeap.empty V0 w (pvs (zu ats t)) vs):Calls Tryz.prog f vs.toArray w λe c=>e=.returned (.bool true)/\Below w.heap.size w c:=
 jf7 (h.2 t true a) b
end
end Go.Proofs.YtigdmmgklieofaaGreat.T
