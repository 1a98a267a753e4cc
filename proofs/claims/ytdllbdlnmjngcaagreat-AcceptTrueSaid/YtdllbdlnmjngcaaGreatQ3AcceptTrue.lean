/-
  Texts of this proof, put together: Tk, Tl, Tm, Tn, To, Tp, Tq, Tr, Ot, Tu, Tv, Tw, Ts, Tt, Tz, Tx, Ua, Ub, Uc, Ud, Ue, Uf, Ug, Ur, Uv, Gt, Gu.
-/
import Derived.Maps.RangeRun
import Derived.WideKeyEntry
import Derived.Test.YtdllbdlnmjngcaaGreatQ2AcceptTrue

namespace Go.Proofs.YtdllbdlnmjngcaaGreat.T
set_option maxRecDepth 100000
set_option maxHeartbeats 8000000
set_option linter.unusedVariables false
set_option linter.unusedSimpArgs false
open Go Go.RowKit L
def SR.vr(b:Bool)(t:Ty)(x:t.D)(rd:List Nat):SR:=match b with
 |true => .dat t.D (some x) (λy=> .v ⟨t,y⟩) rd
 |false => .now (.v ⟨t,x⟩) rd
section
variable{P:Program}{o:Oper}{E:EF}{G:EG}{rd:List Nat}{F:PFrame}{H:PHeap}{W:Env}
theorem SOk.vr{b:Bool}{t:Ty}{x:t.D}(h:∀W F H,Agr o E G rd F H->PQ P W o F H (enc t x)):SOk P o E G (.vr b t x rd):=by
 cases b with
 |true=>exact SOk.dat λy hy W F H ha=>by cases hy;simp only[TS.den];exact h W F H ha
 |false=>exact SOk.now λW F H ha=>by simp only[TS.den];exact h W F H ha
theorem wct{cs bs:List PV}:Ref (.rp (cs++bs)) (.rp cs):=λZ H V w v hv=>by
 cases hv with
 |rp _ b o' g hz hb h1 h2=>
  refine .rp _ b o' g hz hb (λi p hi=>h1 i p ?_) λi p hi=>h2 i p ?_
  ·rw[weg (wd5.1 hi).1];exact hi
  ·rw[weg (wd5.1 hi).1];exact hi
def zjw:(r:Ty)->r.D->Nat->Option Dyn
 |.cons a _,x,0=>some ⟨a,x.1⟩
 |.cons _ r,x,i+1=>zjw r x.2 i
 |_,_,_=>none
theorem z5d:∀(r:Ty)(x:r.D)(i:Nat)(d:Dyn),zjw r x i=some d->(vz r (encC r x))[i]?=some (enc d.t d.x)
 |.cons a r,x,0,d,h=>by
  simp only[zjw]at h;cases h;simp only[vz,encC,wge];rw[wg3 (ju a x.1)];rfl
 |.cons a r,x,i+1,d,h=>by
  simp only[zjw]at h;simp only[vz,encC,wgd];rw[wgo (ju a x.1)];exact z5d r x.2 i d h
 |.int _,_,_,_,h=>by simp[zjw]at h
 |.bool,_,_,_,h=>by simp[zjw]at h
 |.str,_,_,_,h=>by simp[zjw]at h
 |.sl _,_,_,_,h=>by simp[zjw]at h
 |.ref _,_,_,_,h=>by simp[zjw]at h
 |.arr _ _,_,_,_,h=>by simp[zjw]at h
 |.nil,_,_,_,h=>by simp[zjw]at h
 |.st _,_,_,_,h=>by simp[zjw]at h
 |.tup _,_,_,_,h=>by simp[zjw]at h
def sExt(x:TS)(i:Nat):Option SR:=match x with
 |.tup xs=>match xs[i]? with
  |some y=>some (.now y [])
  |none=>none
 |.v ⟨.tup r,p⟩=>match zjw r p i with
  |some d=>some (.now (.v d) [])
  |none=>none
 |_=>none
theorem jfj{x:Operand}{i:Nat}{q:SR}(ho:o.op=.extract x i)(h:sExt (evE E x) i=some q):SOk P o E G q:=by
 have hx':x∈o.op.operands:=by rw[ho];simp[Op.operands]
 have step:∀{W F H}{cs:List PV}{r:PV},(evE E x).den=.tup cs->cs[i]?=some r->Agr o E G [] F H->PQ P W o F H r:=λ{W F H cs r}h1 h2 hag=>by
  refine jh ?_;unfold jr;rw[ho];simp only;rw[hag.ev hx',h1];exact h2
 unfold sExt at h;split at h
 ·rename_i xs hxs;split at h<;>try (cases h;done)
  rename_i y hy;cases h;refine SOk.now λW F H hag=>step (cs:=yk xs) (by rw[hxs];simp only[TS.den]) ?_ hag;rw[zb5,web,hy];rfl
 ·rename_i r p hxs;split at h<;>try (cases h;done)
  rename_i d hd;cases h;refine SOk.now λW F H hag=>?_;simp only[TS.den];exact step (cs:=vz r (encC r p)) (by rw[hxs];simp only[TS.den];rfl) (z5d r p i d hd) hag
 ·cases h
theorem yd{id ver k:Nat}{n:Nat}{t:TypeId}{cs:List PV}(hH:H (2*id)=qj (G id)){bd:BD}(hb:(G id).b=some bd)(hd:bd.den=.row t k n cs)(hv:(G id).ver=ver):qm H (2*id) ver=some (t,k,n,cs):=by
 unfold qm;rw[hH];simp only[qj,hb,wer,hd];rw[if_pos hv]
def cellsB:BD->Option (List TS)
 |.box _ xs=>some xs
 |_=>none
theorem Jf{id ver:Nat}{t:TypeId}{xs:List TS}(hH:H (2*id)=qj (G id))(hb:(G id).b=some (.box t xs))(hv:(G id).ver=ver):jl H (2*id) ver=some (js xs):=by
 unfold jl;rw[hH];simp only[qj,hb,wer,BD.den];rw[if_pos hv]
theorem Qd{id ver:Nat}{k n:Nat}{t:TypeId}{cs:List PV}(hH:H (2*id)=qj (G id)){bd:BD}(hb:(G id).b=some bd)(hd:bd.den=.row t k n cs)(hv:(G id).ver=ver):jl H (2*id) ver=some cs:=by
 unfold jl;rw[hH];simp only[qj,hb,wer,hd];rw[if_pos hv]
abbrev i64:Ty :=.int .i64
def z3r(bd:Bool)(sl:Bool)(G:EG)(x:TS):Option SR:=match sl with
 |true=>match x with
  |.v ⟨.sl _,l⟩=>some (.vr bd i64 (l.length:Int) [])
  |.own id ver=>match Nat.beq (G id).ver ver with
   |true=>match (G id).b with
    |some (.row _ t l)=>some (.vr bd i64 (l.length:Int) [id])
    |some (.rowx _ _ xs)=>some (.now (.c (.int .i64 xs.length)) [id])
    |_=>none
   |false=>none
  |.c (.slice _ n _)=>some (.now (.c (.int .i64 n)) [])
  |_=>none
 |false=>match x with
  |.v ⟨.str,s⟩=>some (.vr bd i64 (s.length:Int) [])
  |.c (.string s)=>some (.vr bd i64 (s.data.toList.length:Int) [])
  |_=>none
theorem z35{bd sl:Bool}{t:Nat}{x:Operand}{q:SR}(ho:o.op=.call { callee :=.builtin .len,args:=#[x],argTypes:=#[t] })(ht:sl=true->y7 P t=true)(ht2:sl=false->zap P t=true)(h:z3r bd sl G (evE E x)=some q):SOk P o E G q:=by
 have hx':x∈o.op.operands:=by rw[ho];simp[Op.operands,Call.operands]
 have step:∀{rd W F H}{p r:PV},(evE E x).den=p->L.lenP P H t p=some r->Agr o E G rd F H->PQ P W o F H r:=λ{rd W F H p r}h1 h2 hag=>by
  refine jh ?_;unfold jr;rw[ho];show L.lenP P H t (evP F x)=_;rw[hag.ev hx',h1];exact h2
 unfold z3r at h;cases sl with
 |true=>
  simp only at h;split at h
  ·rename_i t' l hx;cases h;refine SOk.vr λW F H hag=>step (p :=.sl (wid t') (l.map (enc t'))) (by rw[hx];simp only[TS.den];rfl) ?_ hag;unfold L.lenP;simp only;rw[if_pos (ht rfl),wey];rfl
  ·rename_i id ver hx;split at h<;>try (cases h;done)
   rename_i hv;have hv:=wd9 hv;split at h
   ·rename_i tid t' l hb;cases h;refine SOk.vr λW F H hag=>step (p :=.ps (2*id) ver) (by rw[hx];simp only[TS.den]) ?_ hag;unfold L.lenP;simp only;rw[if_pos (ht rfl),yd (hag.h id (by simp)) hb rfl hv];rfl
   ·rename_i tid k xs hb;cases h;refine SOk.now λW F H hag=>?_;refine(step (p :=.ps (2*id) ver) (by rw[hx];simp only[TS.den]) ?_ hag:PQ P W o F H (.u (.int .i64 xs.length)));unfold L.lenP;simp only;rw[if_pos (ht rfl),yd (hag.h id (by simp)) hb rfl hv];rfl
   ·cases h
  ·rename_i a n c hx;cases h;refine SOk.now λW F H hag=>?_;refine(step (p :=.u (.slice a n c)) (by rw[hx];simp only[TS.den];rfl) ?_ hag:PQ P W o F H (.u (.int .i64 n)));unfold L.lenP;simp only;rw[if_pos (ht rfl)]
  ·cases h
 |false=>
  simp only at h;split at h
  ·rename_i s hx;cases h;refine SOk.vr λW F H hag=>step (p :=.u (.string ⟨⟨s⟩⟩)) (by rw[hx];simp only[TS.den];rfl) ?_ hag;unfold L.lenP;simp only;rw[if_pos (ht2 rfl)];rfl
  ·rename_i s hx;cases h;refine SOk.vr λW F H hag=>step (p :=.u (.string s)) (by rw[hx];simp only[TS.den];rfl) ?_ hag;unfold L.lenP;simp only;rw[if_pos (ht2 rfl)];rfl
  ·cases h
def atL{α:Type}(l:List α)(z:Int):Option α:=match decide (0<=z)with
 |true=>l[z.toNat]?
 |false=>none
def qu(n:Nat)(z:Int):Option Int:=match decide (0<=z)with
 |true=>match decide (z.toNat<n)with
  |true=>some z
  |false=>none
 |false=>none
theorem zgk{α:Type}{l:List α}{z:Int}{y:α}(h:atL l z=some y):0<=z/\l[z.toNat]?=some y:=by
 unfold atL at h;split at h
 ·rename_i h0;exact⟨wd3 h0,h⟩
 ·cases h
theorem zl0{n:Nat}{z y:Int}(h:qu n z=some y):0<=z/\z.toNat<n/\y=z:=by
 unfold qu at h;split at h
 ·rename_i h0;split at h
  ·rename_i h1;cases h;exact⟨wd3 h0,wd3 h1,rfl⟩
  ·cases h
 ·cases h
def oeq(a b:Option Nat):Bool:=match a,b with
 |some x,some y=>Nat.beq x y
 |_,_=>false
theorem zi4{a:Option Nat}{k:Nat}(h:oeq a (some k)=true):a=some k:=by
 unfold oeq at h;split at h
 ·rename_i e;cases e;rw[wd9 h]
 ·cases h
def jaf:TS->Option Int
 |.c (.int _ z)=>some z
 |_=>none
def jf7:List TS->Nat->Bool
 |[],_=>false
 |x::xs,off=>match Nat.blt off (Yb x)with
  |true=>match x with
   |.v ⟨.arr _ _,_⟩=>Nat.beq off 0
   |_=>false
  |false=>jf7 xs (off-Yb x)
def cstA(xs:List TS)(off:Nat)(i:TS):Option Int:=match jf7 xs off with
 |true=>none
 |false=>jaf i
theorem z7d{xs:List TS}{off:Nat}{i:TS}{z:Int}(h:cstA xs off i=some z):jaf i=some z:=by
 unfold cstA at h;split at h
 ·cases h
 ·exact h
def sIdx(es:Option Nat)(ar:Option (Nat×Nat))(G:EG)(x i:TS):Option SR:=vc (zeb i) λz=>match x with
 |.v ⟨.sl t,l⟩=>match oeq es (some (wid t))with
  |true=>some (.dat t.D (atL l z) (λy=> .rd ⟨t,y⟩) [])
  |false=>none
 |.rd ⟨.arr n t,a⟩=>match ar with
  |some (n',k)=>match Nat.beq n' n && Nat.beq k (wid t)with
   |true=>some (.dat t.D (atL a.l z) (λy=> .rd ⟨t,y⟩) [])
   |false=>none
  |none=>none
 |.own id ver=>match Nat.beq (G id).ver ver with
  |true=>match (G id).b with
   |some (.row _ t l)=>match oeq es (some (wid t))with
    |true=>some (.dat Int (qu l.length z) (λy=> .elt id (wid t) y 0 ver) [id])
    |false=>none
   |some (.rowx _ k xs)=>match oeq es (some k)with
    |true=>match jaf i with
     |some z=>match qu xs.length z with
      |some z=>some (.now (.pt id (z.toNat*k) ver) [id])
      |none=>none
     |none=>none
    |false=>none
   |_=>none
  |false=>none
 |.pt id off ver=>match Nat.beq (G id).ver ver with
  |true=>match (G id).b with
   |some (.box _ xs)=>match ar with
    |some (n,k)=>match cstA xs off i with
     |some z=>match qu n z with
      |some z=>some (.now (.pt id (off+z.toNat*k) ver) [id])
      |none=>none
     |none=>some (.dat Int (qu n z) (λy=> .elt id k y off ver) [id])
    |none=>none
   |_=>none
  |false=>none
 |_=>none
theorem zup{i:TS}{z z':Int}(h:jaf i=some z)(h':zeb i=some z'):z=z':=by
 unfold jaf at h;split at h
 ·cases h;simp only[zeb]at h';cases h';rfl
 ·cases h
theorem zbh{α:Type}(f:α->List PV)(k:Nat):∀(l:List α),(∀x∈l,(f x).length=k)->∀(j:Nat)(y:α),l[j]?=some y->∃rest,(l.flatMap f).drop (j*k)=f y++rest
 |[],_,j,y,h=>by simp at h
 |a::l,hl,0,y,h=>by
  simp at h;subst h;exact⟨l.flatMap f,by simp⟩
 |a::l,hl,j+1,y,h=>by
  obtain⟨rest,hr⟩:=zbh f k l (λx hx=>hl x (by simp[hx])) j y (by simpa using h);refine⟨rest,?_⟩;rw[wex,Nat.succ_mul,wf9,<- List.drop_drop,wgo (hl a (by simp))];exact hr
theorem jfb{t:Nat}{x i:Operand}{q:SR}(ho:o.op=.indexAddr t x i)(h:sIdx (esz P t) (arr P t) G (evE E x) (evE E i)=some q):SOk P o E G q:=by
 have hx':x∈o.op.operands:=by rw[ho];simp[Op.operands]
 have hi':i∈o.op.operands:=by rw[ho];simp[Op.operands]
 unfold sIdx at h;obtain⟨z,hz,h⟩:=jp h;obtain⟨kd,hk⟩:=Yo hz;have step:∀{rd W F H}{p r:PV},(evE E x).den=p->L.indexAddrP P H t p (.u (.int kd z))=some r->Agr o E G rd F H->PQ P W o F H r:=λ{rd W F H p r}h1 h2 hag=>by
  refine jh ?_;unfold jr;rw[ho];simp only;rw[hag.ev hx',hag.ev hi',h1,hk];exact h2
 split at h
 ·rename_i t' l hx;split at h<;>cases h;rename_i he;have he:=zi4 he;refine SOk.dat λy hy W F H hag=>?_;obtain⟨h0,hy⟩:=zgk hy;simp only[TS.den];refine step (p :=.sl (wid t') (l.map (enc t'))) (by rw[hx];simp only[TS.den];rfl) ?_ hag;unfold L.indexAddrP;simp only;rw[if_pos h0,if_pos he,web,hy];simp only[wer,enc_cells]
 ·rename_i n t' a hx;split at h<;>try (cases h;done)
  rename_i n' k har;split at h<;>cases h;rename_i hb;simp only[wd8]at hb;have e1:=wd9 hb.1;have e2:=wd9 hb.2;subst e1;subst e2;refine SOk.dat λy hy W F H hag=>?_;obtain⟨h0,hy⟩:=zgk hy;simp only[TS.den];have hlt:z.toNat<n':=by rw[<- a.h];exact(wd5.1 hy).1
  obtain⟨rest,hr⟩:=zbh (encC t') (wid t') a.l (λx _=>ju t' x) _ y hy;refine PQ.ref (step (p :=.rp (encC (.arr n' t') a)) (r :=.rp (encC t' y++rest)) (by rw[hx];simp only[TS.den]) ?_ hag) wct;unfold L.indexAddrP;simp only;rw[if_pos h0,har];simp only;rw[if_pos hlt];simp only[encC];rw[hr]
 ·rename_i id ver hx;split at h<;>try (cases h;done)
  rename_i hv;have hv:=wd9 hv;split at h
  ·rename_i tid t' l hb;split at h<;>cases h;rename_i he;have he:=zi4 he;refine SOk.dat λy hy W F H hag=>?_;obtain⟨h0,hlt,rfl⟩:=zl0 hy;refine(step (p :=.ps (2*id) ver) (by rw[hx];simp only[TS.den]) ?_ hag:PQ P W o F H (TS.elt id (wid t') y 0 ver).den);simp only[TS.den];unfold L.indexAddrP;simp only;rw[if_pos h0,yd (hag.h id (by simp)) hb rfl hv];simp only;rw[if_pos ⟨he,hlt⟩];rfl
  ·rename_i tid k xs hb;split at h<;>try (cases h;done)
   rename_i he;have he:=zi4 he;split at h<;>try (cases h;done)
   rename_i z1 hz1;have:=zup hz1 hz;subst this;split at h<;>cases h;rename_i z2 hz2;obtain⟨h0,hlt,rfl⟩:=zl0 hz2;refine SOk.now λW F H hag=>?_;refine(step (p :=.ps (2*id) ver) (by rw[hx];simp only[TS.den]) ?_ hag:PQ P W o F H (TS.pt id (z2.toNat*k) ver).den);simp only[TS.den];unfold L.indexAddrP;simp only;rw[if_pos h0,yd (hag.h id (by simp)) hb rfl hv];simp only;rw[if_pos ⟨he,hlt⟩]
  ·cases h
 ·rename_i id off ver hx;split at h<;>try (cases h;done)
  rename_i hv;have hv:=wd9 hv;split at h<;>try (cases h;done)
  rename_i tid xs hb;split at h<;>try (cases h;done)
  rename_i n k har;have key:∀{W F H}{y:Int},qu n z=some y->Agr o E G [id] F H->PQ P W o F H (.pp (2*id) (off+y.toNat*k) ver):=λ{W F H y}hy hag=>by
   obtain⟨h0,hlt,rfl⟩:=zl0 hy;refine step (p :=.pp (2*id) off ver) (by rw[hx];simp only[TS.den]) ?_ hag;unfold L.indexAddrP;simp only;rw[if_pos h0,har];simp only;rw[if_pos hlt,Jf (hag.h id (by simp)) hb hv];rfl
  split at h
  ·rename_i z1 hz1;have:=zup (z7d hz1) hz;subst this;split at h<;>cases h;rename_i z2 hz2;exact SOk.now λW F H hag=>by simp only[TS.den];exact key hz2 hag
  ·cases h;refine SOk.dat λy hy W F H hag=>?_;simp only[TS.den];rw[wf9];exact key hy hag
 ·cases h
end
def ldT(ag:Bool)(k off:Nat)(xs:List TS):Option TS:=match Vl 512 off xs with
 |none=>none
 |some q=>match Vl 512 k q.2 with
  |none=>none
  |some r=>match zam ag r.1 with
   |.dead=>none
   |s=>match ag ||Nat.beq k 1 with
    |true=>some s
    |false=>none
theorem zi6{ag:Bool}{k off:Nat}{xs:List TS}{s:TS}(h:ldT ag k off xs=some s):(∃p,qw ag k ((js xs).drop off)=some p/\Ref p s.den)/\∃rest,(js xs).drop off=s.den.cells++rest:=by
 unfold ldT at h;split at h<;>try (cases h;done)
 rename_i q hq;split at h<;>try (cases h;done)
 rename_i r hr;split at h<;>try (cases h;done)
 rename_i hnd;split at h<;>cases h;rename_i hk;obtain⟨a1,a2⟩:=Js _ _ _ _ hq;obtain⟨b1,b2⟩:=Js _ _ _ _ hr;have e:(js xs).drop off=js r.1++js r.2:=by rw[<- a1,wgo a2,b1]
 rw[e];refine⟨z5n b2 λha=>?_,js r.2,by rw[Ya hnd]⟩;rw[ha]at hk;exact wd9 (by simpa using hk)
section
variable{P:Program}{o:Oper}{E:EF}{G:EG}{rd:List Nat}{F:PFrame}{H:PHeap}{W:Env}
def sFld(fo k:Nat)(ag:Bool)(G:EG)(x:TS):Option SR:=match Nat.beq k 0 with
 |true=>none
 |false=>match x with
  |.rd d=>match ldT ag k fo [.v d]with
   |some (.v d')=>some (.now (.rd d') [])
   |_=>none
  |.pt id off ver=>match Nat.beq (G id).ver ver with
   |true=>match (G id).b with
    |some (.box _ _)=>some (.now (.pt id (off+fo) ver) [id])
    |some (.rowx _ _ _)=>some (.now (.pt id (off+fo) ver) [id])
    |_=>none
   |false=>none
  |.elt id w i off ver=>match Nat.beq (G id).ver ver with
   |true=>match (G id).b with
    |some (.box _ _)=>some (.now (.elt id w i (off+fo) ver) [id])
    |some (.row _ _ _)=>some (.now (.elt id w i (off+fo) ver) [id])
    |_=>none
   |false=>none
  |_=>none
theorem zbx{id ver:Nat}(hH:H (2*id)=qj (G id)){bd:BD}(hb:(G id).b=some bd)(hd:(∃t xs,bd=.box t xs)\/(∃t k xs,bd=.rowx t k xs)\/(∃t y l,bd=.row t y l))(hv:(G id).ver=ver):(jl H (2*id) ver).isSome=true:=by
 rcases hd with⟨t,xs,rfl⟩|⟨t,k,xs,rfl⟩|⟨t,y,l,rfl⟩
 ·rw[Jf hH hb hv];rfl
 ·rw[Qd hH hb rfl hv];rfl
 ·rw[Qd hH hb rfl hv];rfl
theorem jev{s f fo ft k:Nat}{ag:Bool}{x:Operand}{q:SR}(ho:o.op=.fieldAddr s x f)(hf:fof P s f=some (fo,ft))(ht:asz P ft=some (ag,k))(h:sFld fo k ag G (evE E x)=some q):SOk P o E G q:=by
 have hx':x∈o.op.operands:=by rw[ho];simp[Op.operands]
 have step:∀{rd W F H}{p r:PV},(evE E x).den=p->L.fieldAddrP P H s f p=some r->Agr o E G rd F H->PQ P W o F H r:=λ{rd W F H p r}h1 h2 hag=>by
  refine jh ?_;unfold jr;rw[ho];simp only;rw[hag.ev hx',h1];exact h2
 unfold sFld at h;split at h<;>try (cases h;done)
 rename_i hk0;have hk0:¬k=0:=λe=>by subst e;cases hk0
 have own:∀{W F H}{id oo ver:Nat},(evE E x).den=.pp (2*id) oo ver->(jl H (2*id) ver).isSome=true->Agr o E G [id] F H->PQ P W o F H (.pp (2*id) (oo+fo) ver):=λ{W F H id oo ver}h1 h2 hag=>by
  refine step (p :=.pp (2*id) oo ver) h1 ?_ hag;unfold L.fieldAddrP;rw[hf];simp only;rw[ht];simp only;rw[if_neg hk0];cases hl:jl H (2*id) ver with
  |none=>rw[hl]at h2;cases h2
  |some cs=>rfl
 split at h
 ·rename_i d hx;split at h<;>cases h;rename_i d' hd;obtain⟨_,rest,hr⟩:=zi6 hd;simp only[js,TS.den,enc_cells,weq]at hr;refine SOk.now λW F H hag=>?_;simp only[TS.den];refine PQ.ref (step (p :=.rp (encC d.t d.x)) (r :=.rp (encC d'.t d'.x++rest)) (by rw[hx];simp only[TS.den]) ?_ hag) wct;unfold L.fieldAddrP;rw[hf];simp only;rw[ht];simp only;rw[if_neg hk0,hr]
 ·rename_i id off ver hx;split at h<;>try (cases h;done)
  rename_i hv;have hv:=wd9 hv;split at h<;>cases h
  ·rename_i t xs hb;exact SOk.now λW F H hag=>by simp only[TS.den];exact own (by rw[hx];simp only[TS.den]) (zbx (hag.h id (by simp)) hb (.inl ⟨_,_,rfl⟩) hv) hag
  ·rename_i t w xs hb;exact SOk.now λW F H hag=>by simp only[TS.den];exact own (by rw[hx];simp only[TS.den]) (zbx (hag.h id (by simp)) hb (.inr (.inl ⟨_,_,_,rfl⟩)) hv) hag
 ·rename_i id w i off ver hx;split at h<;>try (cases h;done)
  rename_i hv;have hv:=wd9 hv;split at h<;>cases h
  ·rename_i t xs hb;exact SOk.now λW F H hag=>by simp only[TS.den];rw[<- wgj];exact own (by rw[hx];simp only[TS.den]) (zbx (hag.h id (by simp)) hb (.inl ⟨_,_,rfl⟩) hv) hag
  ·rename_i t y l hb;exact SOk.now λW F H hag=>by simp only[TS.den];rw[<- wgj];exact own (by rw[hx];simp only[TS.den]) (zbx (hag.h id (by simp)) hb (.inr (.inr ⟨_,_,_,rfl⟩)) hv) hag
 ·cases h
def zj3:List TS->Nat->Option (TS×Nat)
 |[],_=>none
 |x::xs,off=>match Nat.blt off (Yb x)with
  |true=>some (x,off)
  |false=>zj3 xs (off-Yb x)
theorem zz0:∀{xs:List TS}{off:Nat}{r:TS×Nat},zj3 xs off=some r->∃pre post,js xs=pre++r.1.den.cells++post/\pre.length+r.2=off/\r.2<Yb r.1
 |[],off,r,h=>by simp[zj3]at h
 |x::xs,off,r,h=>by
  simp only[zj3]at h;split at h
  ·rename_i hb;cases h;refine⟨[],js xs,by simp only[js,wfx],by simp,by simpa [wg1]using hb⟩
  ·rename_i hb;obtain⟨pre,post,h1,h2,h3⟩:=zz0 h;refine⟨x.den.cells++pre,post,by simp only[js,h1,weu],?_,h3⟩;have hl:=zg5 x;have:¬off<Yb x:=by
    intro hlt;have:Nat.blt off (Yb x)=true:=by simpa [wg1]using hlt
    rw[hb]at this;cases this
   rw[weo,hl];omega
def zr9(o:Option TS):TS:=match o with
 |some s=>s
 |none => .dead
def sLd(ag:Bool)(k:Nat)(G:EG)(x:TS):Option SR:=match x with
 |.rd d=>match ldT ag k 0 [.v d]with
  |some s=>some (.now s [])
  |none=>none
 |.pt id off ver=>match Nat.beq (G id).ver ver with
  |true=>match (G id).b with
   |some (.box _ xs)=>match ldT ag k off xs with
    |some s=>some (.now s [id])
    |none=>none
   |some (.rowx _ _ xs)=>match ldT ag k off xs with
    |some s=>some (.now s [id])
    |none=>none
   |_=>none
  |false=>none
 |.elt id w i off ver=>match Nat.beq (G id).ver ver with
  |true=>match (G id).b with
   |some (.row _ t l)=>match Nat.beq w (wid t) && (Nat.ble (off+k) w && (ag ||Nat.beq k 1))with
    |true=>some (.dat t.D (atL l i) (λy=>zr9 (ldT ag k off [.v ⟨t,y⟩])) [id])
    |false=>none
   |some (.box _ xs)=>match zj3 xs off with
    |some (.v ⟨.arr n t,a⟩,off')=>match Nat.beq w (wid t) && (Nat.ble (off'+k) w && (ag ||Nat.beq k 1))with
     |true=>some (.dat t.D (atL a.l i) (λy=>zr9 (ldT ag k off' [.v ⟨t,y⟩])) [id])
     |false=>none
    |_=>none
   |_=>none
  |false=>none
 |_=>none
theorem z7x{ag:Bool}{k:Nat}{cs ds:List PV}{p:PV}(h:qw ag k cs=some p):qw ag k (cs++ds)=some p:=by
 unfold qw at h⊢;cases ag with
 |true=>
  simp only[if_true]at h⊢;split at h<;>cases h;rename_i hk;rw[if_pos (by simp;omega),wgy hk]
 |false=>
  simp at h⊢;rw[weg (wd5.1 h).1];exact h
theorem z7y{ag:Bool}{k off:Nat}{t:Ty}{y:t.D}{cs rest:List PV}(hcs:cs=encC t y++rest)(hP:∃p,qw ag k (cs.drop off)=some p):∃p,qw ag k (cs.drop off)=some p/\Ref p (zr9 (ldT ag k off [.v ⟨t,y⟩])).den:=by
 unfold zr9;split
 ·rename_i s hs;obtain⟨⟨p,h1,h2⟩,rest',h3⟩:=zi6 hs;simp only[js,TS.den,enc_cells,weq]at h1 h3;refine⟨p,?_,h2⟩;rw[hcs];by_cases hle:off<=(encC t y).length
  ·rw[List.drop_append_of_le_length hle];exact z7x h1
  ·rw[List.drop_eq_nil_of_le (by omega)]at h1;unfold qw at h1;cases ag with
   |true=>
    simp only[if_true,wgp]at h1;split at h1
    ·rename_i hk;have:k=0:=by omega
     subst this;cases h1;unfold qw;simp
    ·cases h1
   |false=>simp at h1
 ·obtain⟨p,hp⟩:=hP;exact⟨p,hp,by simp only[TS.den];exact Ref.unk p⟩
theorem z78{ag:Bool}{k:Nat}{cs:List PV}(h:k<=cs.length)(hk:(ag ||Nat.beq k 1)=true):∃p,qw ag k cs=some p:=by
 unfold qw;cases ag with
 |true=>simp only[if_true];rw[if_pos h];exact⟨_,rfl⟩
 |false=>
  have:k=1:=wd9 (by simpa using hk);subst this;cases cs with
  |nil=>simp at h
  |cons c cs=>exact⟨c,by simp⟩
theorem zz3{ag:Bool}{k off i:Nat}{t:Ty}{l:List t.D}{y:t.D}(hy:l[i]?=some y)(hle:off+k<=wid t)(hk:(ag ||Nat.beq k 1)=true)(rest:List PV):∃p,qw ag k ((l.flatMap (encC t)++rest).drop (i*wid t+off))=some p/\Ref p (zr9 (ldT ag k off [.v ⟨t,y⟩])).den:=by
 obtain⟨r1,hr⟩:=zbh (encC t) (wid t) l (λx _=>ju t x) i y hy;have hlen:(l.flatMap (encC t)).length=l.length*wid t:=Jy _ _ _ λx _=>ju t x;have hi:=(wd5.1 hy).1;have hmul:i*wid t+wid t<=l.length*wid t:=by
  have:(i+1)*wid t<=l.length*wid t:=wgg _ hi;rwa [Nat.succ_mul]at this
 have e:(l.flatMap (encC t)++rest).drop (i*wid t)=encC t y++(r1++rest):=by
  rw[List.drop_append_of_le_length (by omega),hr,weu]
 rw[<- List.drop_drop,e];refine z7y rfl (z78 ?_ hk);rw[wfc,weo,ju];omega
theorem sLd_ok{t k:Nat}{ag:Bool}{x:Operand}{q:SR}(ho:o.op=.load t x)(ht:asz P t=some (ag,k))(h:sLd ag k G (evE E x)=some q):SOk P o E G q:=by
 have hx':x∈o.op.operands:=by rw[ho];simp[Op.operands]
 have step:∀{rd W F H}{p r:PV},(evE E x).den=p->yc P H t p=some r->Agr o E G rd F H->PQ P W o F H r:=λ{rd W F H p r}h1 h2 hag=>by
  refine jh ?_;unfold jr;rw[ho];simp only;rw[hag.ev hx',h1];exact h2
 have own:∀{W F H}{id oo ver:Nat}{cs:List PV}{s:TS},(evE E x).den=.pp (2*id) oo ver->jl H (2*id) ver=some cs->(∃p,qw ag k (cs.drop oo)=some p/\Ref p s.den)->Agr o E G [id] F H->PQ P W o F H s.den:=λ{W F H id oo ver cs s}h1 h2 h3 hag=>by
  obtain⟨p,hp,hr⟩:=h3;refine PQ.ref (step (p :=.pp (2*id) oo ver) (r:=p) h1 ?_ hag) hr;unfold yc;rw[ht];simp only;rw[h2];exact hp
 unfold sLd at h;split at h
 ·rename_i d hx;split at h<;>cases h;rename_i s hs;obtain⟨⟨p,h1,h2⟩,_⟩:=zi6 hs;simp only[js,TS.den,enc_cells,weq,wgn]at h1;refine SOk.now λW F H hag=>PQ.ref (step (p :=.rp (encC d.t d.x)) (r:=p) (by rw[hx];simp only[TS.den]) ?_ hag) h2;unfold yc;rw[ht];exact h1
 ·rename_i id off ver hx;split at h<;>try (cases h;done)
  rename_i hv;have hv:=wd9 hv;split at h<;>try (cases h;done)
  ·rename_i tt xs hb;split at h<;>cases h;rename_i s hs;exact SOk.now λW F H hag=>own (by rw[hx];simp only[TS.den]) (Jf (hag.h id (by simp)) hb hv) (zi6 hs).1 hag
  ·rename_i tt w xs hb;split at h<;>cases h;rename_i s hs;exact SOk.now λW F H hag=>own (by rw[hx];simp only[TS.den]) (Qd (hag.h id (by simp)) hb rfl hv) (zi6 hs).1 hag
 ·rename_i id w i off ver hx;split at h<;>try (cases h;done)
  rename_i hv;have hv:=wd9 hv;split at h<;>try (cases h;done)
  ·rename_i tt t' l hb;split at h<;>cases h;rename_i hc;simp only[wd8]at hc;have e:=wd9 hc.1;have hle:=wf1 hc.2.1;subst e;refine SOk.dat λy hy W F H hag=>?_;obtain⟨h0,hy⟩:=zgk hy;refine own (oo:=i.toNat*wid t'+off) (cs:=l.flatMap (encC t')) (by rw[hx];simp only[TS.den]) (Qd (hag.h id (by simp)) hb rfl hv) ?_ hag;have:=zz3 (ag:=ag) (k:=k) (off:=off) hy hle hc.2.2 [];simpa using this
  ·rename_i tt xs hb;split at h<;>try (cases h;done)
   rename_i n t' a off' har;split at h<;>cases h;rename_i hc;simp only[wd8]at hc;have e:=wd9 hc.1;have hle:=wf1 hc.2.1;subst e;refine SOk.dat λy hy W F H hag=>?_;obtain⟨h0,hy⟩:=zgk hy;obtain⟨pre,post,h1,h2,h3⟩:=zz0 har;simp only at h1 h2;refine own (oo:=i.toNat*wid t'+off) (cs:=js xs) (by rw[hx];simp only[TS.den]) (Jf (hag.h id (by simp)) hb hv) ?_ hag;simp only[TS.den,enc_cells,encC]at h1;have:=zz3 (ag:=ag) (k:=k) (off:=off') hy hle hc.2.2 post;rw[h1,show i.toNat*wid t'+off=pre.length+(i.toNat*wid t'+off') by omega,<- List.drop_drop,weu,wgo rfl];exact this
 ·cases h
def z11(s:TS):Option (List TS):=match s with
 |.v ⟨.arr n t,a⟩=>some [.v ⟨.arr n t,a⟩]
 |s=>za1 s
theorem z5t{s:TS}{xs:List TS}(h:z11 s=some xs):s.den=.agg (js xs):=by
 unfold z11 at h;split at h
 ·cases h;simp only[TS.den,js,weq,enc_cells];rfl
 ·exact zef h
def sFie(fo k:Nat)(ag:Bool)(x:TS):Option SR:=match z11 x with
 |some xs=>match ldT ag k fo xs with
  |some s=>some (.now s [])
  |none=>none
 |none=>none
theorem je4{t f fo ft k:Nat}{ag:Bool}{x:Operand}{q:SR}(ho:o.op=.field t x f)(hf:fof P t f=some (fo,ft))(ht:asz P ft=some (ag,k))(h:sFie fo k ag (evE E x)=some q):SOk P o E G q:=by
 have hx':x∈o.op.operands:=by rw[ho];simp[Op.operands]
 unfold sFie at h;split at h<;>try (cases h;done)
 rename_i xs hxs;split at h<;>cases h;rename_i s hs;obtain⟨⟨p,h1,h2⟩,_⟩:=zi6 hs;refine SOk.now λW F H hag=>PQ.ref (jh ?_) h2;unfold jr;rw[ho];simp only;rw[hag.ev hx',z5t hxs];unfold zxu;rw[hf];simp only;unfold zvd;rw[ht];exact h1
def zlz(s:List UInt8)(z:Int):Option Int:=match decide (0<=z)with
 |true=>(s[z.toNat]?).map λb=>(b.toNat:Int)
 |false=>none
def jf4(x i:TS):Option SR:=vc (zeb i) λz=>vc (Vv .str x) λs=>some (.vo (.int .u8) (zlz s z))
theorem z9w{t:TypeId}{x i:Operand}{q:SR}(ho:o.op=.index t x i)(ht:zap P t=true)(h:jf4 (evE E x) (evE E i)=some q):SOk P o E G q:=by
 have hx':x∈o.op.operands:=by rw[ho];simp[Op.operands]
 have hi':i∈o.op.operands:=by rw[ho];simp[Op.operands]
 obtain⟨z,hz,h⟩:=jp h;obtain⟨s,hs,h⟩:=jp h;cases h;obtain⟨kd,hk⟩:=Yo hz;refine SOk.vo λr hr W F H hag=>jh ?_;unfold zlz at hr;split at hr<;>try (cases hr;done)
 rename_i h0;have h0:=wd3 h0;obtain⟨b,hb,rfl⟩:=wee.1 hr;unfold jr;rw[ho];simp only;rw[hag.ev hx',hag.ev hi',zf hs,hk];show zio P t (.u (.string ⟨⟨s⟩⟩)) (.u (.int kd z))=_;unfold zio;simp only;rw[if_pos ht,if_pos h0];have:(⟨⟨s⟩⟩:ByteArray)[z.toNat]?=some b:=by
  have e:=(wd5.1 hb)
  obtain⟨e1,e2⟩:=e;have:z.toNat<(⟨⟨s⟩⟩:ByteArray).size:=e1;rw[getElem?_pos (⟨⟨s⟩⟩:ByteArray) z.toNat this];exact congrArg some e2
 rw[this];rfl
def bdL(d:Nat):Option TS->Option (Option Int)
 |none=>some none
 |some s=>match zeb s with
  |some z=>some (some z)
  |none=>none
def bdN(d:Nat):Option Int->Option Nat
 |none=>some d
 |some z=>match decide (0<=z)with
  |true=>some z.toNat
  |false=>none
def zhi{α:Type}(l:List α)(lo hi:Option Int):Option (List α):=match bdN 0 lo with
 |none=>none
 |some a=>match bdN l.length hi with
  |none=>none
  |some b=>match decide (a<=b) && decide (b<=l.length)with
   |true=>some ((l.take b).drop a)
   |false=>none
def sSli(es:Option Nat)(str:Bool)(x:TS)(lo hi:Option TS):Option SR:=vc (bdL 0 lo) λa=>vc (bdL 0 hi) λb=>match x with
 |.v ⟨.sl t,l⟩=>match oeq es (some (wid t))with
  |true=>some (.vo (.sl t) (zhi l a b))
  |false=>none
 |.v ⟨.str,s⟩=>match str with
  |true=>some (.vo .str (zhi s a b))
  |false=>none
 |_=>none
theorem zv5{d d':Nat}{lo:Option Operand}{F:PFrame}(hev:∀x,lo=some x->evP F x=(evE E x).den){a:Option Int}(h:bdL d (lo.map (evE E))=some a):zdd d' (lo.map (evP F))=bdN d' a:=by
 cases lo with
 |none=>simp only[Option.map_none,bdL]at h;cases h;rfl
 |some x=>
  simp only[wer,bdL]at h;split at h<;>cases h;rename_i z hz;obtain⟨k,hk⟩:=Yo hz;simp only[wer];rw[hev x rfl,hk];unfold zdd bdN;simp only;by_cases h0:0<=z
  ·rw[if_pos h0,wfb h0]
  ·rw[if_neg h0,wf5 h0]
theorem jet{t:TypeId}{x:Operand}{lo hi:Option Operand}{q:SR}(ho:o.op=.slice t x lo hi none)(h:sSli (esz P t) (zap P t) (evE E x) (lo.map (evE E)) (hi.map (evE E))=some q):SOk P o E G q:=by
 have hx':x∈o.op.operands:=by rw[ho];simp[Op.operands]
 have hl':∀y,lo=some y->y∈o.op.operands:=λy e=>by rw[ho];subst e;simp[Op.operands]
 have hh':∀y,hi=some y->y∈o.op.operands:=λy e=>by rw[ho];subst e;simp[Op.operands]
 obtain⟨a,ha,h⟩:=jp h;obtain⟨b,hb,h⟩:=jp h;split at h
 ·rename_i t' l hx;split at h<;>try (cases h;done)
  rename_i he;cases h;have he:=zi4 he;refine SOk.vo λr hr W F H hag=>jh ?_;unfold jr;rw[ho];simp only;rw[hag.ev hx',hx];simp only[TS.den];rw[zi5];unfold zeu;simp only;rw[zv5 (E:=E) (λy e=>hag.ev (hl' y e)) ha,zv5 (E:=E) (λy e=>hag.ev (hh' y e)) hb,wey];unfold zhi at hr;split at hr<;>try (cases hr;done)
  rename_i n1 h1;split at hr<;>try (cases hr;done)
  rename_i n2 h2;split at hr<;>cases hr;rename_i hc;simp only[wd8,wed]at hc;rw[h1,h2];simp only;rw[if_pos ⟨he,hc.1,hc.2⟩,zi5,List.map_drop,List.map_take]
 ·rename_i s hx;split at h<;>try (cases h;done)
  rename_i hst;cases h;refine SOk.vo λr hr W F H hag=>jh ?_;unfold jr;rw[ho];simp only;rw[hag.ev hx',hx];simp only[TS.den];show zeu P t (.u (.string ⟨⟨s⟩⟩)) _ _=_;unfold zeu;simp only;have hsz:(⟨⟨s⟩⟩:ByteArray).size=s.length:=rfl;rw[zv5 (E:=E) (λy e=>hag.ev (hl' y e)) ha,zv5 (E:=E) (λy e=>hag.ev (hh' y e)) hb,hsz];unfold zhi at hr;split at hr<;>try (cases hr;done)
  rename_i n1 h1;split at hr<;>try (cases hr;done)
  rename_i n2 h2;split at hr<;>cases hr;rename_i hc;simp only[wd8,wed]at hc;rw[h1,h2];simp only;rw[if_pos ⟨hst,hc.1,hc.2⟩];have:(⟨⟨s⟩⟩:ByteArray).extract n1 n2=⟨⟨(s.take n2).drop n1⟩⟩:=by
   apply ByteArray.ext;rw[ByteArray.data_extract];simp[List.extract_eq_take_drop,List.drop_take]
  rw[this];rfl
 ·cases h
end
def zu0(G:EG)(id ver:Nat):Bool:=match Nat.beq (G id).ver ver with
 |true=>match (G id).b with
  |some (.obj _ _)=>false
  |some _=>true
  |none=>false
 |false=>false
def je8(G:EG)(id ver:Nat):Bool:=match Nat.beq (G id).ver ver with
 |true=>match (G id).b with
  |some (.row _ _ _)=>true
  |some (.rowx _ _ _)=>true
  |_=>false
 |false=>false
def objB(G:EG)(id ver:Nat):Bool:=match Nat.beq (G id).ver ver with
 |true=>match (G id).b with
  |some (.obj _ _)=>true
  |_=>false
 |false=>false
mutual
def okT(G:EG):TS->Bool
 |.v d=>zct d.t
 |.c (.agg vs)=>vs.toList.all Value.oneCell'
 |.c v=>v.oneCell'
 |.own id ver=>je8 G id ver ||objB G id ver
 |.q id _ _ ver=>je8 G id ver
 |.pt id _ ver=>zu0 G id ver
 |.elt id _ _ _ ver=>zu0 G id ver
 |.rd _=>true
 |.fn _ _ _=>true
 |.agg xs=>z2w G xs
 |.dead=>false
 |.tup _=>false
def z2w(G:EG):List TS->Bool
 |[]=>true
 |x::xs=>okT G x && z2w G xs
end
mutual
def zhk:TS->List Nat
 |.own id _=>[id]
 |.q id _ _ _=>[id]
 |.pt id _ _=>[id]
 |.elt id _ _ _ _=>[id]
 |.agg xs=>zf9 xs
 |_=>[]
def zf9:List TS->List Nat
 |[]=>[]
 |x::xs=>zhk x++zf9 xs
end
section
variable{P:Program}{o:Oper}{E:EF}{G:EG}{rd:List Nat}{F:PFrame}{H:PHeap}{W:Env}
theorem zux{id ver:Nat}(h:je8 G id ver=true)(hH:H (2*id)=qj (G id)):(qm H (2*id) ver).isSome=true:=by
 unfold je8 at h;split at h<;>try (cases h;done)
 rename_i hv;have hv:=wd9 hv;split at h<;>try (cases h;done)
 ·rename_i hb;rw[yd hH hb rfl hv];rfl
 ·rename_i hb;rw[yd hH hb rfl hv];rfl
theorem z7r{id ver:Nat}(h:objB G id ver=true)(hH:H (2*id)=qj (G id)):zjp H (2*id) ver=true:=by
 unfold objB at h;split at h<;>try (cases h;done)
 rename_i hv;split at h<;>try (cases h;done)
 rename_i k x hb;obtain⟨p,φ,e⟩:=k.den_raw x;unfold zjp;rw[hH];simp only[qj,hb,wer,BD.den,e,hv]
theorem zfh{id ver:Nat}(h:zu0 G id ver=true)(hH:H (2*id)=qj (G id)):(jl H (2*id) ver).isSome=true:=by
 unfold zu0 at h;split at h<;>try (cases h;done)
 rename_i hv;have hv:=wd9 hv;split at h<;>try (cases h;done)
 rename_i bd hnm hb;cases bd with
 |obj k x=>exact absurd rfl (hnm k x)
 |row t y l=>exact zbx hH hb (.inr (.inr ⟨_,_,_,rfl⟩)) hv
 |rowx t k xs=>exact zbx hH hb (.inr (.inl ⟨_,_,_,rfl⟩)) hv
 |box t xs=>exact zbx hH hb (.inl ⟨_,_,rfl⟩) hv
mutual
theorem z0t:∀(s:TS),okT G s=true->(∀id∈zhk s,H (2*id)=qj (G id))->∀c∈s.den.cells,qh H c=true
 |.v d,h,hi,c,hc=>by
  simp only[okT]at h;simp only[TS.den,enc_cells]at hc;exact zbp _ _ H h c hc
 |.c v,h,hi,c,hc=>by
  simp only[TS.den]at hc;cases v with
  |agg vs=>
   simp only[okT,we0]at h;simp only[ofV,PV.cells]at hc;obtain⟨u,hu,rfl⟩:=wef.1 hc;exact h u hu
  |_=>simp only[okT]at h;simp only[ofV,PV.cells,wea]at hc;subst hc;exact h
 |.own id ver,h,hi,c,hc=>by
  simp only[okT,wft]at h;simp only[TS.den,PV.cells,wea]at hc;subst hc;simp only[qh,wft];rcases h with h|h
  ·exact .inl (zux h (hi id (by simp only[zhk,wea])))
  ·exact .inr (z7r h (hi id (by simp only[zhk,wea])))
 |.q id k off ver,h,hi,c,hc=>by
  simp only[okT]at h;simp only[TS.den,PV.cells,wea]at hc;subst hc;exact zux h (hi id (by simp only[zhk,wea]))
 |.pt id off ver,h,hi,c,hc=>by
  simp only[okT]at h;simp only[TS.den,PV.cells,wea]at hc;subst hc;exact zfh h (hi id (by simp only[zhk,wea]))
 |.elt id k i off ver,h,hi,c,hc=>by
  simp only[okT]at h;simp only[TS.den,PV.cells,wea]at hc;subst hc;exact zfh h (hi id (by simp only[zhk,wea]))
 |.rd d,h,hi,c,hc=>by simp only[TS.den,PV.cells,wea]at hc;subst hc;rfl
 |.fn f a b,h,hi,c,hc=>by simp only[TS.den,PV.cells,wea]at hc;subst hc;rfl
 |.agg xs,h,hi,c,hc=>by
  simp only[okT]at h;simp only[TS.den,PV.cells]at hc;exact zu6 xs h (by simpa only [zhk]using hi) c hc
 |.dead,h,hi,c,hc=>by simp[okT]at h
 |.tup _,h,hi,c,hc=>by simp[okT]at h
theorem zu6:∀(xs:List TS),z2w G xs=true->(∀id∈zf9 xs,H (2*id)=qj (G id))->∀c∈js xs,qh H c=true
 |[],h,hi,c,hc=>by simp[js]at hc
 |x::xs,h,hi,c,hc=>by
  simp only[z2w,wd8]at h;simp only[js,wej]at hc;simp only[zf9,wej]at hi;rcases hc with hc|hc
  ·exact z0t x h.1 (λid hid=>hi id (.inl hid)) c hc
  ·exact zu6 xs h.2 (λid hid=>hi id (.inr hid)) c hc
end
theorem okC_of{p:PV}(h:∀c∈p.cells,qh H c=true)(hn:(∃cs,p=.agg cs)\/p.cells=[p]):okC H p=true:=by
 rcases hn with⟨cs,rfl⟩|hn
 ·simp only[okC,we0];exact h
 ·have:=h p (by rw[hn];simp);cases p with
  |agg cs=>simp[qh]at this
  |_=>exact this
theorem zfa{s:TS}(h:okT G s=true)(hi:∀id∈zhk s,H (2*id)=qj (G id)):okC H s.den=true:=by
 refine okC_of (z0t s h hi) ?_;cases hs:Qx s
 ·exact .inr (Yf hs)
 ·exact .inl ⟨_,zbu hs⟩
abbrev ZT:=TypeId->Option (List TS)
def zdi(P:Program)(zt:ZT):Prop:=∀t xs,zt t=some xs->∃us,zfn P t=some us/\us.all Value.oneCell'=true/\RefL (us.map .u) (js xs)
def zo3(off k:Nat)(s:TS)(xs:List TS):Option (List TS):=match Vl 512 off xs with
 |none=>none
 |some q=>match Vl 512 k q.2 with
  |none=>none
  |some r=>match Nat.beq (Yb s) k with
   |true=>some (q.1++s::r.2)
   |false=>none
theorem zws{off k:Nat}{s:TS}{xs ys:List TS}(h:zo3 off k s xs=some ys):js ys=setMany (js xs) off s.den.cells/\off+k<=(js xs).length/\s.den.cells.length=k:=by
 unfold zo3 at h;split at h<;>try (cases h;done)
 rename_i q hq;split at h<;>try (cases h;done)
 rename_i r hr;split at h<;>cases h;rename_i hk;have hk:s.den.cells.length=k:=by rw[zg5];exact wd9 hk
 obtain⟨a1,a2⟩:=Js _ _ _ _ hq;obtain⟨b1,b2⟩:=Js _ _ _ _ hr;refine⟨?_,?_,hk⟩
 ·unfold setMany;rw[znk,<- a1,<- b1];simp only[js];rw[wg3 a2,<- weu,hk];congr 1;rw[<- weu,wgo (by rw[weo,a2,b2])]
 ·rw[<- a1,<- b1];simp only[weo,a2,b2];omega
def z1s(places:List (Nat×Nat)):List TS->List (Nat×TS)->Option (List TS)
 |xs,[]=>some xs
 |xs,(i,s)::r=>match places[i]? with
  |none=>none
  |some pl=>match zo3 pl.1 pl.2 s xs with
   |some ys=>z1s places ys r
   |none=>none
theorem RefL.setMany{cs ds:List PV}(h:RefL cs ds)(off:Nat)(ps:List PV):RefL (setMany cs off ps) (setMany ds off ps):=RefL.append (RefL.append (h.take off) (RefL.refl ps)) (h.drop _)
theorem z0a{places:List (Nat×Nat)}:∀(parts:List (Nat×TS))(xs ys:List TS)(cs:List PV),z1s places xs parts=some ys->RefL cs (js xs)->(∀p∈parts,okC H p.2.den=true)->∃r,Yy H places cs (parts.map λp=>(p.1,p.2.den))=some r/\RefL r (js ys)
 |[],xs,ys,cs,h,hr,_=>by simp only[z1s]at h;cases h;exact⟨cs,rfl,hr⟩
 |(i,s)::parts,xs,ys,cs,h,hr,ho=>by
  simp only[z1s]at h;split at h<;>try (cases h;done)
  rename_i pl hpl;split at h<;>try (cases h;done)
  rename_i zs hz;obtain⟨h1,h2,h3⟩:=zws hz;obtain⟨r,hr1,hr2⟩:=z0a parts zs ys (setMany cs pl.1 s.den.cells) h (by rw[h1];exact hr.setMany _ _) λp hp=>ho p (by simp[hp]);refine⟨r,?_,hr2⟩;obtain⟨off,size⟩:=pl;simp only[wen,Yy,hpl];rw[if_pos ⟨h3,by rw[hr.1];exact h2,ho (i,s) (by simp)⟩];exact hr1
def zj8(P:Program)(t:TypeId):Option (List (Nat×Nat)):=match P.underlying t with
 |some (.struct fs)=>fs.toList.mapM λf=>(P.info? f.type).map λi=>(f.offset,i.size)
 |some (.array m e)=>(P.info? e).map λi=>(List.range m).map λj=>(j*i.size,i.size)
 |_=>none
theorem jfl{t:TypeId}{us:List Value}{l:List (Nat×Nat)}(hz:zfn P t=some us)(hp:zj8 P t=some l):z0e P t=some (us.map .u,l):=by
 obtain⟨z,hz1,rfl⟩:=wee.1 hz;unfold z0e;rw[hz1];simp only;unfold zj8 at hp;split at hp
 ·rename_i fs hu;rw[hu];simp only;rw[hp];rfl
 ·rename_i m e hu;rw[hu];simp only;obtain⟨i,hi,rfl⟩:=wee.1 hp;rw[hi];rfl
 ·cases hp
def okPs(G:EG)(ps:List (Nat×TS)):Bool:=ps.all λp=>okT G p.2
def idsPs(ps:List (Nat×TS)):List Nat:=ps.flatMap λp=>zhk p.2
theorem z85(xs:List TS):(zam true xs).den=.agg (js xs):=by
 unfold zam;simp only;split
 ·rename_i x;split
  ·rename_i hx;simp only[js,weq];exact zbu hx
  ·simp only[TS.den]
 ·simp only[TS.den]
def aggA(a:Bool)(xs:List TS):TS:=match a with
 |true=>zam true xs
 |false => .agg xs
theorem jar(a:Bool)(xs:List TS):(aggA a xs).den=.agg (js xs):=by
 cases a
 ·simp only[aggA,TS.den]
 ·exact z85 xs
def sBld(zt:ZT)(isA:Bool)(places:Option (List (Nat×Nat)))(t:TypeId)(G:EG)(ps:List (Nat×TS)):Option SR:=match zt t with
 |none=>none
 |some xs=>match places with
  |none=>none
  |some l=>match okPs G ps with
   |true=>match z1s l xs ps with
    |some ys=>some (.now (aggA isA ys) (idsPs ps))
    |none=>none
   |false=>none
theorem je6{zt:ZT}{isA:Bool}(hzt:zdi P zt){t:TypeId}{parts:Array (Nat×Operand)}{q:SR}(ho:o.op=.build t parts)(h:sBld zt isA (zj8 P t) t G (parts.toList.map λx=>(x.1,evE E x.2))=some q):SOk P o E G q:=by
 have hx':∀x∈parts.toList,x.2∈o.op.operands:=λx hx=>by
  rw[ho];simp only[Op.operands,List.mem_toArray,wef];exact⟨x,hx,rfl⟩
 unfold sBld at h;split at h<;>try (cases h;done)
 rename_i xs hxs;split at h<;>try (cases h;done)
 rename_i l hl;split at h<;>try (cases h;done)
 rename_i hok;split at h<;>cases h;rename_i ys hys;obtain⟨us,hu1,hu2,hu3⟩:=hzt t xs hxs;refine SOk.now λW F H hag=>?_;have hoks:∀p∈(parts.toList.map λx=>(x.1,evE E x.2)),okC H p.2.den=true:=λp hp=>by
  refine zfa (we0.1 hok p hp) λid hid=>hag.h id ?_;exact wfe.2 ⟨p,hp,hid⟩
 obtain⟨r,hr1,hr2⟩:=z0a (H:=H) _ _ _ _ hys hu3 hoks;refine PQ.ref (p :=.agg r) (jh ?_) (by rw[jar];exact Ref.agg hr2);unfold jr;rw[ho];simp only;have e:(parts.toList.map λx=>(x.1,evP F x.2))=(parts.toList.map λx=>(x.1,evE E x.2)).map λp=>(p.1,p.2.den):=by
  rw[wff];exact we9 λx hx=>by simp only[Function.comp];rw[hag.ev (hx' x hx)]
 rw[e];unfold zm2;rw[jfl hu1 hl];simp only;have hz:(us.map PV.u).all (qh H)=true:=by
  rw[List.all_map];exact hu2
 rw[if_pos hz,hr1];rfl
theorem je2{f:Fn}{a b:Array Operand}(ho:o.op=.makeFunc f a b):SOk P o E G (.now (.fn f (a.toList.map (evE E)) (b.toList.map (evE E))) []):=SOk.now λW F H hag=>by
 refine jh ?_;unfold jr;rw[ho];simp only[TS.den];have ea:a.toList.map (evP F)=yk (a.toList.map (evE E)):=by
  rw[zb5,wff];exact we9 λx hx=>hag.ev (by rw[ho];simp only[Op.operands,Array.mem_append];exact .inl (by simpa using hx))
 have eb:b.toList.map (evP F)=yk (b.toList.map (evE E)):=by
  rw[zb5,wff];exact we9 λx hx=>hag.ev (by rw[ho];simp only[Op.operands,Array.mem_append];exact .inr (by simpa using hx))
 rw[ea,eb]
def z8a(G:EG)(x:TS):Option SR:=match x with
 |.rd d=>some (.now (.rd d) [])
 |.fn (.func g) a b=>some (.now (.fn (.func g) a b) [])
 |.pt id off ver=>match zu0 G id ver with
  |true=>some (.now (.pt id off ver) [id])
  |false=>none
 |.v ⟨.ref t,op⟩=>some (.dat t.D op (λy=> .rd ⟨t,y⟩) [])
 |_=>none
theorem z91{x:Operand}{q:SR}(ho:o.op=.nilCheck x)(h:z8a G (evE E x)=some q):SOk P o E G q:=by
 have hx':x∈o.op.operands:=by rw[ho];simp[Op.operands]
 have step:∀{rd W F H}{p r:PV},(evE E x).den=p->je1 H p=some r->Agr o E G rd F H->PQ P W o F H r:=λ{rd W F H p r}h1 h2 hag=>by
  refine jh ?_;unfold jr;rw[ho];simp only;rw[hag.ev hx',h1];exact h2
 unfold z8a at h;split at h
 ·rename_i d hx;cases h;exact SOk.now λW F H hag=>step (by rw[hx]) (by simp only[TS.den];rfl) hag
 ·rename_i g a b hx;cases h;exact SOk.now λW F H hag=>step (by rw[hx]) (by simp only[TS.den];rfl) hag
 ·rename_i id off ver hx;split at h<;>cases h;rename_i hl;refine SOk.now λW F H hag=>step (by rw[hx]) ?_ hag;simp only[TS.den,je1];cases hc:jl H (2*id) ver with
  |none=>have:=zfh hl (hag.h id (by simp));rw[hc]at this;cases this
  |some cs=>rfl
 ·rename_i t op hx;cases h;refine SOk.dat λy hy W F H hag=>?_;subst hy;refine step (by rw[hx]) ?_ hag;simp only[TS.den];rfl
 ·cases h
def z8y{α:Type}(l:List α):Option Bool:=match l with
 |[]=>none
 |_=>some false
def zje(op:BinOp)(b:Bool):Option Bool:=match op with
 |.eql=>some b
 |.neq=>some (!b)
 |_=>none
def z94(bd:Bool)(op:BinOp)(G:EG)(x:TS):Option SR:=match x with
 |.rd _=>match zje op false with
  |some b=>some (.now (.c (.bool b)) [])
  |none=>none
 |.c (.pointer none)=>match zje op true with
  |some b=>some (.now (.c (.bool b)) [])
  |none=>none
 |.pt id _ ver=>match zu0 G id ver with
  |true=>match zje op false with
   |some b=>some (.now (.c (.bool b)) [id])
   |none=>none
  |false=>none
 |.v ⟨.ref _,p⟩=>match zje op p.isNone with
  |some b=>some (.vx bd .bool b)
  |none=>none
 |_=>none
def ja3(op:BinOp)(x:TS):Option SR:=match x with
 |.c (.slice none _ _)=>match zje op true with
  |some b=>some (.now (.c (.bool b)) [])
  |none=>none
 |.v ⟨.sl _,l⟩=>match op with
  |.eql=>some (.vo .bool (z8y l))
  |.neq=>some (.vo .bool ((z8y l).map λb=>!b))
  |_=>none
 |_=>none
theorem z4x{op:BinOp}{b c:Bool}(h:zje op b=some c):zqm op (some b)=some (.u (.bool c)):=by
 unfold zje at h;split at h<;>cases h<;>rfl
theorem z8s{bd:Bool}{op:BinOp}{t t':Nat}{x:Operand}{q:SR}(ho:o.op=.binOp op t x (.const (.pointer none)) t')(ht:z4m P t=true)(h:z94 bd op G (evE E x)=some q):SOk P o E G q:=by
 have hx':x∈o.op.operands:=by rw[ho];simp[Op.operands]
 have step:∀{rd W F H}{p:PV}{b c:Bool},(evE E x).den=p->zlk H p=some b->zje op b=some c->Agr o E G rd F H->PQ P W o F H (.u (.bool c)):=λ{rd W F H p b c}h1 h2 h3 hag=>by
  refine jh ?_;unfold jr;rw[ho];simp only;unfold zwz;simp only;rw[if_pos ht,hag.ev hx',h1,h2];exact z4x h3
 unfold z94 at h;split at h
 ·rename_i d hx;split at h<;>cases h;rename_i b hb;exact SOk.now λW F H hag=>(step (p :=.rp (encC d.t d.x)) (by rw[hx];simp only[TS.den]) rfl hb hag:PQ P W o F H (.u (.bool b)))
 ·rename_i hx;split at h<;>cases h;rename_i b hb;exact SOk.now λW F H hag=>(step (p :=.u (.pointer none)) (by rw[hx];simp only[TS.den];rfl) rfl hb hag:PQ P W o F H (.u (.bool b)))
 ·rename_i id off ver hx;split at h<;>try (cases h;done)
  rename_i hl;split at h<;>cases h;rename_i b hb;refine SOk.now λW F H hag=>(step (p :=.pp (2*id) off ver) (by rw[hx];simp only[TS.den]) ?_ hb hag:PQ P W o F H (.u (.bool b)))
  simp only[zlk];cases hc:jl H (2*id) ver with
  |none=>have:=zfh hl (hag.h id (by simp));rw[hc]at this;cases this
  |some cs=>rfl
 ·rename_i t1 p hx;split at h<;>cases h;rename_i b hb;refine SOk.vx λW F H hag=>?_;cases p with
  |none=>exact step (p :=.u (.pointer none)) (by rw[hx];simp only[TS.den];rfl) rfl hb hag
  |some y=>exact step (p :=.rp (encC t1 y)) (by rw[hx];simp only[TS.den];rfl) rfl hb hag
 ·cases h
theorem z95{op:BinOp}{t t':Nat}{x:Operand}{q:SR}(ho:o.op=.binOp op t x (.const (.slice none 0 0)) t')(ht:y7 P t=true)(h:ja3 op (evE E x)=some q):SOk P o E G q:=by
 have hx':x∈o.op.operands:=by rw[ho];simp[Op.operands]
 have step:∀{rd W F H}{p:PV}{b c:Bool},(evE E x).den=p->zsg H p=some b->zje op b=some c->Agr o E G rd F H->PQ P W o F H (.u (.bool c)):=λ{rd W F H p b c}h1 h2 h3 hag=>by
  refine jh ?_;unfold jr;rw[ho];simp only;unfold zwz;simp only;rw[if_pos ht,hag.ev hx',h1,h2];exact z4x h3
 unfold ja3 at h;split at h
 ·rename_i n c hx;split at h<;>cases h;rename_i b hb;exact SOk.now λW F H hag=>(step (p :=.u (.slice none n c)) (by rw[hx];simp only[TS.den];rfl) rfl hb hag:PQ P W o F H (.u (.bool b)))
 ·rename_i t1 l hx;split at h<;>cases h
  ·refine SOk.vo λr hr W F H hag=>?_;cases l with
   |nil=>cases hr
   |cons y l=>cases hr;exact step (p :=.sl (wid t1) ((y::l).map (enc t1))) (by rw[hx];simp only[TS.den];rfl) rfl rfl hag
  ·refine SOk.vo λr hr W F H hag=>?_;cases l with
   |nil=>cases hr
   |cons y l=>cases hr;exact step (p :=.sl (wid t1) ((y::l).map (enc t1))) (by rw[hx];simp only[TS.den];rfl) rfl rfl hag
 ·cases h
theorem jfe{d:Nat}{t:TypeId}{A B:Array TypeId}{C:Bool}(hu:P.underlying t=some (.func A B C))(f:Fn)(va vb:Array Value)(w:World):(Op.equalIn (d+1) t (.func f va vb) .nilFunc).run P w=.ok false w:=by
 simp[Op.equalIn,run_underlying hu]
theorem jes{d:Nat}{t:TypeId}{A B:Array TypeId}{C:Bool}(hu:P.underlying t=some (.func A B C))(w:World):(Op.equalIn (d+1) t .nilFunc .nilFunc).run P w=.ok true w:=by
 simp[Op.equalIn,run_underlying hu]
theorem z0q{op:BinOp}{t:TypeId}{u v:Value}{b c:Bool}{w:World}(hg:∀x y,(eqGuard op t x y u v).run P w=.ok () w)(he:(Op.equal t u v).run P w=.ok b w)(hb:zje op b=some c)(h1:binOp .eql t u v=(do pure (.bool (<- Op.equal t u v))))(h2:binOp .neq t u v=(do pure (.bool !(<- Op.equal t u v))))(x y:Operand):
  (do eqGuard op t x y u v;binOp op t u v:Sem Value).run P w=.ok (.bool c) w:=by
 unfold zje at hb;split at hb<;>cases hb
 ·simp[Sem.run_bind,hg,h1,he]
 ·simp[Sem.run_bind,hg,h2,he]
theorem wda{op:BinOp}{t t':TypeId}{x:Operand}{b c:Bool}(ho:o.op=.binOp op t x (.const .nilFunc) t'){A B:Array TypeId}{C:Bool}(hu:P.underlying t=some (.func A B C))(hp:(∃f a d,evP F x=.fn f a d/\b=false)\/(evP F x=.u .nilFunc/\b=true))(hb:zje op b=some c):PQ P W o F H (.u (.bool c)):=wae λV ac w hw hh=>by
 have h1:=hh x (by rw[ho];simp[Op.operands]);have hv:(b=false/\∃f va vb,ac.eval x=.func f va vb)\/(b=true/\ac.eval x=.nilFunc):=by
  rcases hp with⟨f,a,d,e,rfl⟩|⟨e,rfl⟩
  ·rw[e]at h1;generalize ac.eval x=v at h1;cases h1 with
   |fn _ _ _ va vb=>exact .inl ⟨rfl,f,va,vb,rfl⟩
  ·rw[e]at h1;generalize ac.eval x=v at h1;cases h1;exact .inr ⟨rfl,rfl⟩
 refine⟨.bool c,?_,.u _⟩;have hy:ac.eval (.const .nilFunc)=.nilFunc:=rfl;have hex:execOp ac.eval o=Next.value <$> (do eqGuard op t x (.const .nilFunc) (ac.eval x) .nilFunc;binOp op t (ac.eval x) .nilFunc:Sem Value):=by
  unfold execOp;rw[ho];simp[hy]
 rw[hex];have key:(do eqGuard op t x (.const .nilFunc) (ac.eval x) .nilFunc;binOp op t (ac.eval x) .nilFunc:Sem Value).run P w=.ok (.bool c) w:=by
  rcases hv with⟨rfl,f,va,vb,e⟩|⟨rfl,e⟩
  ·rw[e];exact z0q (λx y=>by cases op<;>rfl) (jfe (d:=9999) hu f va vb w) hb rfl rfl x _
  ·rw[e];exact z0q (λx y=>by cases op<;>rfl) (jes (d:=9999) hu w) hb rfl rfl x _
 rw[Sem.run_map,key];rfl
end
inductive BRef:PBody->PBody->Prop
 |row {t:TypeId}{k n:Nat}{cs ds:List PV}(h:RefL cs ds):BRef (.row t k n cs) (.row t k n ds)
 |box {t:TypeId}{cs ds:List PV}(h:RefL cs ds):BRef (.box t cs) (.box t ds)
section
variable{P:Program}{o:Oper}{E:EF}{G:EG}{rd:List Nat}{F:PFrame}{H:PHeap}{W:Env}{n:Nat}
theorem wdq{Z:ZM}{H:PHeap}{V:Nat->Value}{w:World}{id ver:Nat}{bd bd':PBody}{p:PV}{v:Value}(h:Rp Z (H.set id ⟨ver,some bd⟩) V w p v):Rp Z (H.set id ⟨ver,some bd'⟩) V w p v:=by
 have hs:∀i,((H.set id ⟨ver,some bd⟩) i).ver=((H.set id ⟨ver,some bd'⟩) i).ver/\((H.set id ⟨ver,some bd⟩) i).body.isSome=((H.set id ⟨ver,some bd'⟩) i).body.isSome:=λi=>by
  unfold PHeap.set;by_cases e:i=id
  ·simp[e]
  ·simp[e]
 refine h.mono (λb hb hlt=>⟨?_,hlt,rfl⟩) (weh _) (λi=>by rw[(hs i).1];exact weh _) (λi ver _ h1 h2=>⟨by rw[(hs i).2];exact h1,by rw[(hs i).1];exact h2,rfl⟩);rintro(hz|⟨i,h1,h2⟩)
 ·exact hb (.inl hz)
 ·exact hb (.inr ⟨i,by rw[(hs i).2];exact h1,h2⟩)
theorem wc9{V:Nat->Value}{a:Act}{w:World}{id ver:Nat}{bd bd':PBody}(hb:BRef bd bd')(hr:Rel P W n F (H.set id ⟨ver,some bd⟩) V a w):Rel P W n F (H.set id ⟨ver,some bd'⟩) V a w:=by
 have hh:=hr.heap;have hs:∀i,((H.set id ⟨ver,some bd⟩) i).body.isSome=((H.set id ⟨ver,some bd'⟩) i).body.isSome:=λi=>by
  unfold PHeap.set;by_cases e:i=id
  ·simp[e]
  ·simp[e]
 have tr:∀{p v},Rp W.Z (H.set id ⟨ver,some bd⟩) V w p v->Rp W.Z (H.set id ⟨ver,some bd'⟩) V w p v:=λh=>wdq h;have trL:∀{ps vs},RpL W.Z (H.set id ⟨ver,some bd⟩) V w ps vs->RpL W.Z (H.set id ⟨ver,some bd'⟩) V w ps vs:=λh=>h.mono λp v=>tr;refine⟨⟨hh.below,λi t k m cs hbd=>?_,λi t cs hbd=>?_,λi p cs φ hbd=>?_,λi=>tr (hh.ghost i),λi j g h1 h2=>hh.apart i j g (by rw[hs];exact h1) (by rw[hs];exact h2),hh.zlt,λi b h1=>hh.nz i b (by rw[hs];exact h1)⟩,hr.size,hr.defers,λt=>tr (hr.slot t)⟩
 ·by_cases e:i=id
  ·subst e;simp only[PHeap.set,if_true,we6]at hbd;subst hbd;cases hb with
   | @row _ _ _ cs0 _ h=>
    obtain⟨vals,ho,hc,h1⟩:=hh.row i t k m cs0 (by simp[PHeap.set]);exact⟨vals,ho,h.rpL (trL hc),h1⟩
  ·have:(H.set id ⟨ver,some bd⟩ i).body=some (.row t k m cs):=by simpa [PHeap.set,e]using hbd
   obtain⟨vals,ho,hc,h1⟩:=hh.row i t k m cs this;exact⟨vals,ho,trL hc,h1⟩
 ·by_cases e:i=id
  ·subst e;simp only[PHeap.set,if_true,we6]at hbd;subst hbd;cases hb with
   | @box _ cs0 _ h=>
    obtain⟨g,arr,e1,e2,e3,hc,h1⟩:=hh.box i t cs0 (by simp[PHeap.set]);exact⟨g,arr,e1,e2,e3,h.rpL (trL hc),h1⟩
  ·have:(H.set id ⟨ver,some bd⟩ i).body=some (.box t cs):=by simpa [PHeap.set,e]using hbd
   obtain⟨g,arr,e1,e2,e3,hc,h1⟩:=hh.box i t cs this;exact⟨g,arr,e1,e2,e3,trL hc,h1⟩
 ·by_cases e:i=id
  ·subst e;simp only[PHeap.set,if_true,we6]at hbd;subst hbd;cases hb
  ·have:(H.set id ⟨ver,some bd⟩ i).body=some (.raw p cs φ):=by simpa [PHeap.set,e]using hbd
   obtain⟨g,o,vs,e1,e2,e3,h1,hc⟩:=hh.map i p cs φ this;exact⟨g,o,vs,e1,e2,e3,h1,trL hc⟩
theorem wbo{p0 q0:PV}{id ver:Nat}{bd bd':PBody}(hb:BRef bd bd')(hp:Ref p0 q0)(hd:jo n o)(h:PE P W n o F H (λp H'=>p=p0/\H'=H.set id ⟨ver,some bd⟩)):PE P W n o F H (λp H'=>p=q0/\H'=H.set id ⟨ver,some bd'⟩):=λV a w hr=>
 Oper.wp_mono (λa' w'⟨p,H',V',⟨e1,e2⟩,hr'⟩=>by
  subst e1;subst e2;have:=wc9 hb hr';refine⟨q0,_,V',⟨rfl,rfl⟩,this.heap,this.size,this.defers,λt=>?_⟩;have hs:=this.slot t;unfold PFrame.put at hs⊢;split
  ·rename_i e;rw[if_pos e]at hs;exact hp _ _ _ _ _ hs
  ·rename_i e;rw[if_neg e]at hs;exact hs) (h V a w hr)
theorem wcw{F':PFrame}{p:PV}(h:PQ P W o F' H p)(hr:∀t,Operand.tmp t∈o.op.operands->Ref (F t) (F' t)):PQ P W o F H p:=λV a w hh hs=>
 h V a w hh λt ht=>hr t ht _ _ _ _ _ (hs t ht)
def zte(ty:Ty)(E:EF)(F:PFrame):PFrame:=λt=>match toT ty (E t)with
 |some v=>enc ty v
 |none=>F t
theorem z07{ty:Ty}(hag:Agr o E G rd F H):∀t,Operand.tmp t∈o.op.operands->Ref (F t) (zte ty E F t):=λt ht=>by
 unfold zte;split
 ·rename_i v hv;rw[hag.f t ht];exact(zaz _ _ _ hv).2
 ·exact Ref.refl _
def zun(ty:Ty)(E:EF):Operand->Option ty.D
 |.tmp t=>toT ty (E t)
 |_=>none
theorem zkc{ty:Ty}{x:Operand}{v:ty.D}(h:zun ty E x=some v):evP (zte ty E F) x=enc ty v:=by
 unfold zun at h;split at h
 ·simp only[evP,zte,h]
 ·cases h
def zhu:(t:Ty)->t.D->Option (List Value)
 |.int k,z=>some [.int k z]
 |.bool,b=>some [.bool b]
 |.str,s=>some [.string ⟨⟨s⟩⟩]
 |.nil,_=>some []
 |.cons a r,x=>match zhu a x.1 with
  |none=>none
  |some l=>match zhu r x.2 with
   |none=>none
   |some m=>some (l++m)
 |.st r,x=>zhu r x
 |_,_=>none
theorem zkq:∀(t:Ty)(x:t.D)(l:List Value),zhu t x=some l->encC t x=l.map .u
 |.int _,_,l,h=>by simp only[zhu]at h;cases h;rfl
 |.bool,_,l,h=>by simp only[zhu]at h;cases h;rfl
 |.str,_,l,h=>by simp only[zhu]at h;cases h;rfl
 |.nil,_,l,h=>by simp only[zhu]at h;cases h;rfl
 |.cons a r,x,l,h=>by
  simp only[zhu]at h;split at h<;>try (cases h;done)
  rename_i l1 h1;split at h<;>cases h;rename_i l2 h2;simp only[encC,zkq a _ _ h1,zkq r _ _ h2,wfl]
 |.st r,x,l,h=>by simp only[zhu]at h;simp only[encC];exact zkq r x l h
 |.sl _,_,l,h=>by simp[zhu]at h
 |.ref _,_,l,h=>by simp[zhu]at h
 |.arr _ _,_,l,h=>by simp[zhu]at h
 |.tup _,_,l,h=>by simp[zhu]at h
def z7h(l:List Bool):Bool:=l.all λb=>b
def jcw(op:BinOp)(b:Bool):Option Bool:=match op with
 |.eql=>some b
 |.neq=>some (!b)
 |_=>none
def sEqS(bd:Bool)(es:Array Value->Array Value->Option (List Bool))(gt:Bool)(op:BinOp)(r:Ty)(E:EF)(x y:Operand):Option SR:=match gt with
 |true=>none
 |false=>vc (zun (.st r) E x) λa=>vc (zun (.st r) E y) λb=>vc (zhu (.st r) a) λxs=>vc (zhu (.st r) b) λys=>vc (es xs.toArray ys.toArray) λl=>vc (jcw op (z7h l)) λc=>some (.vx bd .bool c)
theorem zc1(l:List Value):(l.map PV.u).mapM zuc=some l:=by
 induction l with
 |nil=>rfl
 |cons v l ih=>rw[wen,wgl,ih];rfl
theorem jef{bd:Bool}{op:BinOp}{r:Ty}{t t':Nat}{x y:Operand}{q:SR}{d:Tmp}(ho:o.op=.binOp op t x y t')(h:sEqS bd (eqS P t) (P.eqGuardType P.depth t) op r E x y=some q):SOk P o E G q:=by
 unfold sEqS at h;split at h
 ·cases h
 rename_i hg;obtain⟨a,ha,h⟩:=jp h;obtain⟨b,hb,h⟩:=jp h;obtain⟨xs,hxs,h⟩:=jp h;obtain⟨ys,hys,h⟩:=jp h;obtain⟨l,hl,h⟩:=jp h;obtain⟨c,hc,h⟩:=jp h;cases h;refine SOk.vx λW F H hag=>?_;refine wcw (F':=zte (.st r) E F) (wae λV ac w hw hh=>?_) (z07 hag);have e1:evP (zte (.st r) E F) x=.agg (xs.map .u):=by rw[zkc ha];unfold enc mkV;simp only[Qr];rw[zkq _ _ _ hxs]
 have e2:evP (zte (.st r) E F) y=.agg (ys.map .u):=by rw[zkc hb];unfold enc mkV;simp only[Qr];rw[zkq _ _ _ hys]
 have h1:=(hh x (by rw[ho];simp[Op.operands])).val2 (u :=.agg xs.toArray) (by rw[e1];simp only[PV.val2,zc1];rfl);have h2:=(hh y (by rw[ho];simp[Op.operands])).val2 (u :=.agg ys.toArray) (by rw[e2];simp only[PV.val2,zc1];rfl);have h4:(Op.equal t (.agg xs.toArray) (.agg ys.toArray)).run P w=.ok (l.all id) w:=z5i hl w 9998;have e3:z7h l=l.all id:=rfl;unfold jcw at hc;split at hc<;>cases hc
 ·have h3:=run_eqGuard_agg (P:=P) (w:=w) .eql t x y xs.toArray ys.toArray hg;exact⟨_,by simp only[execOp,ho,h1,h2];simp[Sem.run_bind,h3,binOp,h4];rfl,.u _⟩
 ·have h3:=run_eqGuard_agg (P:=P) (w:=w) .neq t x y xs.toArray ys.toArray hg;exact⟨_,by simp only[execOp,ho,h1,h2];simp[Sem.run_bind,h3,binOp,h4];rfl,.u _⟩
def sEqA(bd:Bool)(gt:Bool)(op:BinOp)(n:Nat)(k:IntKind)(E:EF)(x y:Operand):Option SR:=match gt with
 |true=>none
 |false=>vc (zun (.arr n (.int k)) E x) λa=>vc (zun (.arr n (.int k)) E y) λb=>vc (jcw op (a.l == b.l)) λc=>some (.vx bd .bool c)
theorem zqe(k:IntKind):∀l:List Int,l.flatMap (encC (.int k))=(l.map (Value.int k)).map .u
 |[]=>rfl
 |a::l=>by rw[wex,zqe k l];rfl
theorem jdr{bd:Bool}{op:BinOp}{e n:Nat}{k:IntKind}{t t':Nat}{x y:Operand}{q:SR}(ho:o.op=.binOp op t x y t')(hu:P.underlying t=some (.array n e))(hD:P.underlying e=some (.int k))(hs:asz P e=some (false,1))(h:sEqA bd (P.eqGuardType P.depth t) op n k E x y=some q):SOk P o E G q:=by
 unfold sEqA at h;split at h
 ·cases h
 rename_i hg;obtain⟨a,ha,h⟩:=jp h;obtain⟨b,hb,h⟩:=jp h;obtain⟨c,hc,h⟩:=jp h;cases h;refine SOk.vx λW F H hag=>?_;refine wcw (F':=zte (.arr n (.int k)) E F) (wae λV ac w hw hh=>?_) (z07 hag);have e1:evP (zte (.arr n (.int k)) E F) x=.agg ((a.l.map (Value.int k)).map .u):=by rw[zkc ha];unfold enc mkV;simp only[Qr];show PV.agg (List.flatMap (encC (.int k)) _)=_;rw[zqe]
 have e2:evP (zte (.arr n (.int k)) E F) y=.agg ((b.l.map (Value.int k)).map .u):=by rw[zkc hb];unfold enc mkV;simp only[Qr];show PV.agg (List.flatMap (encC (.int k)) _)=_;rw[zqe]
 have h1:=(hh x (by rw[ho];simp[Op.operands])).val2 (u :=.agg (a.l.map (Value.int k)).toArray) (by rw[e1];simp only[PV.val2,zc1];rfl);have h2:=(hh y (by rw[ho];simp[Op.operands])).val2 (u :=.agg (b.l.map (Value.int k)).toArray) (by rw[e2];simp only[PV.val2,zc1];rfl);have h4:=jbc hu hD (λw=>(zgx hs w).2) ⟨a.l,a.h⟩ ⟨b.l,b.h⟩ w;simp only at h4;unfold jcw at hc;split at hc<;>cases hc
 ·have h3:=run_eqGuard_agg (P:=P) (w:=w) .eql t x y (a.l.map (Value.int k)).toArray (b.l.map (Value.int k)).toArray hg;exact⟨_,by simp only[execOp,ho,h1,h2];simp[Sem.run_bind,h3,binOp,h4],.u _⟩
 ·have h3:=run_eqGuard_agg (P:=P) (w:=w) .neq t x y (a.l.map (Value.int k)).toArray (b.l.map (Value.int k)).toArray hg;exact⟨_,by simp only[execOp,ho,h1,h2];simp[Sem.run_bind,h3,binOp,h4],.u _⟩
theorem jbn{t:Array TypeId}{ty:TypeId}{k:IntKind}{a b:Int}:zw7 P .min t ty [.u (.int k a),.u (.int k b)]=some (.u (.int k (min a b))):=by
 simp[zw7,PV.val2,Builtin.min_,Builtin.min2,qk,ofV];split<;>omega
theorem z8j{t:Array TypeId}{ty:TypeId}{k:IntKind}{a b:Int}:zw7 P .max t ty [.u (.int k a),.u (.int k b)]=some (.u (.int k (max a b))):=by
 simp[zw7,PV.val2,Builtin.max_,Builtin.max2,qk,ofV];split<;>omega
def jcy(bd:Bool)(mx:Bool)(x y:TS):Option SR:=match x with
 |.v ⟨.int k,a⟩=>vc (Vv (.int k) y) λb=>some (.vx bd (.int k) (cond mx (max a b) (min a b)))
 |.c (.int k a)=>vc (Vv (.int k) y) λb=>some (.vx bd (.int k) (cond mx (max a b) (min a b)))
 |_=>none
theorem z4o{bd mx:Bool}{x y:Operand}{ts:Array TypeId}{q:SR}(ho:o.op=.call { callee :=.builtin (cond mx .max .min),args:=#[x,y],argTypes:=ts })(h:jcy bd mx (evE E x) (evE E y)=some q):SOk P o E G q:=by
 have hx':x∈o.op.operands:=by rw[ho];simp[Op.operands,Call.operands]
 have hy':y∈o.op.operands:=by rw[ho];simp[Op.operands,Call.operands]
 have key:∀{k:IntKind}{a b:Int},(evE E x).den=.u (.int k a)->Vv (.int k) (evE E y)=some b->SOk P o E G (.vx bd (.int k) (cond mx (max a b) (min a b))):=λ{k a b}h1 h2=>by
  refine SOk.vx λW F H hag=>jh ?_;unfold jr;rw[ho];have e1:=hag.ev hx';have e2:=hag.ev hy';rw[h1]at e1;rw[zf h2]at e2;cases mx with
  |true=>
   show zw7 P .max ts o.type [evP F x,evP F y]=_;rw[e1,e2];exact z8j
  |false=>
   show zw7 P .min ts o.type [evP F x,evP F y]=_;rw[e1,e2];exact jbn
 unfold jcy at h;split at h
 ·rename_i k a hx;obtain⟨b,hb,h⟩:=jp h;cases h;exact key (by rw[hx];simp only[TS.den];rfl) hb
 ·rename_i k a hx;obtain⟨b,hb,h⟩:=jp h;cases h;exact key (by rw[hx];simp only[TS.den];rfl) hb
 ·cases h
end
def SR.mem(s:TS)(id:Nat)(x:GB)(rd:List Nat):SR:=⟨Unit,true,some (),λ_=>s,λ_=>[(id,x)],rd,[id]⟩
def SR.memO(α:Type)(op:Option α)(s:TS)(id:Nat)(x:α->GB)(rd:List Nat):SR:=⟨α,false,op,λ_=>s,λy=>[(id,x y)],rd,[id]⟩
section
variable{P:Program}{o:Oper}{E:EF}{G:EG}{rd:List Nat}{F:PFrame}{H:PHeap}{W:Env}{n:Nat}
theorem SOk.mem{s:TS}{id:Nat}{x:GB}(h:∀W n F H,jo n o->Agr o E G (id::rd) F H->PE P W n o F H (λp H'=>p=s.den/\H'=H.set (2*id) (qj x))):SOk P o E G (.mem s id x rd):=
 ⟨λ_=>rfl,λy hy W n F H hfl hd hF hH=>h W n F H hd ⟨hF,λi hi=>by
  rcases wep.1 hi with rfl|hi
  ·exact hH i (.inr (by simp[SR.mem]))
  ·exact hH i (.inl hi)⟩⟩
theorem SOk.memO{α:Type}{op:Option α}{s:TS}{id:Nat}{x:α->GB}(h:∀y,op=some y->∀W n F H,jo n o->Agr o E G (id::rd) F H->PE P W n o F H (λp H'=>p=s.den/\H'=H.set (2*id) (qj (x y)))):SOk P o E G (.memO α op s id x rd):=
 ⟨λ_=>rfl,λy hy W n F H hfl hd hF hH=>h y hy W n F H hd ⟨hF,λi hi=>by
  rcases wep.1 hi with rfl|hi
  ·exact hH i (.inr (by simp[SR.memO]))
  ·exact hH i (.inl hi)⟩⟩
def nv(G:EG)(id:Nat):Nat:=(G id).ver+1
theorem zqi{id:Nat}(hag:Agr o E G (id::rd) F H):(H (2*id)).ver+1=nv G id:=by rw[hag.h id (by simp)];rfl
def Vf(o:Oper):Bool:=match o.dst with
 |some _=>true
 |none=>false
theorem J0{o:Oper}(h:Vf o=true):∃d,o.dst=some d:=by
 unfold Vf at h;split at h
 ·exact⟨_,by assumption⟩
 ·cases h
def z2q(zt:ZT)(t:TypeId)(o:Oper)(G:EG)(id:Nat):Option SR:=match Vf o with
 |true=>match zt t with
  |some xs=>some (.mem (.pt id 0 (nv G id)) id ⟨nv G id,some (.box t xs)⟩ [])
  |none=>none
 |false=>none
theorem z6l{zt:ZT}(hzt:zdi P zt){t:TypeId}{id:Nat}{q:SR}(ho:o.op=.alloc t)(h:z2q zt t o G id=some q):SOk P o E G q:=by
 unfold z2q at h;split at h<;>try (cases h;done)
 rename_i hd;obtain⟨d,hd⟩:=J0 hd;split at h<;>cases h;rename_i xs hxs;obtain⟨us,hu1,hu2,hu3⟩:=hzt t xs hxs;refine SOk.mem λW n F H hdo hag=>?_;refine wbo (p0 :=.pp (2*id) 0 (nv G id)) (.box hu3) (by simp only[TS.den];exact Ref.refl _) hdo (PE.alloc (id:=2*id) ho hd (hdo d hd) hu1 hu2 ?_);rw[zqi hag];exact⟨rfl,rfl⟩
def sBox(t:TypeId)(o:Oper)(G:EG)(id:Nat)(x:TS):Option SR:=match Vf o && okT G x with
 |true=>some (.mem (.pt id 0 (nv G id)) id ⟨nv G id,some (.box t [x])⟩ (zhk x))
 |false=>none
theorem jdx{t:TypeId}{x:Operand}{id:Nat}{q:SR}(ho:o.op=.box t x)(h:sBox t o G id (evE E x)=some q):SOk P o E G q:=by
 have hx':x∈o.op.operands:=by rw[ho];simp[Op.operands]
 unfold sBox at h;split at h<;>cases h;rename_i hc;simp only[wd8]at hc;obtain⟨d,hd⟩:=J0 hc.1;refine SOk.mem λW n F H hdo hag=>?_;have hev:=hag.ev hx';refine PE.box (id:=2*id) ho hd (hdo d hd) (by rw[hev];exact zfa hc.2 λi hi=>hag.h i (by simp[hi])) ?_;rw[zqi hag,hev];refine⟨by simp only[TS.den],?_⟩;simp only[qj,wer,BD.den,js,weq]
def Yc{α:Type}(l:List α)(i:Int)(y:α):Option (List α):=match decide (0<=i)with
 |true=>match decide (i.toNat<l.length)with
  |true=>some (l.set i.toNat y)
  |false=>none
 |false=>none
def jei:List TS->Nat->TS->Option (List TS)
 |[],_,_=>none
 |x::xs,off,s=>match Nat.blt off (Yb x)with
  |true=>some (s::xs)
  |false=>match jei xs (off-Yb x) s with
   |some ys=>some (x::ys)
   |none=>none
def zsu{n:Nat}{α:Type}(a:Arr n α)(i:Int)(y:α):Option (Arr n α):=match decide (0<=i)with
 |true=>match decide (i.toNat<n)with
  |true=>some ⟨a.l.set i.toNat y,by rw[wfz,a.h]⟩
  |false=>none
 |false=>none
def sSto(ag:Bool)(k:Nat)(G:EG)(x y:TS):Option SR:=match okT G y with
 |false=>none
 |true=>match x with
  |.pt id off ver=>match Nat.beq (G id).ver ver with
   |true=>match (G id).b with
    |some (.box tid xs)=>match zo3 off k y xs with
     |some ys=>some (.mem UND id ⟨ver,some (.box tid ys)⟩ (zhk y))
     |none=>none
    |some (.rowx tid w xs)=>match zo3 off k y xs with
     |some ys=>match Nat.beq ys.length xs.length with
      |true=>some (.mem UND id ⟨ver,some (.rowx tid w ys)⟩ (zhk y))
      |false=>none
     |none=>none
    |_=>none
   |false=>none
  |.elt id w i off ver=>match Nat.beq (G id).ver ver with
   |true=>match (G id).b with
    |some (.row tid t l)=>match Nat.beq w (wid t) && (Nat.beq off 0 && Nat.beq k w)with
     |true=>match toT t y with
      |some v=>some (.memO (List t.D) (Yc l i v) UND id (λl'=>⟨ver,some (.row tid t l')⟩) (zhk y))
      |none=>none
     |false=>none
    |some (.box tid xs)=>match zj3 xs off with
     |some (.v ⟨.arr n t,a⟩,off')=>match Nat.beq w (wid t) && (Nat.beq off' 0 && Nat.beq k w)with
      |true=>match toT t y with
       |some v=>some (.memO (Arr n t.D) (zsu a i v) UND id (λa'=>⟨ver,(jei xs off (.v ⟨.arr n t,a'⟩)).map λys=> .box tid ys⟩) (zhk y))
       |none=>none
      |false=>none
     |_=>none
    |_=>none
   |false=>none
  |_=>none
theorem und_den:UND.den=.u undef:=by simp only[UND,TS.den];rfl
theorem znl{pre mid post ps:List PV}{j:Nat}(h:j+ps.length<=mid.length):setMany (pre++mid++post) (pre.length+j) ps=pre++setMany mid j ps++post:=by
 unfold setMany;rw[weu pre mid post,List.take_length_add_append,show pre.length+j+ps.length=pre.length+(j+ps.length) by omega,List.drop_length_add_append,wgy (by omega),List.drop_append_of_le_length h];simp only[weu]
theorem z1m{t:Ty}{l:List t.D}{i:Nat}{y:t.D}(h:i<l.length):setMany (l.flatMap (encC t)) (i*wid t) (encC t y)=(l.set i y).flatMap (encC t):=by
 have hl:l=l.take i++l[i]::l.drop (i+1):=by simp
 have e1:l.flatMap (encC t)=(l.take i).flatMap (encC t)++encC t l[i]++(l.drop (i+1)).flatMap (encC t):=by
  conv=>lhs;rw[hl]
  simp only[wf6,wex,weu]
 have e2:(l.set i y).flatMap (encC t)=(l.take i).flatMap (encC t)++encC t y++(l.drop (i+1)).flatMap (encC t):=by
  rw[List.set_eq_take_append_cons_drop,if_pos h];simp only[wf6,wex,weu]
 have e3:((l.take i).flatMap (encC t)).length=i*wid t:=by
  rw[Jy _ (wid t) _ λx _=>ju t x,wfg];congr 1;omega
 rw[e1,e2,<- e3];have:=znl (pre:=(l.take i).flatMap (encC t)) (mid:=encC t l[i]) (post:=(l.drop (i+1)).flatMap (encC t)) (ps:=encC t y) (j:=0) (by rw[ju,ju];omega);simp only[wfu]at this;rw[this];congr 2;unfold setMany;simp only[List.take_zero,wfx,wfa];rw[List.drop_eq_nil_of_le (by rw[ju,ju];exact weh _),weq]
theorem RefL.setMany2{ps qs:List PV}(h:RefL ps qs)(cs:List PV)(off:Nat):RefL (L.setMany cs off ps) (L.setMany cs off qs):=by
 unfold L.setMany;rw[h.1];exact RefL.append (RefL.append (RefL.refl _) h) (RefL.refl _)
theorem z6a{α:Type}{l l':List α}{i:Int}{y:α}(h:Yc l i y=some l'):i.toNat<l.length/\l'=l.set i.toNat y:=by
 unfold Yc at h;split at h<;>try (cases h;done)
 split at h<;>cases h;rename_i h1;exact⟨wd3 h1,rfl⟩
theorem z6u{n:Nat}{α:Type}{a a':Arr n α}{i:Int}{y:α}(h:zsu a i y=some a'):i.toNat<n/\a'.l=a.l.set i.toNat y:=by
 unfold zsu at h;split at h<;>try (cases h;done)
 split at h<;>cases h;rename_i h1;exact⟨wd3 h1,rfl⟩
theorem z41:∀{xs:List TS}{off:Nat}{p s:TS},zj3 xs off=some (p,0)->Yb s=Yb p->∃ys pre post,jei xs off s=some ys/\js xs=pre++p.den.cells++post/\js ys=pre++s.den.cells++post/\pre.length=off
 |[],off,p,s,h,_=>by simp[zj3]at h
 |x::xs,off,p,s,h,hw=>by
  simp only[zj3]at h;simp only[jei];split at h
  ·rename_i hb;cases h;exact⟨s::xs,[],js xs,by first|(rw[hb];done)|rfl,by simp only[js,wfx],by simp only[js,wfx],rfl⟩
  ·rename_i hb;obtain⟨ys,pre,post,h1,h2,h3,h4⟩:=z41 (s:=s) h hw;have:¬off<Yb x:=by
    intro hlt;have:Nat.blt off (Yb x)=true:=by simpa [wg1]using hlt
    rw[hb]at this;cases this
   refine⟨x::ys,x.den.cells++pre,post,by first|(rw[hb,h1];done)|(rw[h1];done)|simp[h1],by simp only[js,h2,weu],by simp only[js,h3,weu],?_⟩;rw[weo,zg5];omega
theorem jd5{t k:Nat}{ag:Bool}{x y:Operand}{q:SR}(ho:o.op=.store t x y)(ht:asz P t=some (ag,k))(h:sSto ag k G (evE E x) (evE E y)=some q):SOk P o E G q:=by
 have hx':x∈o.op.operands:=by rw[ho];simp[Op.operands]
 have hy':y∈o.op.operands:=by rw[ho];simp[Op.operands]
 unfold sSto at h;split at h
 ·cases h
 rename_i hok;have ru:∀{W n F H}{id ver:Nat}{bd:PBody}{x:GB},(qj x)=⟨ver,some bd⟩->PE P W n o F H (λp H'=>p=.u undef/\H'=H.set (2*id) ⟨ver,some bd⟩)->PE P W n o F H (λp H'=>p=UND.den/\H'=H.set (2*id) (qj x)):=λ{W n F H id ver bd x}e hpe=>by
  rw[e,und_den];exact hpe
 split at h
 ·rename_i id off ver hx;split at h<;>try (cases h;done)
  rename_i hv;have hv:=wd9 hv;split at h<;>try (cases h;done)
  ·rename_i tid xs hb;split at h<;>cases h;rename_i ys hys;obtain⟨e1,e2,e3⟩:=zws hys;refine SOk.mem λW n F H hdo hag=>ru (bd :=.box tid (js ys)) rfl ?_;have hH:=hag.h id (by simp);have hyv:=hag.ev hy';refine PE.store (id:=2*id) (off:=off) (ver:=ver) (cs:=js xs) (bd :=.box tid (js xs)) ho hdo (by rw[hag.ev hx',hx];simp only[TS.den]) (Jf hH hb hv) ht (by rw[hyv];exact zfa hok λi hi=>hag.h i (by simp[hi])) (by rw[hyv];exact e3) e2 (by rw[hH];simp[qj,hb,BD.den]) ⟨rfl,?_⟩;rw[hyv,e1];rfl
  ·rename_i tid w xs hb;split at h<;>try (cases h;done)
   rename_i ys hys;split at h<;>cases h;rename_i hlen;have hlen:=wd9 hlen;obtain⟨e1,e2,e3⟩:=zws hys;refine SOk.mem λW n F H hdo hag=>ru (bd :=.row tid w ys.length (js ys)) rfl ?_;have hH:=hag.h id (by simp);have hyv:=hag.ev hy';refine PE.store (id:=2*id) (off:=off) (ver:=ver) (cs:=js xs) (bd :=.row tid w xs.length (js xs)) ho hdo (by rw[hag.ev hx',hx];simp only[TS.den]) (Qd hH hb rfl hv) ht (by rw[hyv];exact zfa hok λi hi=>hag.h i (by simp[hi])) (by rw[hyv];exact e3) e2 (by rw[hH];simp[qj,hb,BD.den]) ⟨rfl,?_⟩;rw[hyv,e1,hlen];rfl
 ·rename_i id w i off ver hx;split at h<;>try (cases h;done)
  rename_i hv;have hv:=wd9 hv;split at h<;>try (cases h;done)
  ·rename_i tid ty l hb;split at h
   ·rename_i hc;simp only[wd8]at hc;have ew:=wd9 hc.1;have eo:=wd9 hc.2.1;have ek:=wd9 hc.2.2;split at h<;>cases h;rename_i v hv2;subst eo;refine SOk.memO λl' hl' W n F H hdo hag=>?_;obtain⟨hi,rfl⟩:=z6a hl';have hH:=hag.h id (by simp);have hyv:=hag.ev hy';have hT:=(zaz _ _ _ hv2).1;have hlenl:(l.flatMap (encC ty)).length=l.length*wid ty:=Jy _ _ _ λx _=>ju ty x;have hyl:(evE E y).den.cells.length=k:=by rw[hT.1,ju,ek,ew]
    refine wbo (bd :=.row tid (wid ty) l.length (setMany (l.flatMap (encC ty)) (i.toNat*wid ty) (evE E y).den.cells)) (bd' :=.row tid (wid ty) (l.set i.toNat v).length ((l.set i.toNat v).flatMap (encC ty))) (by rw[<- z1m hi,wfz];exact .row (hT.setMany2 _ _)) (by rw[und_den];exact Ref.refl _) hdo ?_;refine PE.store (id:=2*id) (off:=i.toNat*w+0) (ver:=ver) (cs:=l.flatMap (encC ty)) (bd :=.row tid (wid ty) l.length (l.flatMap (encC ty))) ho hdo (by rw[hag.ev hx',hx];simp only[TS.den]) (Qd hH hb rfl hv) ht (by rw[hyv];exact zfa hok λi hi=>hag.h i (by simp[hi])) (by rw[hyv];exact hyl) ?_ (by rw[hH];simp[qj,hb,BD.den]) ⟨rfl,?_⟩
    ·rw[hlenl,ek,ew,wfu];have:(i.toNat+1)*wid ty<=l.length*wid ty:=wgg _ hi;rwa [Nat.succ_mul]at this
    ·rw[hyv,wfu,ew];rfl
   ·cases h
  ·rename_i tid xs hb;split at h<;>try (cases h;done)
   rename_i m ty a off' har;split at h<;>try (cases h;done)
   rename_i hc;simp only[wd8]at hc;have ew:=wd9 hc.1;have eo:=wd9 hc.2.1;have ek:=wd9 hc.2.2;split at h<;>cases h;rename_i v hv2;subst eo;refine SOk.memO λa' ha' W n F H hdo hag=>?_;obtain⟨hi,hal⟩:=z6u ha';obtain⟨ys,pre,post,p1,p2,p3,p4⟩:=z41 (s :=.v ⟨.arr m ty,a'⟩) har (by simp only[Yb]);have hH:=hag.h id (by simp);have hyv:=hag.ev hy';have hT:=(zaz _ _ _ hv2).1;have hyl:(evE E y).den.cells.length=k:=by rw[hT.1,ju,ek,ew]
   simp only[TS.den,enc_cells,encC]at p2 p3;have hlenl:(a.l.flatMap (encC ty)).length=m*wid ty:=by rw[Jy _ (wid ty) _ λx _=>ju ty x,a.h]
   have hile:(i.toNat*wid ty)+wid ty<=m*wid ty:=by
    have:(i.toNat+1)*wid ty<=m*wid ty:=wgg _ hi;rwa [Nat.succ_mul]at this
   have e5:setMany (js xs) (off+i.toNat*wid ty) (evE E y).den.cells=pre++setMany (a.l.flatMap (encC ty)) (i.toNat*wid ty) (evE E y).den.cells++post:=by
    rw[p2,<- p4,znl];rw[hlenl,hyl,ek,ew];exact hile
   rw[p1];refine wbo (bd :=.box tid (setMany (js xs) (off+i.toNat*wid ty) (evE E y).den.cells)) (bd' :=.box tid (js ys)) (.box ?_) (by rw[und_den];exact Ref.refl _) hdo ?_
   ·rw[e5,p3,hal,<- z1m (by rw[a.h];exact hi)];exact RefL.append (RefL.append (RefL.refl _) (hT.setMany2 _ _)) (RefL.refl _)
   refine PE.store (id:=2*id) (off:=i.toNat*w+off) (ver:=ver) (cs:=js xs) (bd :=.box tid (js xs)) ho hdo (by rw[hag.ev hx',hx];simp only[TS.den]) (Jf hH hb hv) ht (by rw[hyv];exact zfa hok λi hi=>hag.h i (by simp[hi])) (by rw[hyv];exact hyl) ?_ (by rw[hH];simp[qj,hb,BD.den]) ⟨rfl,?_⟩
   ·rw[p2];simp only[weo,hlenl,ek,ew];omega
   ·rw[hyv,ew,wf9];rfl
 ·cases h
end
def apO{α:Type}(b:Nat)(l m:List α):Option (List α):=match decide (l.length+m.length<=maxLen) && decide ((l.length+m.length)*b<=140737488355328)with
 |true=>some (l++m)
 |false=>none
theorem zr5{α:Type}{b:Nat}{l m r:List α}(h:apO b l m=some r):l.length+m.length<=maxLen/\(l.length+m.length)*b<=140737488355328/\r=l++m:=by
 unfold apO at h;split at h<;>cases h;rename_i h1;simp only[wd8,wed]at h1;exact⟨h1.1,h1.2,rfl⟩
def mkO(b:Nat)(z:Int):Option Nat:=match decide (0<=z) && (decide (z.toNat<=maxLen) && decide (b*z.toNat<=281474976710656))with
 |true=>some z.toNat
 |false=>none
theorem jas{b:Nat}{z:Int}{m:Nat}(h:mkO b z=some m):z=(m:Int)/\m<=maxLen/\b*m<=281474976710656:=by
 unfold mkO at h;split at h<;>cases h;rename_i h1;simp only[wd8,wed]at h1;exact⟨by omega,h1.2.1,h1.2.2⟩
def z9p(ty:Ty)(G:EG):TS->Option (List ty.D×List Nat)
 |.v d=>match d.as (.sl ty)with
  |some l=>some (l,[])
  |none=>none
 |.own id ver=>match Nat.beq (G id).ver ver with
  |true=>match (G id).b with
   |some (.row _ t l)=>match Dyn.as ⟨.sl t,l⟩ (.sl ty)with
    |some l=>some (l,[id])
    |none=>none
   |_=>none
  |false=>none
 |.c (.slice none 0 0)=>some ([],[])
 |_=>none
abbrev SE:=Option (TypeId×Nat×Nat×Value)
def tyRow(G:EG):TS->Option Ty
 |.v ⟨.sl t,_⟩=>some t
 |.own id _=>match (G id).b with
  |some (.row _ t _)=>some t
  |_=>none
 |_=>none
def sApp(se:SE)(o:Oper)(G:EG)(nid:Nat)(s x:TS):Option SR:=match Vf o with
 |false=>none
 |true=>match se with
  |none=>none
  |some (e,k,b,_)=>match s with
   |.own id ver=>match Nat.beq (G id).ver ver with
    |true=>match (G id).b with
     |some (.row tid ty l)=>match Nat.beq tid e && (Nat.beq (wid ty) k && zct ty)with
      |true=>match z9p ty G x with
       |some r=>some (.memO (List ty.D) (apO b l r.1) (.own id (ver+1)) id (λl'=>⟨ver+1,some (.row tid ty l')⟩) r.2)
       |none=>none
      |false=>none
     |_=>none
    |false=>none
   |.c (.slice none 0 0)=>match tyRow G x with
    |some ty=>match Nat.beq (wid ty) k && zct ty with
     |true=>match z9p ty G x with
      |some r=>some (.memO (List ty.D) (apO b [] r.1) (.own nid (nv G nid)) nid (λl'=>⟨nv G nid,some (.row e ty l')⟩) r.2)
      |none=>none
     |false=>none
    |none=>none
   |_=>none
section
variable{P:Program}{o:Oper}{E:EF}{G:EG}{rd:List Nat}{F:PFrame}{H:PHeap}{W:Env}{n:Nat}
theorem zw2{ty:Ty}{k:Nat}{s:TS}{r:List ty.D×List Nat}(h:z9p ty G s=some r)(hk:wid ty=k)(hH:∀id∈r.2,H (2*id)=qj (G id)):zdj H k s.den=some (r.1.length,r.1.flatMap (encC ty)):=by
 unfold z9p at h;split at h
 ·split at h<;>cases h;rename_i d l hl;have:=wai hl;subst this;simp only[TS.den];rw[zi5];unfold zdj;simp only;rw[if_pos hk,wey,Yu]
 ·rename_i id ver;split at h<;>try (cases h;done)
  rename_i hv;have hv:=wd9 hv;split at h<;>try (cases h;done)
  rename_i tid t l hb;split at h<;>cases h;rename_i l' hl;have:=wai hl;injection this with e1 e2
  injection e1 with e1
  subst e1;have e2:=eq_of_heq e2;subst e2;simp only[TS.den];unfold zdj;simp only;rw[yd (hH id (by simp)) hb rfl hv];simp only;rw[if_pos hk]
 ·cases h;simp only[TS.den];rfl
 ·cases h
theorem zmc{ty:Ty}(hn:zct ty=true)(l:List ty.D):∀p∈l.flatMap (encC ty),qh H p=true:=λp hp=>by
 obtain⟨x,_,hx⟩:=wfe.1 hp;exact zbp ty x H hn p hx
theorem jdt{t:Nat}{s x:Operand}{nid:Nat}{q:SR}(ho:o.op=.call { callee :=.builtin .append,args:=#[s,x],argTypes:=#[t,t] })(h:sApp (yq P t) o G nid (evE E s) (evE E x)=some q):SOk P o E G q:=by
 have hs':s∈o.op.operands:=by rw[ho];simp[Op.operands,Call.operands]
 have hx':x∈o.op.operands:=by rw[ho];simp[Op.operands,Call.operands]
 unfold sApp at h;split at h
 ·cases h
 rename_i hd;obtain⟨d,hd⟩:=J0 hd;split at h
 ·cases h
 rename_i e k b z hse;split at h
 ·rename_i id ver hs;split at h<;>try (cases h;done)
  rename_i hv;have hv:=wd9 hv;split at h<;>try (cases h;done)
  rename_i tid ty l hb;split at h<;>try (cases h;done)
  rename_i hc;simp only[wd8]at hc;have e1:=wd9 hc.1;have e2:=wd9 hc.2.1;subst e1;split at h<;>cases h;rename_i r hr;refine SOk.memO λl' hl' W n F H hdo hag=>?_;obtain⟨b1,b2,rfl⟩:=zr5 hl';have hsrc:=zw2 (H:=H) hr e2 λi hi=>hag.h i (by simp[hi]);refine PE.append (id:=2*id) (ver:=ver) (m:=l.length) (m2:=r.1.length) (cs:=l.flatMap (encC ty)) (cs2:=r.1.flatMap (encC ty)) ho hd (hdo d hd) hse (by rw[hag.ev hs',hs];simp only[TS.den]) ?_ (by rw[hag.ev hx'];exact hsrc) (zmc hc.2.2 _) b1 b2 ?_
  ·rw[yd (hag.h id (by simp)) hb rfl hv,e2]
  ·refine⟨by simp only[TS.den],?_⟩;simp only[qj,wer,BD.den,e2,weo,wf6]
 ·rename_i hs;split at h<;>try (cases h;done)
  rename_i ty hty;split at h<;>try (cases h;done)
  rename_i hc;simp only[wd8]at hc;have e2:=wd9 hc.1;split at h<;>cases h;rename_i r hr;refine SOk.memO λl' hl' W n F H hdo hag=>?_;obtain⟨b1,b2,rfl⟩:=zr5 hl';have hsrc:=zw2 (H:=H) hr e2 λi hi=>hag.h i (by simp[hi]);refine wbc (id:=2*nid) (m2:=r.1.length) (cs2:=r.1.flatMap (encC ty)) ho hd (hdo d hd) hse (by rw[hag.ev hs',hs];simp only[TS.den];rfl) (by rw[hag.ev hx'];exact hsrc) (zmc hc.2 _) (by simpa using b1) (by simpa using b2) ?_;rw[zqi hag];refine⟨by simp only[TS.den],?_⟩;simp only[qj,wer,BD.den,e2,wfx]
 ·cases h
abbrev ZY:=TypeId->Option Dyn
def zyB(z:Value)(d:Dyn):Bool:=match d,z with
 |⟨.int k,x⟩,.int k' y=>ikB k k' && decide (x=y)
 |⟨.bool,x⟩,.bool y=>eqb x y
 |⟨.str,[]⟩,.string y=>match y.data.toList with
  |[]=>true
  |_=>false
 |⟨.sl _,[]⟩,.slice none 0 0=>true
 |⟨.ref _,none⟩,.pointer none=>true
 |_,_=>false
theorem z9y{z:Value}{d:Dyn}(h:zyB z d=true):Ref (.u z) (enc d.t d.x)/\wid d.t=1/\(enc d.t d.x).cells=[enc d.t d.x]/\z.oneCell'=true:=by
 unfold zyB at h;split at h
 ·rename_i k x k' y;simp only[wd8]at h;rw[zxh h.1,wd3 h.2];exact⟨Ref.refl _,rfl,rfl,rfl⟩
 ·rename_i x y;rw[z3l]at h;have:x=y:=by simpa using h
  subst this;exact⟨Ref.refl _,rfl,rfl,rfl⟩
 ·rename_i y;split at h<;>try (cases h;done)
  rename_i hy;have:y=⟨⟨[]⟩⟩:=by
   obtain⟨⟨l⟩⟩:=y;simp at hy;subst hy;rfl
  subst this;exact⟨Ref.refl _,rfl,rfl,rfl⟩
 ·exact⟨wcu _ _ _,rfl,rfl,rfl⟩
 ·exact⟨Ref.refl _,rfl,rfl,rfl⟩
 ·cases h
def zx1:Operand->Operand->Bool
 |.tmp a,.tmp b=>Nat.beq a b
 |.const (.int _ a),.const (.int _ b)=>decide (a=b)
 |_,_=>false
def sMk(zy:ZY)(se:SE)(o:Oper)(G:EG)(nid:Nat)(same:Bool)(x:TS):Option SR:=match Vf o && same with
 |false=>none
 |true=>match se with
  |none=>none
  |some (e,k,b,z)=>match zy e with
   |none=>none
   |some d=>match Nat.beq k 1 && zyB z d with
    |true=>vc (zeb x) λa=>some (.memO Nat (mkO b a) (.own nid (nv G nid)) nid (λm=>⟨nv G nid,some (.row e d.t (List.replicate m d.x))⟩) [])
    |false=>none
theorem z5q{x y:Operand}(h:zx1 x y=true)(hx:∃k z,evP F x=.u (.int k z)):∃k z,evP F x=.u (.int k z)/\∃k',evP F y=.u (.int k' z):=by
 unfold zx1 at h;split at h
 ·have:=wd9 h;subst this;obtain⟨k,z,e⟩:=hx;exact⟨k,z,e,k,e⟩
 ·rename_i k a k' b;have:=wd3 h;subst this;exact⟨k,a,rfl,k',rfl⟩
 ·cases h
theorem zkx{α:Type}{f:α->List PV}{x:α}{y:PV}(h:f x=[y]):∀m,(List.replicate m x).flatMap f=List.replicate m y
 |0=>rfl
 |m+1=>by rw[List.replicate_succ,wex,h,zkx h m];rfl
theorem wcs{p q:PV}(h:Ref p q):∀m,RefL (List.replicate m p) (List.replicate m q)
 |0=>RefL.nil
 |m+1=>RefL.cons h (wcs h m)
theorem sMk_ok{zy:ZY}{t:Nat}{x y:Operand}{nid:Nat}{q:SR}(ho:o.op=.makeSlice t x y)(h:sMk zy (yq P t) o G nid (zx1 x y) (evE E x)=some q):SOk P o E G q:=by
 have hx':x∈o.op.operands:=by rw[ho];simp[Op.operands]
 unfold sMk at h;split at h
 ·cases h
 rename_i hds;simp only[wd8]at hds;obtain⟨d,hd⟩:=J0 hds.1;split at h
 ·cases h
 rename_i e k b z hse;split at h
 ·cases h
 rename_i dy hdy;split at h<;>try (cases h;done)
 rename_i hc;simp only[wd8]at hc;have ek:=wd9 hc.1;obtain⟨r1,r2,r3,r4⟩:=z9y hc.2;obtain⟨a,ha,h⟩:=jp h;cases h;obtain⟨kd,hk⟩:=Yo ha;refine SOk.memO λm hm W n F H hdo hag=>?_;obtain⟨rfl,m1,m2⟩:=jas hm;have hev:evP F x=.u (.int kd m):=by rw[hag.ev hx',hk]
 obtain⟨k1,z1,e1,k2,e2⟩:=z5q (F:=F) hds.2 ⟨kd,m,hev⟩;rw[hev]at e1;cases e1;rw[ek]at hse;have hc1:encC dy.t dy.x=[enc dy.t dy.x]:=by rw[<- enc_cells];exact r3
 refine wbo (bd :=.row e 1 m (List.replicate m (.u z))) (bd' :=.row e (wid dy.t) (List.replicate m dy.x).length ((List.replicate m dy.x).flatMap (encC dy.t))) (by rw[r2,wd6,zkx hc1];exact .row (wcs r1 m)) (Ref.refl _) hdo ?_;refine PE.makeSlice (id:=2*nid) (m:=m) ho hd (hdo d hd) hse r4 hev e2 m1 m2 ?_;rw[zqi hag];exact⟨by simp only[TS.den],rfl⟩
inductive LK where
 |told (t:Ty)
 |own (t:Ty)
 |ownx
theorem Ref.sl{k:Nat}{xs ys:List PV}(hl:xs.length=ys.length)(hc:RefL (xs.flatMap PV.cells) (ys.flatMap PV.cells))(hu:∀y∈ys,y.cells.length=k):Ref (.sl k xs) (.sl k ys):=λZ H V w v hv=>by
 cases hv with
 |nil k a c=>
  have:ys=[]:=List.length_eq_zero_iff.1 hl.symm;subst this;exact .nil k a c
 |sl _ _ b o' c g hu' hlen hz hb h1 h2=>
  rw[hl];refine .sl k ys b o' c g hu (by omega) hz hb (λi p hi=>?_) λi p hi=>?_
  ·have hlt:i<(xs.flatMap PV.cells).length:=by rw[hc.1];exact(wd5.1 hi).1
   exact h1 i _ (wd2 hlt)
  ·have hlt:i<(xs.flatMap PV.cells).length:=by rw[hc.1];exact(wd5.1 hi).1
   exact hc.2 i _ p (wd2 hlt) hi _ _ _ _ _ (h2 i _ (wd2 hlt))
def seqB:Nat->List Nat->Bool
 |_,[]=>true
 |i,a::l=>Nat.beq a i && seqB (i+1) l
theorem z40:∀{l:List Nat}{i:Nat},seqB i l=true->l=(List.range l.length).map (i + ·)
 |[],_,_=>rfl
 |a::l,i,h=>by
  simp only[seqB,wd8]at h;have e1:=wd9 h.1;have e2:=z40 h.2;rw[we2,List.range_succ_eq_map,wen,wff];rw[<- e1];congr 1
  conv=>lhs;rw[e2]
  apply we9;intro x _;simp only[Function.comp];omega
def z5e(k:Nat):List TS->Bool
 |[]=>true
 |x::xs=>Nat.beq (Yb x) k && z5e k xs
def jc3(G:EG)(k len:Nat)(ps:List (Nat×TS)):Bool:=seqB 0 (ps.map Prod.fst) && (Nat.beq ps.length len && (z5e k (ps.map Prod.snd) && z2w G (ps.map Prod.snd)))
def sLit(lk:Option LK)(se:SE)(o:Oper)(G:EG)(nid len:Nat)(ps:List (Nat×TS)):Option SR:=match Vf o with
 |false=>none
 |true=>match lk with
  |none=>none
  |some lk=>match se with
   |none=>none
   |some (e,k,b,z)=>match (z.cells.toList.all Value.oneCell' && (Nat.ble (len*k) 16777216 && Nat.ble len 16777216)) && jc3 G k len ps with
    |false=>none
    |true=>match lk with
     |.told ty=>match Nat.beq (wid ty) k with
      |true=>match ze2 ty (ps.map Prod.snd)with
       |some l=>some (.now (.v ⟨.sl ty,l⟩) (zf9 (ps.map Prod.snd)))
       |none=>none
      |false=>none
     |.own ty=>match Nat.beq (wid ty) k with
      |true=>match ze2 ty (ps.map Prod.snd)with
       |some l=>some (.mem (.own nid (nv G nid)) nid ⟨nv G nid,some (.row e ty l)⟩ (zf9 (ps.map Prod.snd)))
       |none=>none
      |false=>none
     |.ownx=>some (.mem (.own nid (nv G nid)) nid ⟨nv G nid,some (.rowx e k (ps.map Prod.snd))⟩ (zf9 (ps.map Prod.snd)))
theorem zzl{k:Nat}:∀{xs:List TS},z5e k xs=true->∀x∈xs,x.den.cells.length=k
 |[],_,x,hx=>by simp at hx
 |y::xs,h,x,hx=>by
  simp only[z5e,wd8]at h;rcases wep.1 hx with rfl|hx
  ·rw[zg5];exact wd9 h.1
  ·exact zzl h.2 x hx
theorem z1g:∀{xs:List TS},z2w G xs=true->∀x∈xs,okT G x=true
 |[],_,x,hx=>by simp at hx
 |y::xs,h,x,hx=>by
  simp only[z2w,wd8]at h;rcases wep.1 hx with rfl|hx
  ·exact h.1
  ·exact z1g h.2 x hx
theorem zt6:∀{xs:List TS}{x:TS},x∈xs->∀id∈zhk x,id∈zf9 xs
 |[],x,hx,_,_=>by simp at hx
 |y::xs,x,hx,id,hid=>by
  simp only[zf9,wej];rcases wep.1 hx with rfl|hx
  ·exact .inl hid
  ·exact .inr (zt6 hx id hid)
theorem z44{k len:Nat}{ps:List (Nat×TS)}(h:jc3 G k len ps=true)(hH:∀id∈zf9 (ps.map Prod.snd),H (2*id)=qj (G id)):zal H k len (ps.map λx=>(x.1,x.2.den))=true:=by
 unfold jc3 at h;simp only[wd8]at h;obtain⟨h1,h2,h3,h4⟩:=h;have h2:=wd9 h2;unfold zal;rw[wd8,wed,we0];constructor
 ·have:=z40 h1;rw[wff];have e:(ps.map ((λx=>x.1) ∘ λx=>(x.1,x.2.den)))=ps.map Prod.fst:=rfl;rw[e,this,wey,h2];simp
 ·intro p hp;obtain⟨x,hx,rfl⟩:=wef.1 hp;have hm:x.2∈ps.map Prod.snd:=wef.2 ⟨x,hx,rfl⟩;rw[wd8,wed];exact⟨zzl h3 _ hm,zfa (z1g h4 _ hm) λid hid=>hH id (zt6 hm id hid)⟩
theorem jda{lk:Option LK}{t len nid:Nat}{parts:Array (Nat×Operand)}{q:SR}(ho:o.op=.buildSlice t len parts)(h:sLit lk (yq P t) o G nid len (parts.toList.map λx=>(x.1,evE E x.2))=some q):SOk P o E G q:=by
 have hx':∀x∈parts.toList,x.2∈o.op.operands:=λx hx=>by
  rw[ho];simp only[Op.operands,List.mem_toArray,wef];exact⟨x,hx,rfl⟩
 have hev:∀{rd F H},Agr o E G rd F H->(parts.toList.map λx=>(x.1,evP F x.2))=(parts.toList.map λx=>(x.1,evE E x.2)).map λp=>(p.1,p.2.den):=λ{rd F H}hag=>by
  rw[wff];exact we9 λx hx=>by simp only[Function.comp];rw[hag.ev (hx' x hx)]
 have hev2:∀{rd F H},Agr o E G rd F H->(parts.toList.map λx=>evP F x.2)=((parts.toList.map λx=>(x.1,evE E x.2)).map Prod.snd).map TS.den:=λ{rd F H}hag=>by
  rw[wff,wff];exact we9 λx hx=>by simp only[Function.comp];rw[hag.ev (hx' x hx)]
 have hfl:∀xs:List TS,(xs.map TS.den).flatMap PV.cells=js xs:=λxs=>by rw[zmb,List.flatMap_map]
 generalize (parts.toList.map λx=>(x.1,evE E x.2))=ps at *;unfold sLit at h;split at h
 ·cases h
 rename_i hds;obtain⟨d,hd⟩:=J0 hds;split at h
 ·cases h
 split at h
 ·cases h
 rename_i e k b z hse;split at h
 ·cases h
 rename_i hc;simp only[wd8]at hc;obtain⟨⟨c1,c2,c3⟩,c4⟩:=hc;have c2:=wf1 c2;have c3:=wf1 c3;have c3:len<=maxLen:=by simp[maxLen];omega
 have hlen:ps.length=len:=by
  unfold jc3 at c4;simp only[wd8]at c4;exact wd9 c4.2.1
 have hmake:∀{W n F H},jo n o->Agr o E G (nid::zf9 (ps.map Prod.snd)) F H->PE P W n o F H (λp H'=>p=.ps (2*nid) (nv G nid)/\H'=H.set (2*nid) ⟨nv G nid,some (.row e k len (js (ps.map Prod.snd)))⟩):=λ{W n F H}hdo hag=>by
  refine PE.buildSlice (id:=2*nid) ho hd (hdo d hd) hse c1 c2 c3 (by rw[hev hag];exact z44 c4 λid hid=>hag.h id (by simp[hid])) ?_;rw[zqi hag,hev2 hag,hfl];exact⟨rfl,rfl⟩
 split at h
 ·rename_i ty;split at h<;>try (cases h;done)
  rename_i hw;have hw:=wd9 hw;split at h<;>cases h;rename_i l hl;obtain⟨r1,r2⟩:=ze8 hl;refine SOk.now λW F H hag=>?_;refine PQ.ref (PQ.buildSlice ho hse c1 c2 (by rw[hev hag];exact z44 c4 λid hid=>hag.h id hid)) ?_;rw[hev2 hag];simp only[TS.den];rw[zi5,hw];refine Ref.sl (by simp[r2]) (by rw[hfl,Yu];exact r1) λy hy=>?_;obtain⟨x,_,rfl⟩:=wef.1 hy;rw[enc_cells,ju,hw]
 ·rename_i ty;split at h<;>try (cases h;done)
  rename_i hw;have hw:=wd9 hw;split at h<;>cases h;rename_i l hl;obtain⟨r1,r2⟩:=ze8 hl;refine SOk.mem λW n F H hdo hag=>?_;refine wbo (p0 :=.ps (2*nid) (nv G nid)) (bd :=.row e k len (js (ps.map Prod.snd))) (bd' :=.row e (wid ty) l.length (l.flatMap (encC ty))) (by rw[hw,r2,wey,hlen];exact .row r1) (by simp only[TS.den];exact Ref.refl _) hdo (hmake hdo hag)
 ·cases h;refine SOk.mem λW n F H hdo hag=>?_;refine PE.mono (hmake hdo hag) λp H'⟨e1,e2⟩=>⟨by rw[e1];simp only[TS.den],?_⟩
  rw[e2];simp only[qj,wer,BD.den,wey,hlen]
end
theorem wc8{Z:ZM}{H:PHeap}{V:Nat->Value}{w:World}{k m c off:Nat}{xs:List PV}{ad ad':Option Addr}(h:Rp Z H V w (.sl k xs) (.slice ad m c))(hu:∀y∈xs,y.cells.length=k)(hom:off<=m)(hmc:m<=c)
  (hcase:(ad=none/\ad'=none)\/∃b o,ad=some ⟨b,0,none⟩/\ad'=some ⟨b,o,none⟩/\(o=off*k\/c=off)):Rp Z H V w (.sl k (xs.drop off)) (.slice ad' (m-off) (c-off)):=by
 cases h with
 |nil k a c=>
  rw[Nat.zero_sub,List.drop_nil];exact .nil _ _ _
 |sl k xs b o c g _ hlen hz hb h1 h2=>
  rcases hcase with⟨e,_⟩|⟨b',oo,e,rfl,h3⟩
  ·cases e
  ·cases e;by_cases h0:off=xs.length
   ·rw[h0,wf2,wg2];exact .nil _ _ _
   ·have ho:oo=off*k:=by rcases h3 with h3|h3;exact h3;omega
    subst ho;have hfl:(xs.drop off).flatMap PV.cells=(xs.flatMap PV.cells).drop (off*k):=by
     have e1:xs.flatMap PV.cells=(xs.take off).flatMap PV.cells++(xs.drop off).flatMap PV.cells:=by rw[<- wf6,wfh]
     have e2:((xs.take off).flatMap PV.cells).length=off*k:=by
      have:∀(ys:List PV),(∀y∈ys,y.cells.length=k)->(ys.flatMap PV.cells).length=ys.length*k:=by
       intro ys;induction ys with
       |nil=>intro _;simp
       |cons y ys ih=>intro hy;rw[wex,weo,ih (λz hz=>hy z (by simp[hz])),hy y (by simp),we2,wfr];omega
      rw[this _ λy hy=>hu y (wgi hy),wfg,Nat.min_eq_left hom]
     rw[e1,wgo e2]
    have:=Rp.sl (Z:=Z) (H:=H) (V:=V) (w:=w) k (xs.drop off) b (off*k) (c-off) (λi=>g (off*k+i)) (λy hy=>hu y (wgh hy)) (by rw[wfc];omega) hz hb (λi p hi=>by
     rw[hfl,we5]at hi;have:=h1 _ p hi;rwa [wfa]at this) λi p hi=>by
     rw[hfl,we5]at hi;exact h2 _ p hi
    rwa [wfc]at this
theorem wc5{H:PHeap}{id ver off:Nat}{t:TypeId}{k n:Nat}{cs:List PV}(hl:qm H id ver=some (t,k,n,cs))(xs:List PV)(hn:xs.length=n)(hu:∀y∈xs,y.cells.length=k)
  (h:∀(i:Nat)(p q:PV),cs[i]?=some p->(xs.flatMap PV.cells)[i]?=some q->View H p q):View H (.qs id off k ver) (.sl k (xs.drop off)):=λP W V w hr v hv=>by
 obtain⟨hb,hve⟩:=vy hl;cases hv with
 |qs _ _ _ _ _ hvv hh=>
  obtain⟨ad,m,c,ad',hV,rfl,hom,hmc,hcase⟩:=hh (by rw[hb];rfl) hve;have hrow:=View.row hl xs hn hu h P W V w hr (V id) (.ps id ver _ hvv λ_ _=>rfl);rw[hV]at hrow;exact wc8 hrow hu hom hmc hcase
def zjv{α:Type}(f:TS->Option α):List TS->Option (List α)
 |[]=>some []
 |x::xs=>match f x with
  |none=>none
  |some a=>match zjv f xs with
   |none=>none
   |some l=>some (a::l)
mutual
def z8(G:EG):(t:Ty)->TS->Option t.D
 |.int k,s=>Vj (.int k) s
 |.bool,s=>Vj .bool s
 |.str,s=>Vj .str s
 |.sl t,s=>match s with
  |.own id ver=>match Nat.beq (G id).ver ver with
   |true=>match (G id).b with
    |some (.row _ t' l)=>Dyn.as ⟨.sl t',l⟩ (.sl t)
    |some (.rowx _ k xs)=>match Nat.beq k (wid t)with
     |true=>zjv (z8 G t) xs
     |false=>none
    |_=>none
   |false=>none
  |.q id k off ver=>match Nat.beq (G id).ver ver && Nat.beq k (wid t)with
   |true=>match (G id).b with
    |some (.row _ t' l)=>match Dyn.as ⟨.sl t',l⟩ (.sl t)with
     |some l=>some (l.drop off)
     |none=>none
    |_=>none
   |false=>none
  |s=>Vj (.sl t) s
 |.ref t,s=>match s with
  |.pt id off ver=>match Nat.beq off 0 && Nat.beq (G id).ver ver with
   |true=>match (G id).b with
    |some (.box _ xs)=>match z8 G t (zam (Qr t) xs)with
     |some x=>some (some x)
     |none=>none
    |_=>none
   |false=>none
  |.rd d=>match d.as t with
   |some x=>some (some x)
   |none=>none
  |s=>Vj (.ref t) s
 |.nil,_=>none
 |.cons _ _,_=>none
 |.st r,s=>match Vj (.st r) s with
  |some x=>some x
  |none=>match za1 s with
   |some xs=>zd8 G r xs
   |none=>none
 |.arr n t,s=>match Vj (.arr n t) s with
  |some x=>some x
  |none=>match za1 s with
   |some xs=>z4n n (zg2 (z8 G t) (Qr t) (wid t) n xs)
   |none=>none
 |.tup r,s=>match s with
  |.tup xs=>zc7 G r xs
  |s=>Vj (.tup r) s
def zd8(G:EG):(r:Ty)->List TS->Option r.D
 |.nil,[]=>some ()
 |.cons a r,xs=>match Vl 512 (wid a) xs with
  |none=>none
  |some q=>match z8 G a (zam (Qr a) q.1)with
   |none=>none
   |some x=>match zd8 G r q.2 with
    |none=>none
    |some y=>some (x,y)
 |_,_=>none
def zc7(G:EG):(r:Ty)->List TS->Option r.D
 |.nil,[]=>some ()
 |.cons a r,x::xs=>match z8 G a x with
  |none=>none
  |some p=>match zc7 G r xs with
   |none=>none
   |some y=>some (p,y)
 |_,_=>none
end
section
variable{H:PHeap}{G:EG}
theorem View.ref{p q r:PV}(h:View H p q)(hr:Ref q r):View H p r:=λP W V w hw v hv=>hr _ _ _ _ _ (h P W V w hw v hv)
theorem wbw{a b c d:List PV}(h1:ViewL H a b)(h2:ViewL H c d):ViewL H (a++c) (b++d):=⟨by simp[h1.1,h2.1],λi p q h3 h4=>by
 by_cases hi:i<a.length
 ·rw[weg hi]at h3;rw[weg (by rw[<- h1.1];exact hi)]at h4;exact h1.2 i p q h3 h4
 ·rw[wei (by omega)]at h3;rw[wei (by rw[<- h1.1];omega),<- h1.1]at h4;exact h2.2 _ p q h3 h4⟩
def VOk(H:PHeap)(s:TS)(t:Ty)(x:t.D):Prop:=View H s.den (enc t x)/\ViewL H s.den.cells (encC t x)
theorem z9o{t:Ty}(x:t.D)(h:Qr t=false):encC t x=[enc t x]:=by
 have:=ju t x;rw[zcm h]at this;unfold enc mkV;rw[h]
 match hc:encC t x,this with
 |[c],_=>rfl
theorem VOk.one{s:TS}{t:Ty}{x:t.D}(h:View H s.den (enc t x))(ha:Qr t=false)(hs:Qx s=false):VOk H s t x:=⟨h,by
 rw[Yf hs,z9o x ha];exact ViewL.cons h (ViewL.nil H)⟩
theorem Ql{t:Ty}{s:TS}{x:t.D}(h:Vj t s=some x):VOk H s t x:=by
 have hn:NoP s.den/\∀c∈s.den.cells,NoP c:=by
  unfold Vj at h;split at h
  ·simp only[TS.den];exact⟨Q7 _ _,λc hc=>(Q7 _ _).cell hc⟩
  ·simp only[TS.den];exact⟨zes _,λc hc=>(zes _).cell hc⟩
  ·cases h
 obtain⟨h1,h2⟩:=Y7 h;exact⟨View.ref (View.noP hn.1) h2,h1.1,λi p q h3 h4=>View.ref (View.noP (hn.2 p (wd7 h3))) (h1.2 i p q h3 h4)⟩
theorem zqq{t:Ty}{f:TS->Option t.D}(hf:∀s x,f s=some x->VOk H s t x):∀{xs:List TS}{l:List t.D},zjv f xs=some l->ViewL H (js xs) (l.flatMap (encC t))/\l.length=xs.length
 |[],l,h=>by simp only[zjv]at h;cases h;simp only[js,whc];exact⟨ViewL.nil H,rfl⟩
 |x::xs,l,h=>by
  simp only[zjv]at h;split at h<;>try (cases h;done)
  rename_i a ha;split at h<;>try (cases h;done)
  rename_i l' hl;cases h;obtain⟨h1,h2⟩:=zqq hf hl;refine⟨?_,by simp[h2]⟩;simp only[js,wex];exact wbw (hf _ _ ha).2 h1
theorem ziv(t:Ty):z8 G t .dead=none:=by cases t<;>simp[z8,Vj,za1,zui,znn]
theorem zq5{t:Ty}{f:TS->Option t.D}(hf:∀s x,f s=some x->VOk H s t x)(hd:f .dead=none):∀(n:Nat)(xs:List TS)(l:List t.D),zg2 f (Qr t) (wid t) n xs=some l->ViewL H (js xs) (l.flatMap (encC t))
 |0,[],l,h=>by simp only[zg2]at h;cases h;simp only[js,whc];exact ViewL.nil H
 |0,_::_,l,h=>by simp[zg2]at h
 |n+1,xs,l,h=>by
  simp only[zg2]at h;split at h<;>try (cases h;done)
  rename_i r hr;split at h<;>try (cases h;done)
  rename_i a ha;split at h<;>try (cases h;done)
  rename_i l' hl;cases h;obtain⟨h1,h2⟩:=Js _ _ _ _ hr;have hnd:zam (Qr t) r.1 ≠ .dead:=λe=>by rw[e,hd]at ha;cases ha
  have h3:=(hf _ _ ha).2;rw[Ya hnd]at h3;rw[wex,<- h1];exact wbw h3 (zq5 hf hd n r.2 l' hl)
theorem wcc{s:TS}{xs:List TS}{t:Ty}{x:t.D}(hs:za1 s=some xs)(ha:Qr t=true)(h:ViewL H (js xs) (encC t x)):VOk H s t x:=by
 unfold VOk;rw[zef hs];refine⟨?_,h⟩;unfold enc mkV;rw[ha];exact View.agg h.1 h.2
mutual
theorem Qy(hG:∀id,(G id).b.isSome=true->H (2*id)=qj (G id)):∀(t:Ty)(s:TS)(x:t.D),z8 G t s=some x->VOk H s t x
 |.int k,s,x,h=>Ql (by simpa only [z8]using h)
 |.bool,s,x,h=>Ql (by simpa only [z8]using h)
 |.str,s,x,h=>Ql (by simpa only [z8]using h)
 |.sl t,s,x,h=>by
  simp only[z8]at h;split at h
  ·rename_i _ id ver;split at h<;>try (cases h;done)
   rename_i hv;have hv:=wd9 hv;split at h
   ·rename_i tid t' l hb;have:=wai h;injection this with e1 e2
    injection e1 with e1
    subst e1;have e2:=eq_of_heq e2;subst e2;refine VOk.one ?_ rfl rfl;simp only[TS.den];rw[zi5];refine View.row (yd (hG id (by rw[hb];rfl)) hb rfl hv) _ (by simp) (λy hy=>?_) λi p q h1 h2=>?_
    ·obtain⟨z,_,rfl⟩:=wef.1 hy;rw[enc_cells,ju]
    ·rw[Yu,h1]at h2;cases h2;obtain⟨z,_,hz⟩:=wfe.1 (wd7 h1);exact View.noP (yi _ _ _ hz)
   ·rename_i tid k xs hb;split at h<;>try (cases h;done)
    rename_i hk;have hk:=wd9 hk;obtain⟨h1,h2⟩:=zqq (λs x=>Qy hG t s x) h;refine VOk.one ?_ rfl rfl;simp only[TS.den];rw[zi5,<- hk];refine View.row (yd (hG id (by rw[hb];rfl)) hb rfl hv) _ (by simp[h2]) (λy hy=>?_) λi p q h3 h4=>?_
    ·obtain⟨z,_,rfl⟩:=wef.1 hy;rw[enc_cells,ju,hk]
    ·rw[Yu]at h4;exact h1.2 i p q h3 h4
   ·cases h
  ·rename_i _ id k off ver;split at h<;>try (cases h;done)
   rename_i hv;simp only[wd8]at hv;obtain⟨gv,hk⟩:=hv;have hk:=wd9 hk;have gv:=wd9 gv;subst hk;split at h<;>try (cases h;done)
   rename_i tid t' l hb;split at h<;>cases h;rename_i l' hl;have:=wai hl;injection this with e1 e2
   injection e1 with e1
   subst e1;have e2:=eq_of_heq e2;subst e2;refine VOk.one ?_ rfl rfl;simp only[TS.den];rw[zi5,List.map_drop];refine wc5 (yd (hG id (by rw[hb];rfl)) hb rfl gv) _ (by simp) (λy hy=>?_) λi p q h1 h2=>?_
   ·obtain⟨z,_,rfl⟩:=wef.1 hy;rw[enc_cells,ju]
   ·rw[Yu,h1]at h2;cases h2;obtain⟨z,_,hz⟩:=wfe.1 (wd7 h1);exact View.noP (yi _ _ _ hz)
  ·exact Ql h
 |.ref t,s,x,h=>by
  simp only[z8]at h;split at h
  ·rename_i _ id off ver;split at h<;>try (cases h;done)
   rename_i hv;simp only[wd8]at hv;obtain⟨g0,gv⟩:=hv;have g0:=wd9 g0;have gv:=wd9 gv;subst g0;split at h<;>try (cases h;done)
   rename_i tid xs hb;split at h<;>cases h;rename_i y hy;have hnd:zam (Qr t) xs ≠ .dead:=λe=>by rw[e,ziv]at hy;cases hy
   have h1:=(Qy hG t _ y hy).2;rw[Ya hnd]at h1;refine VOk.one ?_ rfl rfl;simp only[TS.den];show View H (.pp (2*id) 0 ver) (.rp (encC t y));exact View.pp (Jf (hG id (by rw[hb];rfl)) hb gv) (by rw[wfa];exact h1.1) λi p q h3 h4=>h1.2 i p q (by rw[wfa]at h3;exact h3) h4
  ·rename_i _ d;split at h<;>cases h;rename_i y hy;have:=wai hy;subst this;refine VOk.one ?_ rfl rfl;simp only[TS.den];exact View.noP (.rp _ (yi _ _))
  ·exact Ql h
 |.nil,s,x,h=>by simp[z8]at h
 |.cons _ _,s,x,h=>by simp[z8]at h
 |.st r,s,x,h=>by
  simp only[z8]at h;split at h
  ·cases h;exact Ql (by assumption)
  ·split at h<;>try (cases h;done)
   rename_i xs hp;exact wcc hp rfl (z06 hG r xs x h)
 |.arr n t,s,x,h=>by
  simp only[z8]at h;split at h
  ·cases h;exact Ql (by assumption)
  ·split at h<;>try (cases h;done)
   rename_i xs hp;exact wcc hp rfl (zq5 (λs x=>Qy hG t s x) (ziv t) _ _ _ (zrq h))
 |.tup r,s,x,h=>by
  simp only[z8]at h;split at h
  ·rename_i _ xs;have h1:=zzb hG r xs x h;refine VOk.one ?_ rfl rfl;simp only[TS.den];exact View.tup h1.1 h1.2
  ·exact Ql h
theorem z06(hG:∀id,(G id).b.isSome=true->H (2*id)=qj (G id)):∀(r:Ty)(xs:List TS)(x:r.D),zd8 G r xs=some x->ViewL H (js xs) (encC r x)
 |.nil,xs,x,h=>by
  cases xs with
  |nil=>simp only[js,encC];exact ViewL.nil H
  |cons _ _=>simp[zd8]at h
 |.cons a r,xs,x,h=>by
  simp only[zd8]at h;split at h<;>try (cases h;done)
  rename_i q hq;split at h<;>try (cases h;done)
  rename_i p hp;split at h<;>try (cases h;done)
  rename_i y hy;cases h;obtain⟨h1,h2⟩:=Js _ _ _ _ hq;have hnd:zam (Qr a) q.1 ≠ .dead:=λe=>by rw[e,ziv]at hp;cases hp
  have h3:=(Qy hG a _ _ hp).2;rw[Ya hnd]at h3;simp only[encC];rw[<- h1];exact wbw h3 (z06 hG r q.2 y hy)
 |.int k,xs,x,h=>by simp[zd8]at h
 |.bool,xs,x,h=>by simp[zd8]at h
 |.str,xs,x,h=>by simp[zd8]at h
 |.sl t,xs,x,h=>by simp[zd8]at h
 |.ref t,xs,x,h=>by simp[zd8]at h
 |.st r,xs,x,h=>by simp[zd8]at h
 |.arr n t,xs,x,h=>by simp[zd8]at h
 |.tup r,xs,x,h=>by simp[zd8]at h
theorem zzb(hG:∀id,(G id).b.isSome=true->H (2*id)=qj (G id)):∀(r:Ty)(xs:List TS)(x:r.D),zc7 G r xs=some x->ViewL H (yk xs) (vz r (encC r x))
 |.nil,xs,x,h=>by
  cases xs with
  |nil=>simp only[yk,vz];exact ViewL.nil H
  |cons _ _=>simp[zc7]at h
 |.cons a r,xs,x,h=>by
  cases xs with
  |nil=>simp[zc7]at h
  |cons z xs=>
   simp only[zc7]at h;split at h<;>try (cases h;done)
   rename_i p hp;split at h<;>try (cases h;done)
   rename_i y hy;cases h;simp only[yk,encC,vz];have hl:=ju a p;rw[wg3 hl,wgo hl];exact ViewL.cons (Qy hG a z p hp).1 (zzb hG r xs y hy)
 |.int k,xs,x,h=>by simp[zc7]at h
 |.bool,xs,x,h=>by simp[zc7]at h
 |.str,xs,x,h=>by simp[zc7]at h
 |.sl t,xs,x,h=>by simp[zc7]at h
 |.ref t,xs,x,h=>by simp[zc7]at h
 |.st r,xs,x,h=>by simp[zc7]at h
 |.arr n t,xs,x,h=>by simp[zc7]at h
 |.tup r,xs,x,h=>by simp[zc7]at h
end
end
def pvs(ds:List Dyn):List PV:=ds.map Dyn.pv
def z73(ds:List Dyn):EF:=λs=>match ds[s]? with
 |some d => .v d
 |none=>UND
def zcp(P:Program)(E:EF)(G:EG):ResultVar->Option TS
 |.tmp t=>some (E t)
 |.cell a t=>match asz P t with
  |none=>none
  |some (ag,k)=>match E a with
   |.pt id off ver=>match Nat.beq (G id).ver ver with
    |true=>match (G id).b with
     |some (.box _ xs)=>ldT ag k off xs
     |_=>none
    |false=>none
   |_=>none
def zvx(P:Program)(E:EF)(G:EG):List ResultVar->Option (List TS)
 |[]=>some []
 |r::rs=>match zcp P E G r with
  |none=>none
  |some x=>match zvx P E G rs with
   |none=>none
   |some xs=>some (x::xs)
def zn4(P:Program)(rs:List ResultVar)(E:EF)(G:EG):Option TS:=match rs with
 |[r]=>zcp P E G r
 |l=>match zvx P E G l with
  |some xs=>some (.tup xs)
  |none=>none
section
variable{P:Program}{E:EF}{G:EG}{R:PHeap}
theorem zyq{r:ResultVar}{s:TS}(h:zcp P E G r=some s):∃q,z6 P (qf G R) (zj E) r=some q/\Ref q s.den:=by
 cases r with
 |tmp t=>simp only[zcp]at h;cases h;exact⟨_,rfl,Ref.refl _⟩
 |cell a t=>
  simp only[zcp]at h;split at h<;>try (cases h;done)
  rename_i ag k hsz;split at h<;>try (cases h;done)
  rename_i id off ver hE;split at h<;>try (cases h;done)
  rename_i hv;have hv:=wd9 hv;split at h<;>try (cases h;done)
  rename_i tid xs hb;obtain⟨⟨p,h1,h2⟩,_⟩:=zi6 h;refine⟨p,?_,h2⟩;show yc P (qf G R) t (E a).den=some p;rw[hE];simp only[TS.den];unfold yc;rw[hsz];simp only;rw[Jf (qe G R id) hb hv];exact h1
theorem z1o:∀{rs:List ResultVar}{xs:List TS},zvx P E G rs=some xs->∃qs,rs.mapM (z6 P (qf G R) (zj E))=some qs/\RefL qs (yk xs)
 |[],xs,h=>by simp only[zvx]at h;cases h;exact⟨[],rfl,by simp only[yk];exact RefL.nil⟩
 |r::rs,xs,h=>by
  simp only[zvx]at h;split at h<;>try (cases h;done)
  rename_i x hx;split at h<;>cases h;rename_i ys hys;obtain⟨q,h1,h2⟩:=zyq (R:=R) hx;obtain⟨qs,h3,h4⟩:=z1o hys;refine⟨q::qs,?_,by simp only[yk];exact RefL.cons h2 h4⟩;rw[wgl,h1,h3];rfl
theorem zya{fn:Func}{s:TS}(h:zn4 P fn.results.toList E G=some s):∃q,Qi P fn (zj E) (qf G R)=some q/\Ref q s.den:=by
 unfold zn4 at h;unfold Qi;generalize fn.results.toList=l at h;have many:∀{l:List ResultVar},(match zvx P E G l with
   |some xs=>some (TS.tup xs)
   |none=>none)=some s->∃q,(l.mapM (z6 P (qf G R) (zj E))).map .tup=some q/\Ref q s.den:=λ{l}h=>by
  split at h<;>cases h;rename_i xs hxs;obtain⟨qs,h1,h2⟩:=z1o (R:=R) hxs;exact⟨.tup qs,by rw[h1];rfl,by simp only[TS.den];exact Ref.tup h2⟩
 match l,h with
 |[],h=>exact many h
 |[r],h=>exact zyq h
 |_::_::_,h=>exact many h
end
def funP(P:Program)(sy:SyT)(hint:Nat->Option HK)(n:Nat)(rs:List ResultVar)(c:Code)(ats:List Ty)(rt:Ty)(nn:Nat)(t:DL ats):Option rt.D:=
 qp sy nn hint 0 0 n c 1 0 (z73 (Je ats t)) EG.empty λe _ E G=>match e with
  |.normal=>match zn4 P rs E G with
   |some s=>z8 G rt s
   |none=>none
  |.ret=>match zn4 P rs E G with
   |some s=>z8 G rt s
   |none=>none
  |_=>none
def zye(P:Program)(f:FuncId)(ats:List Ty)(rt:Ty)(g:DL ats->Option rt.D):Prop:=
 yx P f=true/\∀t r,g t=some r->PCall P f (pvs (Je ats t)) (· = enc rt r)
theorem zug:qf EG.empty PHeap.empty=PHeap.empty:=by
 funext k;unfold qf z7e;split<;>rfl
theorem wbt{P:Program}{f:FuncId}{fn:Func}{c:Code}{as':List PV}{R:PV->Prop}(hf:P.funcs[f]?=some fn)(hb:fn.body=some c)(hl:as'.length<=fn.ntmps)
  (h:∀W:Env,(∀i,W.G i=.unk)->PC P W fn.ntmps c (V7 as') PHeap.empty λe F H=>(e=.normal\/e=.ret)/\∃q p,Qi P fn F H=some q/\View H q p/\NoP p/\R p):PCall P f as' R:=λZ w vs hz hzm hR=>by
 refine calls_of_wp hf hb (h { w:=w,Z:=Z,hm:=hzm } (λ_=>rfl) V0 _ w _ (Rel.enter hz hzm hR hl) λe F' H' V' a' w'⟨he,q,p,hq,hv,hn,hp⟩ hr=>?_);obtain⟨v,hrun,hqv⟩:=zej hr hq;have:=hv P _ V' w' hr.heap v hqv;rcases he with rfl|rfl
 ·exact⟨hr.defers,v,hrun,v,p,rfl,hp,hn,this,hr.heap.below⟩
 ·exact⟨hr.defers,v,hrun,v,p,rfl,hp,hn,this,hr.heap.below⟩
theorem zq2(ds:List Dyn):V7 (pvs ds)=zj (z73 ds):=by
 funext t;unfold V7 zj z73 pvs;rw[web];cases ds[t]? with
 |none=>simp only[Option.map_none,Option.getD_none];exact und_den.symm
 |some d=>simp only[wer,wfd,TS.den];rfl
theorem zrv:∀(ts:List Ty)(t:DL ts),(Je ts t).length=ts.length
 |[],_=>rfl
 |[t],_=>rfl
 |t::u::ts,x=>by simp only[Je,we2,zrv (u::ts)]
theorem jcz{P:Program}{sy:SyT}(hsy:zpk P sy)(hm:P.follows .mixedOrders=true){hint:Nat->Option HK}{n:Nat}{rs:List ResultVar}{c:Code}{ats:List Ty}{rt:Ty}{nn:Nat}{f:FuncId}{fn:Func}(hf:P.funcs[f]?=some fn)(hb:fn.body=some c)(hn:fn.ntmps=n)(hr:fn.results.toList=rs)(hl:Nat.ble ats.length n=true)(hg:yx P f=true):zye P f ats rt (funP P sy hint n rs c ats rt nn):=by
 subst hn;subst hr;refine⟨hg,λt r h=>?_⟩;have hl':(pvs (Je ats t)).length<=fn.ntmps:=by unfold pvs;rw[wey,zrv];exact wf1 hl
 refine wbt hf hb hl' λW hW=>?_;have hR:RestOk 0 PHeap.empty:=λi bd h=>by simp[PHeap.empty]at h
 have hGh:GhOk 0 W:=λi=>by rw[hW];exact .unk
 obtain⟨e,nx,E',G',h3,_,ho⟩:=ze (P:=P) (fuel:=nn) (hint:=hint) (ctx:=0) (n:=fn.ntmps) (b:=0) hm hsy c 1 0 (z73 (Je ats t)) EG.empty _ r h;have this:=ho W PHeap.empty hGh hR;rw[zug]at this;rw[zq2];refine PC.mono this λe2 F' H'⟨h0,h1,h2⟩=>?_;subst h0;subst h1;subst h2;have key:∀{o:Option TS},o=zn4 P fn.results.toList E' G'->(match o with
   |some s=>z8 G' rt s
   |none=>none)=some r->∃q p,Qi P fn (zj E') (qf G' PHeap.empty)=some q/\View (qf G' PHeap.empty) q p/\NoP p/\p=enc rt r:=λ{o}ho h=>by
  cases o with
  |none=>cases h
  |some s=>
   simp only at h;obtain⟨q,hq,hrq⟩:=zya (R:=PHeap.empty) ho.symm;have hv:=(Qy (H:=qf G' PHeap.empty) (λid _=>qe G' PHeap.empty id) rt s r h).1;exact⟨q,_,hq,λP W V w hw v hv'=>hv P W V w hw v (hrq _ _ _ _ _ hv'),Q7 _ _,rfl⟩
 cases e2 with
 |normal=>exact⟨.inl rfl,key rfl h3⟩
 |ret=>exact⟨.inr rfl,key rfl h3⟩
 |_=>cases h3
structure PF where
 ats:List Ty
 rt:Ty
 g:DL ats->Option rt.D
abbrev z2d:=FuncId->Option PF
def Vm(P:Program)(S:z2d):Prop:=∀f x,S f=some x->zye P f x.ats x.rt x.g
def zxc(E:EF)(c:Call):Option (FuncId×List TS):=match c.callee with
 |.value x=>match evE E x with
  |.fn (.func f) a b=>some (f,a++c.args.toList.map (evE E)++b)
  |_=>none
 |_=>none
mutual
def zpt:TS->Bool
 |.v _=>true
 |.c _=>true
 |.rd _=>true
 |.fn _ a b=>zna a && zna b
 |.agg xs=>zna xs
 |.tup xs=>zna xs
 |_=>false
def zna:List TS->Bool
 |[]=>true
 |x::xs=>zpt x && zna xs
end
mutual
theorem z4f:∀s:TS,zpt s=true->NoP s.den
 |.v d,h=>by simp only[TS.den];exact Q7 _ _
 |.c v,h=>by simp only[TS.den];exact zes v
 |.rd d,h=>by simp only[TS.den];exact .rp _ (yi _ _)
 |.fn f a b,h=>by
  simp only[zpt,wd8]at h;simp only[TS.den];exact .fn _ _ _ (zec a h.1).1 (zec b h.2).1
 |.agg xs,h=>by
  simp only[zpt]at h;simp only[TS.den];exact .agg _ (zec xs h).2
 |.tup xs,h=>by
  simp only[zpt]at h;simp only[TS.den];exact .tup _ (zec xs h).1
 |.own _ _,h=>by simp[zpt]at h
 |.q _ _ _ _,h=>by simp[zpt]at h
 |.pt _ _ _,h=>by simp[zpt]at h
 |.elt _ _ _ _ _,h=>by simp[zpt]at h
 |.dead,h=>by simp[zpt]at h
theorem zec:∀xs:List TS,zna xs=true->(∀p∈yk xs,NoP p)/\∀p∈js xs,NoP p
 |[],_=>⟨λp hp=>by simp[yk]at hp,λp hp=>by simp[js]at hp⟩
 |x::xs,h=>by
  simp only[zna,wd8]at h;have h1:=z4f x h.1;obtain⟨h2,h3⟩:=zec xs h.2;refine⟨λp hp=>?_,λp hp=>?_⟩
  ·simp only[yk,wep]at hp;rcases hp with rfl|hp
   ·exact h1
   ·exact h2 p hp
  ·simp only[js,wej]at hp;rcases hp with hp|hp
   ·exact h1.cell hp
   ·exact h3 p hp
end
def zen:(ts:List Ty)->List TS->Option (DL ts)
 |[],[]=>some ()
 |[t],[x]=>toT t x
 |t::u::ts,x::xs=>match toT t x with
  |none=>none
  |some a=>match zen (u::ts) xs with
   |none=>none
   |some b=>some (a,b)
 |_,_=>none
theorem zu8:∀{ts:List Ty}{xs:List TS}{t:DL ts},zen ts xs=some t->RefL (yk xs) (pvs (Je ts t))
 |[],xs,t,h=>by
  cases xs with
  |nil=>simp only[yk];exact RefL.nil
  |cons _ _=>simp[zen]at h
 |[a],xs,t,h=>by
  match xs,h with
  |[x],h=>
   simp only[zen]at h;simp only[yk];exact RefL.cons (zaz _ _ _ h).2 RefL.nil
  |[],h=>simp[zen]at h
  |_::_::_,h=>simp[zen]at h
 |a::u::ts,xs,t,h=>by
  cases xs with
  |nil=>simp[zen]at h
  |cons x xs=>
   simp only[zen]at h;split at h<;>try (cases h;done)
   rename_i p hp;split at h<;>cases h;rename_i q hq;simp only[yk];exact RefL.cons (zaz _ _ _ hp).2 (zu8 hq)
def jax(S:z2d)(E:EF)(c:Call):Option SR:=match zxc E c with
 |none=>none
 |some (f,az)=>match S f with
  |none=>none
  |some x=>match zna az with
   |true=>match zen x.ats az with
    |some t=>some (.vo x.rt (x.g t))
    |none=>none
   |false=>none
section
variable{P:Program}{o:Oper}{E:EF}{G:EG}{rd:List Nat}{F:PFrame}{H:PHeap}{W:Env}
theorem zk2{c:Call}{f:FuncId}{az:List TS}(ho:o.op=.call c)(hag:Agr o E G rd F H)(h:zxc E c=some (f,az)):yr F c=some (f,yk az):=by
 unfold zxc at h;unfold yr;split at h
 ·rename_i x hc;rw[hc];simp only;have hx:evP F x=(evE E x).den:=hag.ev (by rw[ho];simp[Op.operands,Call.operands,hc]);split at h
  ·rename_i g a b hx';cases h;rw[hx,hx'];have e:c.args.toList.map (evP F)=yk (c.args.toList.map (evE E)):=by
    rw[zb5,wff];exact we9 λy hy=>hag.ev (by rw[ho];simp only[Op.operands,Call.operands,Array.mem_append];exact .inr (by simpa using hy))
   simp only[TS.den,z0g,e]
  ·cases h
 ·cases h
theorem jau{S:z2d}(hS:Vm P S){c:Call}{q:SR}(ho:o.op=.call c)(h:jax S E c=some q):SOk P o E G q:=by
 unfold jax at h;split at h<;>try (cases h;done)
 rename_i f az ht;split at h<;>try (cases h;done)
 rename_i x hx;split at h<;>try (cases h;done)
 rename_i hn;split at h<;>cases h;rename_i t hrd;obtain⟨hg,hc⟩:=hS f x hx;refine SOk.vo λr hr W F H hag=>?_;have hnp:=(zec az hn).1;have hrf:=zu8 hrd;have hv:ViewL PHeap.empty (yk az) (pvs (Je x.ats t)):=⟨hrf.1,λi p q h1 h2=>View.ref (View.noP (hnp p (wd7 h1))) (hrf.2 i p q h1 h2)⟩
 exact wbv ho (zk2 ho hag ht) hg hv hnp (hc t r hr)
end
mutual
def idvT:TS->List (Nat×Nat)
 |.own id ver=>[(id,ver)]
 |.q id _ _ ver=>[(id,ver)]
 |.pt id _ ver=>[(id,ver)]
 |.elt id _ _ _ ver=>[(id,ver)]
 |.fn _ a b=>zfm a++zfm b
 |.agg xs=>zfm xs
 |.tup xs=>zfm xs
 |_=>[]
def zfm:List TS->List (Nat×Nat)
 |[]=>[]
 |x::xs=>idvT x++zfm xs
end
def Z3(G:EG):List (Nat×Nat)->List Nat
 |[]=>[]
 |x::r=>match Nat.beq x.2 (G x.1).ver && (G x.1).b.isSome with
  |true=>x.1::Z3 G r
  |false=>Z3 G r
def idsB:Option BD->List (Nat×Nat)
 |some (.rowx _ _ xs)=>zfm xs
 |some (.box _ xs)=>zfm xs
 |_=>[]
def zm9(G:EG):Nat->List Nat->List Nat->Option (List Nat)
 |0,_,_=>none
 |m+1,[],seen=>some seen
 |m+1,i::t,seen=>match zfy seen i with
  |true=>zm9 G m t seen
  |false=>zm9 G m (Z3 G (idsB (G i).b)++t) (seen++[i])
theorem Qu{l:List Nat}{x:Nat}:zfy l x=true↔x∈l:=by
 unfold zfy;rw[wgq];constructor
 ·rintro⟨y,h,e⟩;rw[qz e];exact h
 ·exact λh=>⟨x,h,wg8 x⟩
def zan(D:List Nat)(G:EG):EG:=λid=>match zfy D id with
 |true=>G id
 |false=>⟨(G id).ver,none⟩
mutual
def scT:Ty->Bool
 |.int _=>true
 |.bool=>true
 |.str=>true
 |.arr _ t=>scT t
 |.nil=>true
 |.cons a r=>scT a && scT r
 |.st r=>scT r
 |.tup r=>scT r
 |_=>false
end
theorem z8r{t:Ty}{cs:List PV}(hl:cs.length=wid t)(h:∀c∈cs,Sc c):Sc (mkV t cs):=by
 unfold mkV;cases ha:Qr t with
 |true=>exact .agg _ h
 |false=>
  rw[zcm ha]at hl
  match cs,hl with
  |[c],_=>exact h c (by simp)
mutual
theorem zfe:∀(t:Ty)(x:t.D),scT t=true->∀c∈encC t x,Sc c
 |.int k,x,h,c,hc=>by simp only[encC,wea]at hc;subst hc;exact .u _
 |.bool,x,h,c,hc=>by simp only[encC,wea]at hc;subst hc;exact .u _
 |.str,x,h,c,hc=>by simp only[encC,wea]at hc;subst hc;exact .u _
 |.sl _,x,h,c,hc=>by simp[scT]at h
 |.ref _,x,h,c,hc=>by simp[scT]at h
 |.arr n t,x,h,c,hc=>by
  simp only[scT]at h;simp only[encC]at hc;obtain⟨y,_,hy⟩:=wfe.1 hc;exact zfe t y h c hy
 |.nil,x,h,c,hc=>by simp[encC]at hc
 |.cons a r,x,h,c,hc=>by
  simp only[scT,wd8]at h;simp only[encC,wej]at hc;rcases hc with hc|hc
  ·exact zfe a x.1 h.1 c hc
  ·exact zfe r x.2 h.2 c hc
 |.st r,x,h,c,hc=>by
  simp only[scT]at h;simp only[encC]at hc;exact zfe r x h c hc
 |.tup r,x,h,c,hc=>by
  simp only[scT]at h;simp only[encC,wea]at hc;subst hc;exact .tup _ (zvv r x h)
theorem zvv:∀(r:Ty)(x:r.D),scT r=true->∀p∈vz r (encC r x),Sc p
 |.int k,x,h,c,hc=>by simp[vz]at hc
 |.bool,x,h,c,hc=>by simp[vz]at hc
 |.str,x,h,c,hc=>by simp[vz]at hc
 |.sl _,x,h,c,hc=>by simp[vz]at hc
 |.ref _,x,h,c,hc=>by simp[vz]at hc
 |.arr n t,x,h,c,hc=>by simp[vz]at hc
 |.nil,x,h,c,hc=>by simp[vz]at hc
 |.st r,x,h,c,hc=>by simp[vz]at hc
 |.tup r,x,h,c,hc=>by simp[vz]at hc
 |.cons a r,x,h,c,hc=>by
  simp only[scT,wd8]at h;simp only[vz,encC]at hc;rw[wg3 (ju a x.1),wgo (ju a x.1)]at hc;rcases wep.1 hc with rfl|hc
  ·exact z8r (ju a x.1) (zfe a x.1 h.1)
  ·exact zvv r x.2 h.2 c hc
end
def rdV(G:EG):(ts:List Ty)->List TS->Option (DL ts)
 |[],[]=>some ()
 |[t],[x]=>z8 G t x
 |t::u::ts,x::xs=>match z8 G t x with
  |none=>none
  |some a=>match rdV G (u::ts) xs with
   |none=>none
   |some b=>some (a,b)
 |_,_=>none
theorem z10{G:EG}{H:PHeap}(hG:∀id,(G id).b.isSome=true->H (2*id)=qj (G id)):∀{ts:List Ty}{xs:List TS}{t:DL ts},rdV G ts xs=some t->ViewL H (yk xs) (pvs (Je ts t))
 |[],xs,t,h=>by
  cases xs with
  |nil=>simp only[yk];exact ViewL.nil H
  |cons _ _=>simp[rdV]at h
 |[a],xs,t,h=>by
  match xs,h with
  |[x],h=>
   simp only[rdV]at h;simp only[yk];exact ViewL.cons (Qy hG _ _ _ h).1 (ViewL.nil H)
  |[],h=>simp[rdV]at h
  |_::_::_,h=>simp[rdV]at h
 |a::u::ts,xs,t,h=>by
  cases xs with
  |nil=>simp[rdV]at h
  |cons x xs=>
   simp only[rdV]at h;split at h<;>try (cases h;done)
   rename_i p hp;split at h<;>cases h;rename_i q hq;simp only[yk];exact ViewL.cons (Qy hG _ _ _ hp).1 (z10 hG hq)
def z2m(S:z2d)(E:EF)(G:EG)(c:Call):Option SR:=match zxc E c with
 |none=>none
 |some (f,az)=>match S f with
  |none=>none
  |some x=>match scT x.rt with
   |false=>none
   |true=>match zm9 G 1000 (Z3 G (zfm az)) []with
    |none=>none
    |some D=>match rdV (zan D G) x.ats az with
     |some t=>some (.dat x.rt.D (x.g t) (λy=> .v ⟨x.rt,y⟩) D)
     |none=>none
theorem z58{P:Program}{o:Oper}{E:EF}{G:EG}{S:z2d}(hS:Vm P S){c:Call}{q:SR}(ho:o.op=.call c)(h:z2m S E G c=some q):SOk P o E G q:=by
 unfold z2m at h;split at h<;>try (cases h;done)
 rename_i f az ht;split at h<;>try (cases h;done)
 rename_i x hx;split at h<;>try (cases h;done)
 rename_i hsc;split at h<;>try (cases h;done)
 rename_i D hD;split at h<;>cases h;rename_i t hrd;obtain⟨hg,hc⟩:=hS f x hx;refine SOk.dat λr hr W F H hag=>?_;have hv:=z10 (H:=H) (λid hs=>by
  unfold zan at *;cases hm:zfy D id with
  |true=>exact hag.h id (Qu.1 hm)
  |false=>rw[hm]at hs;simp at hs) hrd
 simp only[TS.den];exact wdt ho (zk2 ho hag ht) hg hv (hc t r hr) (z8r (ju _ _) (zfe _ _ hsc))
open Go Go.RowKit Go.ChangeShapes Go.WideShapes L
instance {n:Nat}{α:Type} [Inhabited α]:Inhabited (Arr n α):=⟨⟨List.replicate n default,wd6⟩⟩
def OkD:(t:Ty)->t.D->Prop
 |.int k,z=>OkI k z
 |.bool,_=>True
 |.str,s=>s.length<=maxLen
 |.sl t,l=>l.length<=maxLen/\∀x∈l,OkD t x
 |.ref _,_=>True
 |.arr _ t,a=>∀x∈a.l,OkD t x
 |.nil,_=>True
 |.cons a r,x=>OkD a x.1/\OkD r x.2
 |.st r,x=>OkD r x
 |.tup r,x=>True
section
variable{H:Type}{ec:TypeId × Value → H}{P:Program}{w:World}{base:Nat}{spare:Nat → Bool}{held:Bool}
abbrev OpenT(ec:TypeId×Value->H)(P:Program)(w:World)(base:Nat)(spare:Nat->Bool)(held:Bool)(t:TypeId)(y:Ty):Prop:=znf ec P w base spare held t (enc y) (OkD y)
theorem op_int{t:TypeId}{k:IntKind}(ht:P.underlying t=some (.int k)):OpenT ec P w base spare held t (.int k):=z7j ht
theorem op_bool{t:TypeId}(ht:P.underlying t=some .bool):OpenT ec P w base spare held t .bool:=z33 ht
theorem op_str{t:TypeId}(ht:P.underlying t=some .string):OpenT ec P w base spare held t .str:=λfuel cs x h=>by
 obtain⟨s,h1,h2⟩:=z7l ht fuel cs x h;exact⟨s.data.toList,h1,h2⟩
theorem op_sl{t e:TypeId}{y:Ty}[Inhabited y.D](ht:P.underlying t=some (.slice e))(hk:P.cellsOf e=wid y)(hpos:0<wid y)(he:OpenT ec P w base spare held e y):OpenT ec P w base spare held t (.sl y):=λfuel cs x h=>by
 obtain⟨l,h1,h2⟩:=z9e ht hk hpos (λa=>by rw[enc_cells];exact ju y a) he fuel cs x h;exact⟨l,h1,h2⟩
theorem op_arr{t e:TypeId}{n:Nat}{y:Ty}[Inhabited y.D](ht:P.underlying t=some (.array n e))(hk:P.cellsOf e=1)(hn:P.cellsOf t=n)(hc:∀a:y.D,encC y a=[enc y a])(he:OpenT ec P w base spare held e y):OpenT ec P w base spare held t (.arr n y):=λfuel cs x h=>by
 obtain⟨a,h1,h2⟩:=z6r ht hk hn (λa=>by rw[enc_cells,hc]) he fuel cs x h;refine⟨⟨a.1,a.2⟩,?_,h2⟩;have e:(enc (.arr n y) (⟨a.1,a.2⟩:Arr n y.D)).cells=(arV (n:=n) (enc y) a).cells:=by
  rw[enc_cells];show a.1.flatMap (encC y)=a.1.map (enc y);generalize a.1=l;induction l with
  |nil=>rfl
  |cons b l ih=>rw[wex,hc,ih];rfl
 rw[e];exact h1
end
theorem row_pure{f:FuncId}{ats:List Ty}{g:DL ats->Option Bool}(h:zye Tryz.prog f ats .bool g){t:DL ats}(hg:g t=some true){w:World}{vs:List Value}(hr:RpL F0 PHeap.empty V0 w (pvs (Je ats t)) vs):Calls Tryz.prog f vs.toArray w λe w'=>e=.returned (.bool true)/\Below w.heap.size w w':=
 z59 (h.2 t true hg) hr
abbrev IdM:=Nat->Nat->Option (Nat×Nat)
mutual
def yl(φ:IdM):PV->PV
 |.ps id ver=>match φ id ver with
  |some x => .ps x.1 x.2
  |none => .unk
 |.qs id off k ver=>match φ id ver with
  |some x => .qs x.1 off k x.2
  |none => .unk
 |.pp id off ver=>match φ id ver with
  |some x => .pp x.1 off x.2
  |none => .unk
 |.fn f a b => .fn f (zdn φ a) (zdn φ b)
 |.agg xs => .agg (zdn φ xs)
 |.tup xs => .tup (zdn φ xs)
 |.u v => .u v
 |.unk => .unk
 |.sl k xs => .sl k xs
 |.fr t k xs => .fr t k xs
 |.rp xs => .rp xs
def zdn(φ:IdM):List PV->List PV
 |[]=>[]
 |x::xs=>yl φ x::zdn φ xs
end
theorem qy(φ:IdM):∀xs:List PV,zdn φ xs=xs.map (yl φ)
 |[]=>by simp only[zdn,wfk]
 |x::xs=>by simp only[zdn,wen,qy φ xs]
theorem zdy{φ:IdM}{p:PV}(h:NoP p):yl φ p=p:=by
 induction h with
 |u v=>simp only[yl]
 |agg cs h ih=>simp only[yl,qy];rw[we9 ih,List.map_id']
 |tup cs h ih=>simp only[yl,qy];rw[we9 ih,List.map_id']
 |sl k xs h ih=>simp only[yl]
 |fr t k xs h ih=>simp only[yl]
 |rp xs h ih=>simp only[yl]
 |fn f a b ha hb iha ihb=>simp only[yl,qy];rw[we9 iha,we9 ihb,List.map_id',List.map_id']
theorem z3f(φ:IdM)(p:PV):(yl φ p).cells=p.cells.map (yl φ):=by
 cases p with
 |ps id ver=>simp only[yl,PV.cells,wen,wfk];cases φ id ver<;>rfl
 |qs id off k ver=>simp only[yl,PV.cells,wen,wfk];cases φ id ver<;>rfl
 |pp id off ver=>simp only[yl,PV.cells,wen,wfk];cases φ id ver<;>rfl
 |_=>simp only[yl,PV.cells,wen,wfk,qy]
section
variable{Z:ZM}{H H1 H2:PHeap}{V V1 V2:Nat → Value}{w w0:World}{φ:IdM}
theorem zbd{p:PV}{v:Value}(h:Rp Z H V w p v)(hf:Fl p)
  (hz:∀c,c<w.heap.size->¬PZ Z H V c->¬PZ Z H1 V1 c)
  (hk:∀id ver x,φ id ver=some x->ver<=(H id).ver->x.2<=(H1 x.1).ver/\((H1 x.1).body.isSome=true->(H1 x.1).ver=x.2->(H id).body.isSome=true/\(H id).ver=ver/\V1 x.1=V id)):Rp Z H1 V1 w (yl φ p) v:=by
 induction h with
 |u v=>simp only[yl];exact .u v
 |unk v=>simp only[yl];exact .unk v
 |agg cs vs hl h ih=>
  simp only[yl,qy];refine .agg _ vs (by simp[hl]) λi p v h1 h2=>?_;rw[web]at h1;obtain⟨q,hq,rfl⟩:=wee.1 h1;refine ih i q v hq h2 ?_;cases hf with
  |noP hn=>cases hn with|agg _ k=>exact .noP (k q (wd7 hq))
  |agg k=>exact k q (wd7 hq)
 |tup cs vs hl h ih=>
  simp only[yl,qy];refine .tup _ vs (by simp[hl]) λi p v h1 h2=>?_;rw[web]at h1;obtain⟨q,hq,rfl⟩:=wee.1 h1;refine ih i q v hq h2 ?_;cases hf with
  |noP hn=>cases hn with|tup _ k=>exact .noP (k q (wd7 hq))
  |tup k=>exact k q (wd7 hq)
 |fn f a b va vb hla hlb ha hb iha ihb=>
  simp only[yl,qy];refine .fn f _ _ va vb (by simp[hla]) (by simp[hlb]) (λi p v h1 h2=>?_) λi p v h1 h2=>?_
  ·rw[web]at h1;obtain⟨q,hq,rfl⟩:=wee.1 h1;refine iha i q v hq h2 ?_;cases hf with
   |noP hn=>cases hn with|fn _ _ _ k1 k2=>exact .noP (k1 q (wd7 hq))
   |fn k1 k2=>exact k1 q (wd7 hq)
  ·rw[web]at h1;obtain⟨q,hq,rfl⟩:=wee.1 h1;refine ihb i q v hq h2 ?_;cases hf with
   |noP hn=>cases hn with|fn _ _ _ k1 k2=>exact .noP (k2 q (wd7 hq))
   |fn k1 k2=>exact k2 q (wd7 hq)
 |nil k a c=>simp only[yl];exact .nil k a c
 |sl k xs b' o c g hu hlen hz' hb' h1 h2 ih=>
  simp only[yl];cases hf with|noP hn=>exact Rp.noP (.sl k xs b' o c g hu hlen hz' hb' h1 h2) hn hz
 |fr t k xs v vals hu ho hz' h1 h2 ih=>
  simp only[yl];cases hf with|noP hn=>exact Rp.noP (.fr t k xs v vals hu ho hz' h1 h2) hn hz
 |rp cs b' o g hz' hb' h1 h2 ih=>
  simp only[yl];cases hf with|noP hn=>exact Rp.noP (.rp cs b' o g hz' hb' h1 h2) hn hz
 |ps id ver v hv h=>
  simp only[yl];split
  ·rename_i x hx;obtain⟨k1,k2⟩:=hk id ver x hx hv;exact .ps _ _ v k1 λg1 g2=>by obtain⟨a,b,c⟩:=k2 g1 g2;rw[c];exact h a b
  ·exact .unk v
 |qs id off k ver v hv h=>
  simp only[yl];split
  ·rename_i x hx;obtain⟨k1,k2⟩:=hk id ver x hx hv;exact .qs _ _ _ _ v k1 λg1 g2=>by obtain⟨a,b,c⟩:=k2 g1 g2;rw[c];exact h a b
  ·exact .unk v
 |pp id off ver v hv h=>
  simp only[yl];split
  ·rename_i x hx;obtain⟨k1,k2⟩:=hk id ver x hx hv;exact .pp _ _ _ v k1 λg1 g2=>by obtain⟨a,b,c⟩:=k2 g1 g2;rw[c];exact h a b
  ·exact .unk v
inductive FlV(H:PHeap):PV->Prop
 |noP {p:PV}(h:NoP p):FlV H p
 |unk:FlV H .unk
 |ps {i ver:Nat}(h:ver<=(H i).ver):FlV H (.ps i ver)
 |qs {i off k ver:Nat}(h:ver<=(H i).ver):FlV H (.qs i off k ver)
 |pp {i off ver:Nat}(h:ver<=(H i).ver):FlV H (.pp i off ver)
 |fn {f:Fn}{x y:List PV}(hx:∀p∈x,FlV H p) (hy:∀p∈y,FlV H p):FlV H (.fn f x y)
 |agg {xs:List PV}(h:∀p∈xs,FlV H p):FlV H (.agg xs)
 |tup {xs:List PV}(h:∀p∈xs,FlV H p):FlV H (.tup xs)
theorem zqu{α:Type}{xs:List α}{p:α}(h:p∈xs):∃i:Nat,xs[i]?=some p:=by
 obtain⟨i,hi,e⟩:=List.mem_iff_getElem.1 h;exact⟨i,by rw[wd2 hi,e]⟩
theorem zwl {p : PV} {v : Value} (h : Rp Z H V w p v) (hf : Fl p) : FlV H p := by
  induction h with
  | u v => exact .noP (.u v)
  | unk v => exact .unk
  | agg cs vs hl h ih =>
    cases hf with
    | noP hn => exact .noP hn
    | agg k => refine .agg fun p hp => ?_
               obtain ⟨i, hi⟩ := zqu hp
               have hlt : i < vs.size := by rw [← hl]; exact (wd5.1 hi).1
               exact ih i p _ hi (wet hlt) (k p hp)
  | tup cs vs hl h ih =>
    cases hf with
    | noP hn => exact .noP hn
    | tup k => refine .tup fun p hp => ?_
               obtain ⟨i, hi⟩ := zqu hp
               have hlt : i < vs.size := by rw [← hl]; exact (wd5.1 hi).1
               exact ih i p _ hi (wet hlt) (k p hp)
  | fn f a b va vb hla hlb ha hb iha ihb =>
    cases hf with
    | noP hn => exact .noP hn
    | fn k1 k2 =>
      refine .fn (fun p hp => ?_) fun p hp => ?_
      · obtain ⟨i, hi⟩ := zqu hp
        have hlt : i < va.size := by rw [← hla]; exact (wd5.1 hi).1
        exact iha i p _ hi (wet hlt) (k1 p hp)
      · obtain ⟨i, hi⟩ := zqu hp
        have hlt : i < vb.size := by rw [← hlb]; exact (wd5.1 hi).1
        exact ihb i p _ hi (wet hlt) (k2 p hp)
  | nil k a c => exact .noP (.sl k [] fun c hc => by cases hc)
  | sl k xs b' o c g hu hlen hz' hb' h1 h2 ih => cases hf with | noP hn => exact .noP hn
  | fr t k xs v vals hu ho hz' h1 h2 ih => cases hf with | noP hn => exact .noP hn
  | rp cs b' o g hz' hb' h1 h2 ih => cases hf with | noP hn => exact .noP hn
  | ps id ver v hv h => exact .ps hv
  | qs id off k ver v hv h => exact .qs hv
  | pp id off ver v hv h => exact .pp hv
def Back(φ:IdM)(H H1 H2:PHeap)(V1 V2:Nat->Value):Prop:=∀id ver,ver<=(H id).ver->ver<=(H2 id).ver/\((H2 id).body.isSome=true->(H2 id).ver=ver->∃x,φ id ver=some x/\(H1 x.1).body.isSome=true/\(H1 x.1).ver=x.2/\V2 id=V1 x.1)
theorem ja9{p:PV}{v:Value}(hf:FlV H p)(h:Rp Z H1 V1 w (yl φ p) v)(hz:∀c,c<w.heap.size->¬PZ Z H1 V1 c->¬PZ Z H2 V2 c)(hk:Back φ H H1 H2 V1 V2):Rp Z H2 V2 w p v:=by
 induction hf generalizing v with
 |noP hn=>rw[zdy hn]at h;exact Rp.noP h hn hz
 |unk=>exact .unk v
 |ps hv=>
  rename_i i ver;obtain⟨k1,k2⟩:=hk i ver hv;refine .ps _ _ v k1 λg1 g2=>?_;obtain⟨x,hx,a,b,c⟩:=k2 g1 g2;simp only[yl,hx]at h;cases h with|ps _ _ _ _ h=>rw[c];exact h a b
 |qs hv=>
  rename_i i off k ver;obtain⟨k1,k2⟩:=hk i ver hv;refine .qs _ _ _ _ v k1 λg1 g2=>?_;obtain⟨x,hx,a,b,c⟩:=k2 g1 g2;simp only[yl,hx]at h;cases h with|qs _ _ _ _ _ _ h=>rw[c];exact h a b
 |pp hv=>
  rename_i i off ver;obtain⟨k1,k2⟩:=hk i ver hv;refine .pp _ _ _ v k1 λg1 g2=>?_;obtain⟨x,hx,a,b,c⟩:=k2 g1 g2;simp only[yl,hx]at h;cases h with|pp _ _ _ _ _ h=>rw[c];exact h a b
 |fn hx hy ih1 ih2=>
  simp only[yl,qy]at h;cases h with
  |fn _ _ _ va vb hla hlb ha hb=>
   simp only[wey]at hla hlb;refine .fn _ _ _ va vb hla hlb (λi p u h1 h2=>ih1 p (wd7 h1) (ha i _ u (by rw[web,h1];rfl) h2)) λi p u h1 h2=>ih2 p (wd7 h1) (hb i _ u (by rw[web,h1];rfl) h2)
 |agg hx ih=>
  simp only[yl,qy]at h;cases h with
  |agg _ vs hl h=>
   simp only[wey]at hl;exact .agg _ vs hl λi p u h1 h2=>ih p (wd7 h1) (h i _ u (by rw[web,h1];rfl) h2)
 |tup hx ih=>
  simp only[yl,qy]at h;cases h with
  |tup _ vs hl h=>
   simp only[wey]at hl;exact .tup _ vs hl λi p u h1 h2=>ih p (wd7 h1) (h i _ u (by rw[web,h1];rfl) h2)
theorem zca{cs:List PV}{vs:List Value}(h:RpL Z H V w cs vs)(hm:∀c∈cs,∀v,Rp Z H V w c v->Rp Z H1 V1 w (yl φ c) v):RpL Z H1 V1 w (zdn φ cs) vs:=⟨by rw[qy,wey];exact h.1,λi p v h1 h2=>by
 rw[qy,web]at h1;obtain⟨q,hq,rfl⟩:=wee.1 h1;exact hm q (wd7 hq) v (h.2 i q v hq h2)⟩
theorem zxo{cs:List PV}{vs:List Value}(hf:∀c∈cs,FlV H c)(h:RpL Z H1 V1 w (zdn φ cs) vs)(hz:∀c,c<w.heap.size->¬PZ Z H1 V1 c->¬PZ Z H2 V2 c)(hk:Back φ H H1 H2 V1 V2):RpL Z H2 V2 w cs vs:=⟨by have:=h.1;rw[qy,wey]at this;exact this,λi p v h1 h2=>by
 refine ja9 (hf p (wd7 h1)) (h.2 i _ v ?_ h2) hz hk;rw[qy,web,h1];rfl⟩
inductive BTr(Z:ZM)(H1 H2:PHeap)(V1 V2:Nat->Value)(w:World):PBody->PBody->Prop
 |row {t:TypeId}{k n:Nat}{cs cs':List PV}(h:∀vs,RpL Z H1 V1 w cs vs->RpL Z H2 V2 w cs' vs):BTr Z H1 H2 V1 V2 w (.row t k n cs) (.row t k n cs')
 |box {t:TypeId}{cs cs':List PV}(h:∀vs,RpL Z H1 V1 w cs vs->RpL Z H2 V2 w cs' vs):BTr Z H1 H2 V1 V2 w (.box t cs) (.box t cs')
 |raw {p:Bool}{φ:Nat->Obj->List Value->Prop}{cs cs':List PV}(h:∀vs,RpL Z H1 V1 w cs vs->RpL Z H2 V2 w cs' vs):BTr Z H1 H2 V1 V2 w (.raw p cs φ) (.raw p cs' φ)
theorem z99(hl:∀id,(H2 id).body.isSome=true->∃i,(H1 i).body.isSome=true/\V2 id=V1 i){c:Nat}(h:¬PZ Z H1 V1 c):¬PZ Z H2 V2 c:=by
 rintro(h2|⟨id,h2,h3⟩)
 ·exact h (.inl h2)
 ·obtain⟨i,h4,e⟩:=hl id h2;exact h (.inr ⟨i,h4,by rw[<- e];exact h3⟩)
theorem HRel.ren{P:Program}{W W2:Env}(hr:HRel P W H1 V1 w)(σ:Nat->Nat)(hw:W2.w=W.w)(hZ:W2.Z=W.Z)(hg:∀i,Rp W.Z H2 V2 w (W2.G i) (W2.gv i))
  (hl:∀id bd,(H2 id).body=some bd->∃bd1,(H1 (σ id)).body=some bd1/\V2 id=V1 (σ id)/\BTr W.Z H1 H2 V1 V2 w bd1 bd)
  (hi:∀id id',(H2 id).body.isSome=true->(H2 id').body.isSome=true->σ id=σ id'->id=id'):HRel P W2 H2 V2 w:=by
 have hl':∀id,(H2 id).body.isSome=true->(H1 (σ id)).body.isSome=true/\V2 id=V1 (σ id):=λid h=>by
  obtain⟨bd,hb⟩:=wfo.1 h;obtain⟨bd1,h1,h2,_⟩:=hl id bd hb;exact⟨by rw[h1];rfl,h2⟩
 refine⟨by rw[hw];exact hr.below,λid t k n cs hb=>?_,λid t cs hb=>?_,λid p cs φ hb=>?_,λi=>by rw[hZ];exact hg i,λid id' g h1 h2 h3 h4=>?_,by rw[hZ];exact hr.zlt,λid b h1 h2=>?_⟩
 ·obtain⟨bd1,h1,h2,h3⟩:=hl id _ hb;cases h3 with
  |row h3=>
   obtain⟨vals,k1,k2,k3⟩:=hr.row _ _ _ _ _ h1;rw[hw,hZ];exact⟨vals,by rw[h2];exact k1,h3 _ k2,k3⟩
 ·obtain⟨bd1,h1,h2,h3⟩:=hl id _ hb;cases h3 with
  |box h3=>
   obtain⟨g,arr,k1,k2,k3,k4,k5⟩:=hr.box _ _ _ h1;rw[hw,hZ];exact⟨g,arr,by rw[h2];exact k1,k2,k3,h3 _ k4,k5⟩
 ·obtain⟨bd1,h1,h2,h3⟩:=hl id _ hb;cases h3 with
  |raw h3=>
   obtain⟨g,o,vs,k1,k2,k3,k4,k5⟩:=hr.map _ _ _ _ h1;rw[hw,hZ];exact⟨g,o,vs,by rw[h2];exact k1,k2,k3,k4,h3 _ k5⟩
 ·obtain⟨a1,a2⟩:=hl' id h1;obtain⟨b1,b2⟩:=hl' id' h2;exact hi id id' h1 h2 (hr.apart _ _ g a1 b1 (by rw[<- a2];exact h3) (by rw[<- b2];exact h4))
 ·obtain⟨a1,a2⟩:=hl' id h1;rw[hZ];exact hr.nz _ b a1 (by rw[<- a2];exact h2)
end
abbrev IdT:=Nat->Nat->Option (Nat×Nat)
mutual
def zdp(μ:IdT):TS->TS
 |.own id ver=>match μ id ver with
  |some x => .own x.1 x.2
  |none => .dead
 |.q id k off ver=>match μ id ver with
  |some x => .q x.1 k off x.2
  |none => .dead
 |.pt id off ver=>match μ id ver with
  |some x => .pt x.1 off x.2
  |none => .dead
 |.elt id k i off ver=>match μ id ver with
  |some x => .elt x.1 k i off x.2
  |none => .dead
 |.fn f a b => .fn f (Vk μ a) (Vk μ b)
 |.agg xs => .agg (Vk μ xs)
 |.tup xs => .tup (Vk μ xs)
 |.v d => .v d
 |.c v => .c v
 |.rd d => .rd d
 |.dead => .dead
def Vk(μ:IdT):List TS->List TS
 |[]=>[]
 |x::xs=>zdp μ x::Vk μ xs
end
def zd7(μ:IdT):BD->BD
 |.row tid t l => .row tid t l
 |.rowx tid k xs => .rowx tid k (Vk μ xs)
 |.box tid xs => .box tid (Vk μ xs)
 |.obj k x => .obj k x
def zd4(μ:IdT):IdM:=λy ver=>if y % 2=0 then(μ (y / 2) ver).map λx=>(2*x.1,x.2)else none
theorem zb4(μ:IdT)(i ver:Nat):zd4 μ (2*i) ver=(μ i ver).map λx=>(2*x.1,x.2):=by
 unfold zd4;rw[if_pos (by omega),show 2*i / 2=i by omega]
mutual
theorem zr6(μ:IdT):∀s:TS,(zdp μ s).den=yl (zd4 μ) s.den
 |.v d=>by simp only[zdp,TS.den];exact(zdy (Q7 _ _)).symm
 |.c v=>by simp only[zdp,TS.den];exact(zdy (zes v)).symm
 |.own id ver=>by simp only[zdp,TS.den,yl,zb4];cases μ id ver<;>simp[TS.den]
 |.q id k off ver=>by simp only[zdp,TS.den,yl,zb4];cases μ id ver<;>simp[TS.den]
 |.pt id off ver=>by simp only[zdp,TS.den,yl,zb4];cases μ id ver<;>simp[TS.den]
 |.elt id k i off ver=>by simp only[zdp,TS.den,yl,zb4];cases μ id ver<;>simp[TS.den]
 |.rd d=>by simp only[zdp,TS.den];exact(zdy (.rp _ (yi _ _))).symm
 |.dead=>by simp only[zdp,TS.den,yl]
 |.fn f a b=>by simp only[zdp,TS.den,yl,zd6 μ a,zd6 μ b,qy]
 |.agg xs=>by simp only[zdp,TS.den,yl,zfc μ xs,qy]
 |.tup xs=>by simp only[zdp,TS.den,yl,zd6 μ xs,qy]
theorem zd6(μ:IdT):∀xs:List TS,yk (Vk μ xs)=(yk xs).map (yl (zd4 μ))
 |[]=>by simp only[Vk,yk,wfk]
 |x::xs=>by simp only[Vk,yk,wen,zr6 μ x,zd6 μ xs]
theorem zfc(μ:IdT):∀xs:List TS,js (Vk μ xs)=(js xs).map (yl (zd4 μ))
 |[]=>by simp only[Vk,js,wfk]
 |x::xs=>by simp only[Vk,js,wfl,zr6 μ x,zfc μ xs,z3f]
end
theorem zmp(μ:IdT):∀xs:List TS,(Vk μ xs).length=xs.length
 |[]=>by simp only[Vk]
 |x::xs=>by simp only[Vk,we2,zmp μ xs]
def zjt(φm:IdM):PBody->PBody
 |.row t k n cs => .row t k n (zdn φm cs)
 |.box t cs => .box t (zdn φm cs)
 |.raw p cs φ => .raw p (zdn φm cs) φ
def zit(φ:IdM)(x:zcb):zcb:=⟨x.ver,x.body.map (zjt φ)⟩
def znx:List Nat->Nat->Nat->Option Nat
 |[],_,_=>none
 |a::r,i,j=>match Nat.beq a i with
  |true=>some j
  |false=>znx r i (j+1)
theorem zhb:∀{L:List Nat}{i j X:Nat},znx L i j=some X->∃m,X=j+m/\L[m]?=some i
 |[],i,j,X,h=>by cases h
 |a::r,i,j,X,h=>by
  simp only[znx]at h;split at h
  ·rename_i hb;cases h;exact⟨0,rfl,by rw[wge,qz hb]⟩
  ·obtain⟨m,h1,h2⟩:=zhb h;exact⟨m+1,by omega,by rw[wgd];exact h2⟩
theorem zha:∀{L:List Nat}{i j:Nat},znx L i j=none->i∉L
 |[],i,j,h=>by simp
 |a::r,i,j,h=>by
  simp only[znx]at h;split at h
  ·cases h
  ·rename_i hb;simp only[wep,not_or];refine⟨λe=>?_,zha h⟩;subst e;rw[wg8]at hb;cases hb
theorem zk4{L:List Nat}(hn:L.Nodup){X i:Nat}(h:L[X]?=some i):znx L i 0=some X:=by
 cases hp:znx L i 0 with
 |none=>exact absurd (wd7 h) (zha hp)
 |some Y=>
  obtain⟨m,rfl,h2⟩:=zhb hp;have h1:=(wd5.1 h)
  have h3:=(wd5.1 h2)
  have:=(List.getElem_inj (h₀:=h1.1) (h₁:=h3.1) hn).1 (by rw[h1.2,h3.2]);simp[this]
def mu1(L:List Nat)(lim:Nat)(G:EG):IdT:=λi ver=>match znx L i 0 with
 |some X=>match Nat.blt X lim && Nat.beq ver (G i).ver with
  |true=>some (X,1)
  |false=>none
 |none=>none
theorem jaa{L:List Nat}{lim:Nat}{G:EG}{i ver:Nat}{x:Nat×Nat}(h:mu1 L lim G i ver=some x):L[x.1]?=some i/\x.1<lim/\ver=(G i).ver/\x.2=1:=by
 unfold mu1 at h;split at h<;>try (cases h;done)
 rename_i X hX;split at h<;>cases h;rename_i hb;simp only[wd8,wg1]at hb;obtain⟨m,h1,h2⟩:=zhb hX;exact⟨by rw[h1,wfa];exact h2,hb.1,qz hb.2,rfl⟩
def ze0(L:List Nat)(y:Nat):Bool:=Nat.beq (y % 2) 0 && (znx L (y / 2) 0).isSome
def phG(L:List Nat)(b:Nat)(G:EG):IdM:=λy ver=>match ze0 L y with
 |true=>zd4 (mu1 L b G) y ver
 |false=>some (2*y+1,ver)
def inG(L:List Nat)(G:EG):EG:=λX=>match L[X]? with
 |some i=>⟨1,(G i).b.map (zd7 (mu1 L L.length G))⟩
 |none=>⟨0,none⟩
def inR(L:List Nat)(b:Nat)(G:EG)(H:PHeap):PHeap:=λy=>match ze0 L y with
 |true=>⟨0,none⟩
 |false=>zit (phG L b G) (H y)
theorem zg4{L:List Nat}{i:Nat}(h:i∈L):ze0 L (2*i)=true:=by
 unfold ze0;rw[show 2*i / 2=i by omega,show 2*i % 2=0 by omega];cases hp:znx L i 0 with
 |none=>exact absurd h (zha hp)
 |some X=>rfl
theorem zve{L:List Nat}{lim:Nat}{G:EG}{y ver:Nat}{x:Nat×Nat}(h:zd4 (mu1 L lim G) y ver=some x):∃X i:Nat,y=2*i/\x=(2*X,1)/\L[X]?=some i/\X<lim/\ver=(G i).ver:=by
 unfold zd4 at h;split at h<;>try (cases h;done)
 rename_i hy;obtain⟨z,hz,rfl⟩:=wee.1 h;obtain⟨h1,h2,h3,h4⟩:=jaa hz;exact⟨z.1,y / 2,by omega,by rw[h4],h1,h2,h3⟩
section
variable{P:Program}{W:Env}{n:Nat}{L:List Nat}{b:Nat}{G:EG}{H:PHeap}{V:Nat → Value}{w:World}{F:PFrame}
def inV(L:List Nat)(V:Nat->Value):Nat->Value:=λz=>if z % 2=0 then(match L[z / 2]? with
 |some i=>V (2*i)
 |none=>undef)else V (z / 2)
def inS(L:List Nat):Nat->Nat:=λz=>if z % 2=0 then 2*(L[z / 2]?).getD 0 else z / 2
theorem Zx{X i:Nat}(h:L[X]?=some i):inV L V (2*X)=V (2*i)/\inS L (2*X)=2*i:=by
 unfold inV inS;rw[if_pos (by omega),if_pos (by omega),show 2*X / 2=X by omega,h];exact⟨rfl,rfl⟩
theorem zfd(y:Nat):inV L V (2*y+1)=V y/\inS L (2*y+1)=y:=by
 unfold inV inS;rw[if_neg (by omega),if_neg (by omega),show(2*y+1) / 2=y by omega];exact⟨rfl,rfl⟩
theorem zjy(hag:∀i∈L,H (2*i)=qj (G i)){z:Nat}{bd:PBody}(h:(qf (inG L G) (inR L b G H) z).body=some bd):
  (∃X i b0,z=2*X/\L[X]?=some i/\(G i).b=some b0/\bd=(zd7 (mu1 L L.length G) b0).den)\/∃y bd0,z=2*y+1/\ze0 L y=false/\(H y).body=some bd0/\bd=zjt (phG L b G) bd0:=by
 rcases wf8 z with e|e
 ·obtain⟨X,rfl⟩:∃X,z=2*X:=⟨z / 2,by omega⟩
  rw[qe]at h;unfold inG at h;split at h
  ·rename_i i hi;simp only[qj,wee]at h;obtain⟨a,⟨b0,h1,rfl⟩,rfl⟩:=h;exact .inl ⟨X,i,b0,rfl,hi,h1,rfl⟩
  ·simp[qj]at h
 ·obtain⟨y,rfl⟩:∃y,z=2*y+1:=⟨z / 2,by omega⟩
  rw[zg]at h;unfold inR at h;split at h
  ·cases h
  ·rename_i hp;simp only[zit,wee]at h;obtain⟨bd0,h1,rfl⟩:=h;exact .inr ⟨y,bd0,rfl,hp,h1,rfl⟩
theorem BD_fl(b0:BD):∀c∈zh0 b0.den,Fl c:=λc hc=>zw6 ⟨0,some b0⟩ b0.den rfl c hc
theorem zpl{Z:ZM}{H1 H2:PHeap}{V1 V2:Nat->Value}{w:World}{μ:IdT}(hm:∀p v,Fl p->Rp Z H1 V1 w p v->Rp Z H2 V2 w (yl (zd4 μ) p) v)(b0:BD):BTr Z H1 H2 V1 V2 w b0.den (zd7 μ b0).den:=by
 have hf:=BD_fl b0;cases b0 with
 |row tid t l=>
  refine .row λvs hv=>?_;have:=zca (φ:=zd4 μ) hv λc hc v h=>hm c v (hf c hc) h;rw[qy,we9 (g:=id) λc hc=>?_]at this
  ·simpa using this
  ·obtain⟨x,_,hx⟩:=wfe.1 hc;exact zdy (yi t x c hx)
 |rowx tid k xs=>
  simp only[zd7,BD.den,zmp];refine .row λvs hv=>?_;rw[zfc,<- qy];exact zca hv λc hc v h=>hm c v (hf c hc) h
 |box tid xs=>
  simp only[zd7,BD.den];refine .box λvs hv=>?_;rw[zfc,<- qy];exact zca hv λc hc v h=>hm c v (hf c hc) h
 |obj k x=>
  obtain⟨p,φ,e⟩:=k.den_raw x;simp only[zd7,BD.den,e];exact .raw λvs h=>⟨h.1,λi p v h1=>by simp at h1⟩
theorem zgg(hag:∀i∈L,H (2*i)=qj (G i)){z:Nat}(h:(qf (inG L G) (inR L b G H) z).body.isSome=true):(H (inS L z)).body.isSome=true/\inV L V z=V (inS L z):=by
 obtain⟨bd,hb⟩:=wfo.1 h;rcases zjy hag hb with⟨X,i,b0,rfl,hi,h1,rfl⟩|⟨y,bd0,rfl,hp,h1,rfl⟩
 ·rw[(Zx (V:=V) hi).1,(Zx (V:=V) hi).2,hag i (wd7 hi)];simp[qj,h1]
 ·rw[(zfd (L:=L) (V:=V) y).1,(zfd (L:=L) (V:=V) y).2,h1];simp
theorem zu2(hag:∀i∈L,H (2*i)=qj (G i)):∀c,c<w.heap.size->¬PZ W.Z H V c->¬PZ W.Z (qf (inG L G) (inR L b G H)) (inV L V) c:=λc _ h=>
 z99 (λz hz=>⟨_,(zgg (V:=V) hag hz).1,(zgg (V:=V) hag hz).2⟩) h
theorem z9q{lim:Nat}(hag:∀i∈L,H (2*i)=qj (G i)):∀id ver x,zd4 (mu1 L lim G) id ver=some x->ver<=(H id).ver->x.2<=(qf (inG L G) (inR L b G H) x.1).ver/\((qf (inG L G) (inR L b G H) x.1).body.isSome=true->(qf (inG L G) (inR L b G H) x.1).ver=x.2->(H id).body.isSome=true/\(H id).ver=ver/\inV L V x.1=V id):=λid ver x h hv=>by
 obtain⟨X,i,rfl,rfl,hi,_,rfl⟩:=zve h;have e:qf (inG L G) (inR L b G H) (2*X)=qj ⟨1,(G i).b.map (zd7 (mu1 L L.length G))⟩:=by
  rw[qe];unfold inG;rw[hi]
 simp only[e];refine⟨weh _,λh1 _=>?_⟩;have:=zgg (b:=b) (V:=V) hag (z:=2*X) (by rw[e];exact h1);rw[(Zx (V:=V) hi).1,(Zx (V:=V) hi).2]at this;rw[(Zx (V:=V) hi).1];exact⟨this.1,by rw[hag i (wd7 hi)];rfl,rfl⟩
theorem z4e(hag:∀i∈L,H (2*i)=qj (G i)):∀id ver x,phG L b G id ver=some x->ver<=(H id).ver->x.2<=(qf (inG L G) (inR L b G H) x.1).ver/\((qf (inG L G) (inR L b G H) x.1).body.isSome=true->(qf (inG L G) (inR L b G H) x.1).ver=x.2->(H id).body.isSome=true/\(H id).ver=ver/\inV L V x.1=V id):=λid ver x h hv=>by
 unfold phG at h;split at h
 ·exact z9q hag id ver x h hv
 ·rename_i hp;cases h;have e:qf (inG L G) (inR L b G H) (2*id+1)=zit (phG L b G) (H id):=by
   rw[zg];unfold inR;rw[hp]
  simp only[e];refine⟨hv,λh1 h2=>⟨?_,h2,(zfd (L:=L) (V:=V) id).1⟩⟩;have:=zgg (b:=b) (V:=V) hag (z:=2*id+1) (by rw[e];exact h1);rw[(zfd (L:=L) (V:=V) id).2]at this;exact this.1
theorem z57(φ:IdM)(bd:PBody):zh0 (zjt φ bd)=(zh0 bd).map (yl φ):=by
 cases bd<;>simp only[zjt,zh0,qy,wfk]
theorem zuf{p:PV}(hf:Fl p):IdOk b (yl (phG L b G) p):=by
 have hid:∀i ver x,phG L b G i ver=some x->x.1 % 2=1\/x.1<2*b:=λi ver x h=>by
  unfold phG at h;split at h
  ·obtain⟨X,j,rfl,rfl,hi,hlt,_⟩:=zve h;exact .inr (by show 2*X<2*b;omega)
  ·cases h;exact .inl (by show(2*i+1) % 2=1;omega)
 induction hf with
 |noP h=>rw[zdy h];exact .noP h
 |unk=>exact .unk
 |ps=>
  simp only[yl];split
  ·rename_i x hx;exact .ps (hid _ _ _ hx)
  ·exact .unk
 |qs=>
  simp only[yl];split
  ·rename_i x hx;exact .qs (hid _ _ _ hx)
  ·exact .unk
 |pp=>
  simp only[yl];split
  ·rename_i x hx;exact .pp (hid _ _ _ hx)
  ·exact .unk
 |fn hx hy ih1 ih2=>
  simp only[yl,qy];exact .fn (λp hp=>by obtain⟨q,hq,rfl⟩:=wef.1 hp;exact ih1 q hq) λp hp=>by obtain⟨q,hq,rfl⟩:=wef.1 hp;exact ih2 q hq
 |agg h ih=>
  simp only[yl,qy];exact .agg λp hp=>by obtain⟨q,hq,rfl⟩:=wef.1 hp;exact ih q hq
 |tup h ih=>
  simp only[yl,qy];exact .tup λp hp=>by obtain⟨q,hq,rfl⟩:=wef.1 hp;exact ih q hq
theorem inR_ok(hfl:∀k,FlB (H k)):RestOk b (inR L b G H):=λy bd h c hc=>by
 unfold inR at h;split at h
 ·cases h
 ·simp only[zit,wee]at h;obtain⟨bd0,h1,rfl⟩:=h;rw[z57]at hc;obtain⟨q,hq,rfl⟩:=wef.1 hc;exact zuf (hfl y bd0 h1 q hq)
theorem jdh(hn:L.Nodup)(hag:∀i∈L,H (2*i)=qj (G i)){W0:Env}(hr:HRel P W0 H V w)(hf0:∀i,Fl (W0.G i))(hfl:∀k,FlB (H k)):
  HRel P { W0 with G:=λi=>yl (phG L b G) (W0.G i) } (qf (inG L G) (inR L b G H)) (inV L V) w:=by
 refine HRel.ren hr (inS L) rfl rfl (λi=>zbd (hr.ghost i) (hf0 i) (zu2 hag) (z4e hag)) (λz bd hb=>?_) λz z' h1 h2 e=>?_
 ·have hal:=zgg (b:=b) (V:=V) hag (z:=z) (by rw[hb];rfl);rcases zjy hag hb with⟨X,i,b0,rfl,hi,h1,rfl⟩|⟨y,bd0,rfl,hp,h1,rfl⟩
  ·refine⟨b0.den,?_,hal.2,zpl (λp v hp hv=>zbd hv hp (zu2 hag) (z9q hag)) b0⟩;rw[(Zx (V:=V) hi).2,hag i (wd7 hi)];simp[qj,h1]
  ·refine⟨bd0,by rw[(zfd (L:=L) (V:=V) y).2];exact h1,hal.2,?_⟩;have hc:=hfl y bd0 h1;cases bd0 with
   |row t k m cs=>exact .row λvs hv=>zca hv λc hc' v h=>zbd h (hc c hc') (zu2 hag) (z4e hag)
   |box t cs=>exact .box λvs hv=>zca hv λc hc' v h=>zbd h (hc c hc') (zu2 hag) (z4e hag)
   |raw p cs φ=>exact .raw λvs hv=>zca hv λc hc' v h=>zbd h (hc c hc') (zu2 hag) (z4e hag)
 ·obtain⟨bd,hb⟩:=wfo.1 h1;obtain⟨bd',hb'⟩:=wfo.1 h2;rcases zjy hag hb with⟨X,i,b0,rfl,hi,_,_⟩|⟨y,bd0,rfl,hp,_,_⟩
  ·rcases zjy hag hb' with⟨X',i',b0',rfl,hi',_,_⟩|⟨y',bd0',rfl,hp',_,_⟩
   ·rw[(Zx (V:=V) hi).2,(Zx (V:=V) hi').2]at e;have:i=i':=by omega
    subst this;have h3:=zk4 hn hi;rw[zk4 hn hi']at h3;cases h3;rfl
   ·rw[(Zx (V:=V) hi).2,(zfd (L:=L) (V:=V) y').2]at e;subst e;rw[zg4 (wd7 hi)]at hp';cases hp'
  ·rcases zjy hag hb' with⟨X',i',b0',rfl,hi',_,_⟩|⟨y',bd0',rfl,hp',_,_⟩
   ·rw[(zfd (L:=L) (V:=V) y).2,(Zx (V:=V) hi').2]at e;subst e;rw[zg4 (wd7 hi')]at hp;cases hp
   ·rw[(zfd (L:=L) (V:=V) y).2,(zfd (L:=L) (V:=V) y').2]at e;omega
end
def zpu:List (Nat×Nat)->Nat->Option Nat
 |[],_=>none
 |x::r,i=>match Nat.beq x.1 i with
  |true=>some x.2
  |false=>zpu r i
def z4q:List (Nat×Nat)->Nat->Option Nat
 |[],_=>none
 |x::r,i=>match Nat.beq x.2 i with
  |true=>some x.1
  |false=>z4q r i
theorem zsk:∀{l:List (Nat×Nat)}{i X:Nat},zpu l i=some X->(i,X)∈l
 |[],i,X,h=>by cases h
 |x::r,i,X,h=>by
  simp only[zpu]at h;split at h
  ·rename_i hb;cases h;rw[<- qz hb];exact List.mem_cons_self ..
  ·exact wg6 _ (zsk h)
theorem zrc:∀{l:List (Nat×Nat)}{i:Nat},zpu l i=none->∀x∈l,x.1≠i
 |[],i,h,x,hx=>by cases hx
 |a::r,i,h,x,hx=>by
  simp only[zpu]at h;split at h
  ·cases h
  ·rename_i hb;rcases wep.1 hx with rfl|hx
   ·intro e;rw[e,wg8]at hb;cases hb
   ·exact zrc h x hx
theorem zp0:∀{l:List (Nat×Nat)}{i X:Nat},z4q l X=some i->(i,X)∈l
 |[],i,X,h=>by cases h
 |x::r,i,X,h=>by
  simp only[z4q]at h;split at h
  ·rename_i hb;cases h;rw[<- qz hb];exact List.mem_cons_self ..
  ·exact wg6 _ (zp0 h)
theorem z6z{l:List (Nat×Nat)}(h:(l.map Prod.fst).Nodup){i X Y:Nat}(h1:(i,X)∈l)(h2:(i,Y)∈l):X=Y:=by
 induction l with
 |nil=>cases h1
 |cons a l ih=>
  simp only[wen,List.nodup_cons]at h;rcases wep.1 h1 with rfl|g1
  ·rcases wep.1 h2 with h2|h2
   ·cases h2;rfl
   ·exact absurd (wef.2 ⟨_,h2,rfl⟩) h.1
  ·rcases wep.1 h2 with rfl|g2
   ·exact absurd (show i∈l.map Prod.fst from wef.2 ⟨(i,X),g1,rfl⟩) h.1
   ·exact ih h.2 g1 g2
theorem z7i{l:List (Nat×Nat)}(h:(l.map Prod.snd).Nodup){i j X:Nat}(h1:(i,X)∈l)(h2:(j,X)∈l):i=j:=by
 induction l with
 |nil=>cases h1
 |cons a l ih=>
  simp only[wen,List.nodup_cons]at h;rcases wep.1 h1 with rfl|g1
  ·rcases wep.1 h2 with h2|h2
   ·cases h2;rfl
   ·exact absurd (wef.2 ⟨_,h2,rfl⟩) h.1
  ·rcases wep.1 h2 with rfl|g2
   ·exact absurd (show X∈l.map Prod.snd from wef.2 ⟨(i,X),g1,rfl⟩) h.1
   ·exact ih h.2 g1 g2
def zht(L:List Nat)(b:Nat)(G G':EG)(NL:List (Nat×Nat)):IdT:=λX ver=>match Nat.blt X b with
 |true=>match Nat.beq ver 1 with
  |true=>match L[X]? with
   |some i=>some (i,(G i).ver)
   |none=>none
  |false=>none
 |false=>match z4q NL X with
  |some i=>match Nat.beq ver (G' X).ver with
   |true=>some (i,(G i).ver+1)
   |false=>none
  |none=>none
def z0p(ν:IdT)(b:Nat)(G':EG)(X:Nat):Option BD:=match Nat.blt X b && Nat.beq (G' X).ver 1 with
 |true=>(G' X).b.map (zd7 ν)
 |false=>none
def z54(ν:IdT)(b:Nat)(G G':EG):List Nat->Nat->List (Nat×GB)
 |[],_=>[]
 |i::r,X=>(i,⟨(G i).ver,z0p ν b G' X⟩)::z54 ν b G G' r (X+1)
def znv(L:List Nat)(b:Nat)(G G':EG)(NL:List (Nat×Nat)):List (Nat×GB):=z54 (zht L b G G' NL) b G G' L 0++NL.map λx=>(x.1,⟨(G x.1).ver+1,(G' x.2).b.map (zd7 (zht L b G G' NL))⟩)
theorem zuv(ν:IdT)(b:Nat)(G G':EG):∀(L:List Nat)(X:Nat),(z54 ν b G G' L X).map Prod.fst=L
 |[],X=>rfl
 |i::r,X=>by simp only[z54,wen,zuv ν b G G' r]
theorem z5o(ν:IdT)(b:Nat)(G G':EG):∀(L:List Nat)(X m i:Nat),L[m]?=some i->(i,(⟨(G i).ver,z0p ν b G' (X+m)⟩:GB))∈z54 ν b G G' L X
 |[],X,m,i,h=>by simp at h
 |a::r,X,0,i,h=>by
  simp only[wge,we6]at h;subst h;simp[z54]
 |a::r,X,m+1,i,h=>by
  simp only[wgd]at h;have:=z5o ν b G G' r (X+1) m i h;rw[show X+1+m=X+(m+1) by omega]at this;exact wg6 _ this
theorem zbq(L:List Nat)(b:Nat)(G G':EG)(NL:List (Nat×Nat)):(znv L b G G' NL).map Prod.fst=L++NL.map Prod.fst:=by
 unfold znv;rw[wfl,zuv,wff];rfl
theorem zg6:∀{ws:List (Nat×GB)}{H:PHeap}{i:Nat}{g:GB},(ws.map Prod.fst).Nodup->(i,g)∈ws->zw H (za8 ws) (2*i)=qj g
 |[],H,i,g,hn,h=>by cases h
 |x::r,H,i,g,hn,h=>by
  simp only[wen,List.nodup_cons]at hn;rcases wep.1 h with rfl|h
  ·simp only[za8,wen,zw];rw[zf8,if_neg]
   ·simp[PHeap.set]
   ·intro hb;obtain⟨id,h1,h2⟩:=zky.1 hb;have:id=i:=by omega
    subst this;exact hn.1 h1
  ·simp only[za8,wen,zw];exact zg6 hn.2 h
theorem zmk{ws:List (Nat×GB)}{H:PHeap}{y:Nat}(h:∀i∈ws.map Prod.fst,y≠2*i):zw H (za8 ws) y=H y:=by
 rw[zf8,if_neg];intro hb;obtain⟨id,h1,h2⟩:=zky.1 hb;exact h id h1 h2
structure zxj(L:List Nat)(b:Nat)(NL:List (Nat×Nat)):Prop where
 keys:(L++NL.map Prod.fst).Nodup
 snd:(NL.map Prod.snd).Nodup
 hi:∀x∈NL,b<=x.2
section
variable{P:Program}{W:Env}{n:Nat}{L:List Nat}{b:Nat}{NL:List (Nat × Nat)}{G G' : EG}{H:PHeap}{V V' : Nat → Value}{w:World}
def zb6(L:List Nat)(NL:List (Nat×Nat)):Nat->Nat:=λy=>match Nat.beq (y % 2) 0 with
 |true=>match znx L (y / 2) 0 with
  |some X=>2*X
  |none=>match zpu NL (y / 2)with
   |some X=>2*X
   |none=>2*y+1
 |false=>2*y+1
abbrev ze6(L:List Nat)(b:Nat)(G G':EG)(NL:List (Nat×Nat))(H:PHeap):PHeap:=zw H (za8 (znv L b G G' NL))
theorem zxe(hx:zxj L b NL)(y:Nat):
  (∃X i:Nat,y=2*i/\L[X]?=some i/\ze6 L b G G' NL H y=qj ⟨(G i).ver,z0p (zht L b G G' NL) b G' X⟩/\zb6 L NL y=2*X) \/
  (∃X i:Nat,y=2*i/\(i,X)∈NL/\ze6 L b G G' NL H y=qj ⟨(G i).ver+1,(G' X).b.map (zd7 (zht L b G G' NL))⟩/\zb6 L NL y=2*X) \/
  (ze6 L b G G' NL H y=H y/\ze0 L y=false/\zb6 L NL y=2*y+1/\∀x∈NL,y≠2*x.1):=by
 have hk:((znv L b G G' NL).map Prod.fst).Nodup:=by rw[zbq];exact hx.keys
 unfold zb6;cases hm:Nat.beq (y % 2) 0 with
 |false=>
  have hodd:∀i,y≠2*i:=λi e=>by subst e;rw[show 2*i % 2=0 by omega]at hm;cases hm
  exact .inr (.inr ⟨zmk λi _=>hodd i,by unfold ze0;rw[hm];rfl,rfl,λx _=>hodd _⟩)
 |true=>
  have hy:=qz hm;obtain⟨i,rfl⟩:∃i,y=2*i:=⟨y / 2,by omega⟩
  rw[show 2*i / 2=i by omega];cases hp:znx L i 0 with
  |some X=>
   obtain⟨m,h1,h2⟩:=zhb hp;refine .inl ⟨X,i,rfl,by rw[h1,wfa];exact h2,?_,rfl⟩;refine zg6 hk ?_;unfold znv;have:=z5o (zht L b G G' NL) b G G' L 0 m i h2;rw[<- h1]at this;exact wgr _ this
  |none=>
   simp only;cases hf:zpu NL i with
   |some X=>
    have hmem:=zsk hf;refine .inr (.inl ⟨X,i,rfl,hmem,zg6 hk ?_,rfl⟩);unfold znv;exact List.mem_append_right _ (wef.2 ⟨_,hmem,rfl⟩)
   |none=>
    have h1:=zha hp;have h2:=zrc hf;refine .inr (.inr ⟨zmk λj hj e=>?_,?_,rfl,λx hx e=>h2 x hx (by omega)⟩)
    ·rw[zbq]at hj;have:j=i:=by omega
     subst this;rcases wej.1 hj with hj|hj
     ·exact h1 hj
     ·obtain⟨x,hx,e⟩:=wef.1 hj;exact h2 x hx e
    ·unfold ze0;rw[show 2*i / 2=i by omega,hp];simp
theorem ziy{ν:IdT}{X:Nat}{bd:BD}(h:z0p ν b G' X=some bd):X<b/\(G' X).ver=1/\∃b0,(G' X).b=some b0/\bd=zd7 ν b0:=by
 unfold z0p at h;split at h
 ·rename_i hb;simp only[wd8,wg1]at hb;obtain⟨b0,h1,rfl⟩:=wee.1 h;exact⟨hb.1,qz hb.2,b0,h1,rfl⟩
 ·cases h
theorem zed(hx:zxj L b NL){y:Nat}{bd:PBody}(h:(ze6 L b G G' NL H y).body=some bd):
  (∃X i b0,y=2*i/\L[X]?=some i/\zb6 L NL y=2*X/\X<b/\(G' X).ver=1/\(G' X).b=some b0/\bd=(zd7 (zht L b G G' NL) b0).den) \/
  (∃X i b0,y=2*i/\(i,X)∈NL/\zb6 L NL y=2*X/\(G' X).b=some b0/\bd=(zd7 (zht L b G G' NL) b0).den) \/
  (zb6 L NL y=2*y+1/\ze0 L y=false/\(H y).body=some bd):=by
 rcases zxe (G:=G) (G':=G') (H:=H) hx y with⟨X,i,h1,h2,h3,h4⟩|⟨X,i,h1,h2,h3,h4⟩|⟨h1,h2,h3,_⟩
 ·rw[h3]at h;simp only[qj,wee]at h;obtain⟨a,ha,rfl⟩:=h;obtain⟨k1,k2,b0,k3,rfl⟩:=ziy ha;exact .inl ⟨X,i,b0,h1,h2,h4,k1,k2,k3,rfl⟩
 ·rw[h3]at h;simp only[qj,wee]at h;obtain⟨a,⟨b0,k3,rfl⟩,rfl⟩:=h;exact .inr (.inl ⟨X,i,b0,h1,h2,h4,k3,rfl⟩)
 ·rw[h1]at h;exact .inr (.inr ⟨h3,h2,h⟩)
theorem zlo(hx:zxj L b NL){y:Nat}(h:(ze6 L b G G' NL H y).body.isSome=true):(qf G' (inR L b G H) (zb6 L NL y)).body.isSome=true:=by
 obtain⟨bd,hb⟩:=wfo.1 h;rcases zed hx hb with⟨X,i,b0,rfl,_,h1,_,_,h2,_⟩|⟨X,i,b0,rfl,_,h1,h2,_⟩|⟨h1,h2,h3⟩
 ·rw[h1,qe];simp[qj,h2]
 ·rw[h1,qe];simp[qj,h2]
 ·rw[h1,zg];unfold inR;rw[h2];simp[zit,h3]
theorem z82(hx:zxj L b NL):∀c,c<w.heap.size->¬PZ W.Z (qf G' (inR L b G H)) V' c->¬PZ W.Z (ze6 L b G G' NL H) (λy=>V' (zb6 L NL y)) c:=λc _ h=>z99 (λy hy=>⟨_,zlo hx hy,rfl⟩) h
theorem z3w(hx:zxj L b NL)(hn:L.Nodup):∀id ver x,zd4 (zht L b G G' NL) id ver=some x->ver<=(qf G' (inR L b G H) id).ver->x.2<=(ze6 L b G G' NL H x.1).ver/\((ze6 L b G G' NL H x.1).body.isSome=true->(ze6 L b G G' NL H x.1).ver=x.2->(qf G' (inR L b G H) id).body.isSome=true/\(qf G' (inR L b G H) id).ver=ver/\V' (zb6 L NL x.1)=V' id):=λid ver x h hv=>by
 unfold zd4 at h;split at h<;>try (cases h;done)
 rename_i he;obtain⟨X,rfl⟩:∃X,id=2*X:=⟨id / 2,by omega⟩
 rw[show 2*X / 2=X by omega]at h;obtain⟨z,hz,rfl⟩:=wee.1 h;have hkeys:=List.nodup_append.1 hx.keys;unfold zht at hz;split at hz
 ·rename_i hb;split at hz<;>try (cases hz;done)
  rename_i hv1;have hv1:=qz hv1;subst hv1;split at hz<;>cases hz;rename_i i hi;rcases zxe (G:=G) (G':=G') (H:=H) hx (2*i)with⟨X',i',h1,h2,h3,h4⟩|⟨X',i',h1,h2,h3,h4⟩|⟨h1,h2,h3,_⟩
  ·have:i=i':=by omega
   subst this;have e:=zk4 hn hi;rw[zk4 hn h2]at e;cases e;simp only[h3,h4];refine⟨weh _,λk1 _=>⟨?_,?_,trivial⟩⟩
   ·have:=zlo (H:=H) (G:=G) (G':=G') hx (y:=2*i) (by rw[h3];exact k1);rw[h4]at this;exact this
   ·simp only[qj,Option.isSome_map]at k1;obtain⟨bd,hbd⟩:=wfo.1 k1;rw[qe];exact(ziy hbd).2.1
  ·have:i=i':=by omega
   subst this;exact absurd rfl (hkeys.2.2 _ (wd7 hi) _ (wef.2 ⟨_,h2,rfl⟩))
  ·rw[zg4 (wd7 hi)]at h2;cases h2
 ·rename_i hb;split at hz<;>try (cases hz;done)
  rename_i i hi;have hmem:=zp0 hi;split at hz<;>cases hz;rename_i hv1;have hv1:=qz hv1;subst hv1;rcases zxe (G:=G) (G':=G') (H:=H) hx (2*i)with⟨X',i',h1,h2,h3,h4⟩|⟨X',i',h1,h2,h3,h4⟩|⟨h1,h2,h3,h5⟩
  ·have:i=i':=by omega
   subst this;exact absurd rfl (hkeys.2.2 _ (wd7 h2) _ (wef.2 ⟨_,hmem,rfl⟩))
  ·have:i=i':=by omega
   subst this;have:=z6z hkeys.2.1 hmem h2;subst this;simp only[h3,h4];refine⟨weh _,λk1 _=>⟨?_,by rw[qe];rfl,trivial⟩⟩;have:=zlo (H:=H) (G:=G) (G':=G') hx (y:=2*i) (by rw[h3];exact k1);rw[h4]at this;exact this
  ·exact absurd rfl (h5 _ hmem)
theorem zj6(hx:zxj L b NL)(hn:L.Nodup)(hag:∀i∈L++NL.map Prod.fst,H (2*i)=qj (G i)):Back (phG L b G) H (qf G' (inR L b G H)) (ze6 L b G G' NL H) V' (λy=>V' (zb6 L NL y)):=λy ver hv=>by
 rcases zxe (G:=G) (G':=G') (H:=H) hx y with⟨X,i,rfl,h2,h3,h4⟩|⟨X,i,rfl,h2,h3,h4⟩|⟨h1,h2,h3,_⟩
 ·have hi:=wd7 h2;rw[hag i (wgr _ hi)]at hv;rw[h3];refine⟨hv,λk1 k2=>?_⟩;simp only[qj,Option.isSome_map]at k1 k2;obtain⟨bd,hbd⟩:=wfo.1 k1;obtain⟨a1,a2,b0,a3,_⟩:=ziy hbd;refine⟨(2*X,1),?_,by rw[qe];simp[qj,a3],by rw[qe];exact a2,by show V' (zb6 L NL (2*i))=V' (2*X);rw[h4]⟩;unfold phG;rw[zg4 hi,zb4];unfold mu1;rw[zk4 hn h2];have:(Nat.blt X b && Nat.beq ver (G i).ver)=true:=by
   rw[<- k2,wg8,Bool.and_true,wg1];exact a1
  simp only[this];rfl
 ·rw[hag i (List.mem_append_right _ (wef.2 ⟨_,h2,rfl⟩))]at hv;rw[h3];have hv:ver<=(G i).ver:=hv;refine⟨Nat.le_succ_of_le hv,λ_ k2=>?_⟩;have k2:(G i).ver+1=ver:=k2;omega
 ·rw[h1];refine⟨hv,λk1 k2=>⟨(2*y+1,ver),?_,?_,?_,by show V' (zb6 L NL y)=V' (2*y+1);rw[h3]⟩⟩
  ·unfold phG;rw[h2]
  ·show(qf G' (inR L b G H) (2*y+1)).body.isSome=true;rw[zg];unfold inR;rw[h2];simp only[zit,Option.isSome_map];exact k1
  ·show(qf G' (inR L b G H) (2*y+1)).ver=ver;rw[zg];unfold inR;rw[h2];exact k2
theorem jbx(hx:zxj L b NL)(hn:L.Nodup)(hag:∀i∈L++NL.map Prod.fst,H (2*i)=qj (G i)){W1:Env}(hw:W1.w=W.w)(hZ:W1.Z=W.Z)(hr:HRel P W1 (qf G' (inR L b G H)) V' w)(hg:∀i,Rp W.Z (ze6 L b G G' NL H) (λy=>V' (zb6 L NL y)) w (W.G i) (W.gv i))(hf:∀k bd,(H k).body=some bd->∀c∈zh0 bd,FlV H c):
  HRel P W (ze6 L b G G' NL H) (λy=>V' (zb6 L NL y)) w:=by
 have hkeys:=List.nodup_append.1 hx.keys;have hz:∀c,c<w.heap.size->¬PZ W1.Z (qf G' (inR L b G H)) V' c->¬PZ W1.Z (ze6 L b G G' NL H) (λy=>V' (zb6 L NL y)) c:=z82 (W:=W1) hx;refine HRel.ren hr (zb6 L NL) hw.symm hZ.symm (λi=>by rw[hZ];exact hg i) (λy bd hb=>?_) λy y' h1 h2 e=>?_
 ·rcases zed hx hb with⟨X,i,b0,rfl,_,h1,_,_,h2,rfl⟩|⟨X,i,b0,rfl,_,h1,h2,rfl⟩|⟨h1,h2,h3⟩
  ·exact⟨b0.den,by rw[h1,qe];simp[qj,h2],rfl,zpl (λp v hp hv=>zbd hv hp hz (z3w hx hn)) b0⟩
  ·exact⟨b0.den,by rw[h1,qe];simp[qj,h2],rfl,zpl (λp v hp hv=>zbd hv hp hz (z3w hx hn)) b0⟩
  ·refine⟨zjt (phG L b G) bd,?_,rfl,?_⟩
   ·rw[h1,zg];unfold inR;rw[h2];simp[zit,h3]
   ·have hc:=hf y bd h3;cases bd with
    |row t k m cs=>exact .row λvs hv=>zxo hc hv hz (zj6 hx hn hag)
    |box t cs=>exact .box λvs hv=>zxo hc hv hz (zj6 hx hn hag)
    |raw p cs φ=>exact .raw λvs hv=>zxo hc hv hz (zj6 hx hn hag)
 ·obtain⟨bd,hb⟩:=wfo.1 h1;obtain⟨bd',hb'⟩:=wfo.1 h2;rcases zed hx hb with⟨X,i,b0,rfl,g1,g2,g3,_⟩|⟨X,i,b0,rfl,g1,g2,_⟩|⟨g1,g2,g3⟩
  ·rcases zed hx hb' with⟨X',i',b0',rfl,k1,k2,k3,_⟩|⟨X',i',b0',rfl,k1,k2,_⟩|⟨k1,k2,k3⟩
   ·rw[g2,k2]at e;have:X=X':=by omega
    subst this;rw[g1]at k1;cases k1;rfl
   ·rw[g2,k2]at e;have:=hx.hi _ k1;simp only at this;omega
   ·rw[g2,k1]at e;omega
  ·rcases zed hx hb' with⟨X',i',b0',rfl,k1,k2,k3,_⟩|⟨X',i',b0',rfl,k1,k2,_⟩|⟨k1,k2,k3⟩
   ·rw[g2,k2]at e;have:=hx.hi _ g1;simp only at this;omega
   ·rw[g2,k2]at e;have:X=X':=by omega
    subst this;rw[z7i hx.snd g1 k1]
   ·rw[g2,k1]at e;omega
  ·rcases zed hx hb' with⟨X',i',b0',rfl,k1,k2,k3,_⟩|⟨X',i',b0',rfl,k1,k2,_⟩|⟨k1,k2,k3⟩
   ·rw[g1,k2]at e;omega
   ·rw[g1,k2]at e;omega
   ·rw[g1,k1]at e;omega
end
def z90(xs:List TS):EF:=λs=>match xs[s]? with
 |some x=>x
 |none=>UND
theorem zzk(xs:List TS):V7 (yk xs)=zj (z90 xs):=by
 funext t;unfold V7 zj z90;rw[zb5,web];cases xs[t]? with
 |none=>simp only[Option.map_none,Option.getD_none];exact und_den.symm
 |some d=>simp only[wer,wfd]
theorem wd1{P:Program}{W:Env}{n:Nat}{L:List Nat}{b:Nat}{NL:List (Nat×Nat)}{G G':EG}{H:PHeap}{F:PFrame}{o:Oper}{cl:Call}{az:List TS}{f:FuncId}{fn:Func}{c:Code}{s:TS}{E':EF}{e0:Exit}
  (hd:jo n o) (ho:o.op=.call cl) (ht:yr F cl=some (f,yk az)) (hg:yx P f=true) (hf:P.funcs[f]?=some fn) (hb:fn.body=some c) (hl:az.length<=fn.ntmps) (hfl:FlW W F H)
  (hx:zxj L b NL) (hn:L.Nodup) (hag:∀i∈L++NL.map Prod.fst,H (2*i)=qj (G i)) (he:e0=.normal\/e0=.ret)
  (hc:∀W1 R1,GhOk b W1->RestOk b R1->PC P W1 fn.ntmps c (zj (z90 (Vk (mu1 L L.length G) az))) (qf (inG L G) R1) λe F' H'=>e=e0/\F'=zj E'/\H'=qf G' R1)
  (hres:zn4 P fn.results.toList E' G'=some s) :
  PE P W n o F H λp H'=>p=(zdp (zht L b G G' NL) s).den/\H'=zw H (za8 (znv L b G G' NL)):=λV a w hr=>by
 obtain⟨vs,hev,hR⟩:=Qz (P:=P) (W:=W) (H:=H) (V:=V) (a:=a) (w:=w) ho ht hg λx hx'=>Rp.eval (P:=P) x λt ht=>hr.slot t;have hagL:∀i∈L,H (2*i)=qj (G i):=λi hi=>hag i (wgr _ hi);have hpf:∀i,Fl ((W.push F a).G i):=λi=>by
  simp only[Env.push];split
  ·exact hfl.f _
  ·exact hfl.g _
 have hpush:HRel P (W.push F a) H V w:=⟨hr.heap.below,hr.heap.row,hr.heap.box,hr.heap.map,λi=>by
  simp only[Env.push];split
  ·exact hr.slot _
  ·exact hr.heap.ghost _,hr.heap.apart,hr.heap.zlt,hr.heap.nz⟩
 have hin:=jdh (b:=b) hn hagL hpush hpf hfl.h;have hargs:RpL W.Z (qf (inG L G) (inR L b G H)) (inV L V) w (yk (Vk (mu1 L L.length G) az)) vs:=by
  rw[zd6,<- qy];exact zca hR λx hx v hv=>zbd hv (zk7 az x hx) (zu2 hagL) (z9q hagL)
 have hlen:(yk (Vk (mu1 L L.length G) az)).length=az.length:=by rw[zb5,wey,zmp]
 have hl1:=hargs.1;rw[hlen]at hl1
 let W1:Env:={ W.push F a with G:=λi=>yl (phG L b G) ((W.push F a).G i) }
 have hGh:GhOk b W1:=λi=>zuf (hpf i);have hRest:RestOk b (inR L b G H):=inR_ok hfl.h;have hcode:=hc W1 (inR L b G H) hGh hRest;refine zc0 hev (calls_of_wp hf hb (hcode (inV L V) _ w _ ⟨hin,by simp;omega,rfl,λt=>?_⟩ λe F' H' V' a' w' hq hr'=>?_))
 ·rw[<- zzk];unfold V7;by_cases ht:t<(yk (Vk (mu1 L L.length G) az)).length
  ·have htv:t<vs.length:=by omega
   have:=hargs.2 t _ _ (wd2 ht) (wd2 htv);rw[wd2 ht];simpa [W1,Env.push,we3,wgt,htv]using this
  ·have htv:¬t<vs.length:=by omega
   rw[wfv (by omega)];have:(vs.toArray++Array.replicate (fn.ntmps-vs.toArray.size) undef).getD t undef=undef:=by
    rw[we3,wgt,if_neg (by simpa using htv),Array.getElem?_replicate];split<;>rfl
   simp only[this,Option.getD_none];exact .u _
 ·obtain⟨rfl,rfl,rfl⟩:=hq;obtain⟨q,hq,hrq⟩:=zya (R:=inR L b G H) hres;obtain⟨v,hrun,hqv⟩:=zej hr' hq;have hqv:=hrq _ _ _ _ _ hqv;have hh':HRel P W1 (qf G' (inR L b G H)) V' w':=hr'.heap;have hz:∀c,c<w'.heap.size->¬PZ W.Z (qf G' (inR L b G H)) V' c->¬PZ W.Z (ze6 L b G G' NL H) (λy=>V' (zb6 L NL y)) c:=z82 hx;have hbk:=zj6 (V':=V') (G':=G') hx hn hag;have hgh:∀i,Rp W.Z (ze6 L b G G' NL H) (λy=>V' (zb6 L NL y)) w' ((W.push F a).G i) ((W.push F a).gv i):=λi=>
   ja9 (zwl (hpush.ghost i) (hpf i)) (hh'.ghost i) hz hbk
  have hs:∀t,Rp W.Z (ze6 L b G G' NL H) (λy=>V' (zb6 L NL y)) w' (F t) (a.tmps.getD t undef):=λt=>by
   have:=hgh (2*t);simp only[Env.push,Nat.mul_mod_right,if_true]at this;rwa [show 2*t / 2=t by omega]at this
  have hgg:∀i,Rp W.Z (ze6 L b G G' NL H) (λy=>V' (zb6 L NL y)) w' (W.G i) (W.gv i):=λi=>by
   have:=hgh (2*i+1);simp only[Env.push,show ¬((2*i+1) % 2=0) by omega,if_false]at this;rwa [show(2*i+1) / 2=i by omega]at this
  have hcell:∀k bd,(H k).body=some bd->∀c∈zh0 bd,FlV H c:=λk bd hbd c hc=>by
   have hfc:=hfl.h k bd hbd c hc;obtain⟨i,hi⟩:=zqu hc;cases bd with
   |row t k' m cs=>
    obtain⟨vals,_,h2,_⟩:=hr.heap.row _ _ _ _ _ hbd;have hi':cs[i]?=some c:=hi;have hlt:i<vals.length:=by rw[<- h2.1];exact(wd5.1 hi').1
    exact zwl (h2.2 i c _ hi' (wd2 hlt)) hfc
   |box t cs=>
    obtain⟨g,arr,_,_,_,h2,_⟩:=hr.heap.box _ _ _ hbd;have hi':cs[i]?=some c:=hi;have hlt:i<arr.toList.length:=by rw[<- h2.1];exact(wd5.1 hi').1
    exact zwl (h2.2 i c _ hi' (wd2 hlt)) hfc
   |raw p cs φ=>
    obtain⟨g,o,vals,_,_,_,_,h2⟩:=hr.heap.map _ _ _ _ hbd;have hi':cs[i]?=some c:=hi;have hlt:i<vals.length:=by rw[<- h2.1];exact(wd5.1 hi').1
    exact zwl (h2.2 i c _ hi' (wd2 hlt)) hfc
  have hheap:=jbx (W:=W) (G':=G') hx hn hag (W1:=W1) rfl rfl hh' hgg hcell;have hrel:Rel P W n F (ze6 L b G G' NL H) (λy=>V' (zb6 L NL y)) a w':=⟨hheap,hr.size,hr.defers,hs⟩
  have hpv:Rp W.Z (ze6 L b G G' NL H) (λy=>V' (zb6 L NL y)) w' (zdp (zht L b G G' NL) s).den v:=by
   rw[zr6];exact zbd hqv (zl6 s) hz (z3w hx hn)
  have hput:=hrel.put (Below.refl _ _) o.dst hd hpv;rcases he with rfl|rfl
  ·exact⟨hr'.defers,v,hrun,v,rfl,_,_,_,⟨rfl,rfl⟩,hput⟩
  ·exact⟨hr'.defers,v,hrun,v,rfl,_,_,_,⟨rfl,rfl⟩,hput⟩
structure Prm where
 bd:Nat->Bool
 lit:Nat->Option LK
 zt:ZT
 zt2:ZT
 zy:ZY
 S:z2d
def ztOf{α:Type}(pr:Prm)(l:List α):ZT:=match l with
 |[]=>pr.zt
 |_=>pr.zt2
def zx4(o:Oper):Nat:=match o.dst with
 |some d=>d
 |none=>0
def tySt:TS->Option Ty
 |.v ⟨.st r,_⟩=>some r
 |_=>none
def orT(a b:Option Ty):Option Ty:=match a with
 |some t=>some t
 |none=>b
def jbw(P:Program)(bd:Bool)(op:BinOp)(t:TypeId)(x y:Operand)(E:EF)(G:EG):Option SR:=match y with
 |.const (.slice none 0 0)=>match y7 P t with
  |true=>ja3 op (evE E x)
  |false=>none
 |.const (.pointer none)=>match z4m P t with
  |true=>z94 bd op G (evE E x)
  |false=>none
 |.const .nilFunc=>match P.underlying t with
  |some (.func _ _ _)=>match evE E x with
   |.fn _ _ _=>match zje op false with
    |some b=>some (.now (.c (.bool b)) [])
    |none=>none
   |.c .nilFunc=>match zje op true with
    |some b=>some (.now (.c (.bool b)) [])
    |none=>none
   |_=>none
  |_=>none
 |y=>match zgf P t y with
  |false=>none
  |true=>match P.underlying t with
   |some (.int k)=>sInt bd k op (evE E x) (evE E y)
   |some .bool=>z8t bd op (evE E x) (evE E y)
   |some .string=>sStr bd op (evE E x) (evE E y)
   |some (.struct _)=>match orT (tySt (evE E x)) (tySt (evE E y))with
    |some r=>sEqS bd (eqS P t) (P.eqGuardType P.depth t) op r E x y
    |none=>none
   |some (.array n e)=>match P.underlying e with
    |some (.int k)=>match asz P e with
     |some (false,1)=>sEqA bd (P.eqGuardType P.depth t) op n k E x y
     |_=>none
    |_=>none
   |_=>none
def z2y(P:Program)(pr:Prm)(nid:Nat)(o:Oper)(c:Call)(E:EF)(G:EG):Option SR:=match c with
 |⟨.builtin .len,⟨[x]⟩,⟨[t]⟩⟩=>match y7 P t with
  |true=>z3r (pr.bd (zx4 o)) true G (evE E x)
  |false=>match zap P t with
   |true=>z3r (pr.bd (zx4 o)) false G (evE E x)
   |false=>none
 |⟨.builtin .append,⟨[s,x]⟩,⟨[t,t']⟩⟩=>match Nat.beq t t' with
  |true=>sApp (yq P t) o G nid (evE E s) (evE E x)
  |false=>none
 |⟨.builtin .min,⟨[x,y]⟩,_⟩=>jcy (pr.bd (zx4 o)) false (evE E x) (evE E y)
 |⟨.builtin .max,⟨[x,y]⟩,_⟩=>jcy (pr.bd (zx4 o)) true (evE E x) (evE E y)
 |⟨.value f,as',ts⟩=>match jax pr.S E ⟨.value f,as',ts⟩with
  |some q=>some q
  |none=>z2m pr.S E G ⟨.value f,as',ts⟩
 |_=>none
abbrev Sy1:=Nat->Nat->Nat->Oper->EF->EG->Option SR
def z48(P:Program)(pr:Prm):Sy1:=λctx nid site o E G=>match o.op with
 |.move x=>some (.now (evE E x) [])
 |.assign x=>some (.now (evE E x) [])
 |.pick c x y=>z9c (pr.bd (zx4 o)) (evE E c) (evE E x) (evE E y)
 |.binOp op t x y _=>jbw P (pr.bd (zx4 o)) op t x y E G
 |.unOp .not _ x=>sNot (pr.bd (zx4 o)) (evE E x)
 |.convert s d x=>match (zku P s).isSome with
  |true=>match zku P d with
   |some k=>jf2 (pr.bd (zx4 o)) k (evE E x)
   |none=>none
  |false=>none
 |.extract x i=>sExt (evE E x) i
 |.call c=>z2y P pr nid o c E G
 |.indexAddr t x i=>sIdx (esz P t) (arr P t) G (evE E x) (evE E i)
 |.index t x i=>match zap P t with
  |true=>jf4 (evE E x) (evE E i)
  |false=>none
 |.fieldAddr s x f=>match fof P s f with
  |some (fo,ft)=>match asz P ft with
   |some (ag,k)=>sFld fo k ag G (evE E x)
   |none=>none
  |none=>none
 |.field s x f=>match fof P s f with
  |some (fo,ft)=>match asz P ft with
   |some (ag,k)=>sFie fo k ag (evE E x)
   |none=>none
  |none=>none
 |.load t x=>match asz P t with
  |some (ag,k)=>sLd ag k G (evE E x)
  |none=>none
 |.store t x y=>match asz P t with
  |some (ag,k)=>sSto ag k G (evE E x) (evE E y)
  |none=>none
 |.slice t x lo hi none=>sSli (esz P t) (zap P t) (evE E x) (lo.map (evE E)) (hi.map (evE E))
 |.build t parts=>sBld (ztOf pr parts.toList) (arr P t).isSome (zj8 P t) t G (parts.toList.map λx=>(x.1,evE E x.2))
 |.makeFunc f a b=>some (.now (.fn f (a.toList.map (evE E)) (b.toList.map (evE E))) [])
 |.nilCheck x=>z8a G (evE E x)
 |.alloc t=>z2q pr.zt t o G nid
 |.box t x=>sBox t o G nid (evE E x)
 |.makeSlice t x y=>sMk pr.zy (yq P t) o G nid (zx1 x y) (evE E x)
 |.buildSlice t len parts=>sLit (pr.lit (zx4 o)) (yq P t) o G nid len (parts.toList.map λx=>(x.1,evE E x.2))
 |_=>none
section
variable{P:Program}{pr:Prm}{o:Oper}{E:EF}{G:EG}
theorem jbh{bd:Bool}{op:BinOp}{t t':TypeId}{x y:Operand}{q:SR}(ho:o.op=.binOp op t x y t')(h:jbw P bd op t x y E G=some q):SOk P o E G q:=by
 unfold jbw at h;split at h
 ·split at h<;>try (cases h;done)
  rename_i ht;exact z95 ho ht h
 ·split at h<;>try (cases h;done)
  rename_i ht;exact z8s ho ht h
 ·split at h<;>try (cases h;done)
  rename_i A B C hu;split at h<;>try (cases h;done)
  ·rename_i f a b hx;split at h<;>cases h;rename_i b' hb;refine SOk.now λW F H hag=>(wda ho hu (.inl ⟨f,yk a,yk b,?_,rfl⟩) hb:PQ P W o F H (.u (.bool b')))
   rw[hag.ev (by rw[ho];simp[Op.operands]),hx];simp only[TS.den]
  ·rename_i hx;split at h<;>cases h;rename_i b' hb;refine SOk.now λW F H hag=>(wda ho hu (.inr ⟨?_,rfl⟩) hb:PQ P W o F H (.u (.bool b')))
   rw[hag.ev (by rw[ho];simp[Op.operands]),hx];simp only[TS.den];rfl
 ·split at h<;>try (cases h;done)
  rename_i hy;split at h
  ·exact jcu ho hy h
  ·rename_i hu;exact z8u hu ho hy h
  ·exact jfc ho hy h
  ·split at h<;>try (cases h;done)
   exact jef (d:=0) ho h
  ·rename_i hu;split at h<;>try (cases h;done)
   rename_i hD;split at h<;>try (cases h;done)
   rename_i hs;exact jdr ho hu hD hs h
  ·cases h
theorem z5r(hS:Vm P pr.S){nid:Nat}{c:Call}{q:SR}(ho:o.op=.call c)(h:z2y P pr nid o c E G=some q):SOk P o E G q:=by
 unfold z2y at h;split at h
 ·rename_i x t;split at h
  ·rename_i ht;exact z35 ho (λ_=>ht) (λe=>by cases e) h
  ·split at h<;>try (cases h;done)
   rename_i ht;exact z35 ho (λe=>by cases e) (λ_=>ht) h
 ·rename_i s x t t';split at h<;>try (cases h;done)
  rename_i ht;have:=wd9 ht;subst this;exact jdt ho h
 ·exact z4o (mx:=false) ho h
 ·exact z4o (mx:=true) ho h
 ·split at h
  ·rename_i q' hq';cases h;exact jau hS ho hq'
  ·exact z58 hS ho h
 ·cases h
theorem z1b(hS:Vm P pr.S)(hzt:zdi P pr.zt)(hzt2:zdi P pr.zt2):∀ctx nid site o E G q,z48 P pr ctx nid site o E G=some q->SOk P o E G q:=λctx nid site o E G q h=>by
 unfold z48 at h;split at h
 ·rename_i x ho;cases h;exact zyp (.inl ho)
 ·rename_i x ho;cases h;exact zyp (.inr ho)
 ·rename_i ho;exact jbs ho h
 ·rename_i ho;exact jbh ho h
 ·rename_i ho;exact jc6 ho h
 ·rename_i ho;split at h<;>try (cases h;done)
  rename_i h1;split at h<;>try (cases h;done)
  rename_i h2;exact jb8 ho h1 h2 h
 ·rename_i ho;exact jfj ho h
 ·rename_i ho;exact z5r hS ho h
 ·rename_i ho;exact jfb ho h
 ·rename_i ho;split at h<;>try (cases h;done)
  rename_i h1;exact z9w ho h1 h
 ·rename_i ho;split at h<;>try (cases h;done)
  rename_i h1;split at h<;>try (cases h;done)
  rename_i h2;exact jev ho h1 h2 h
 ·rename_i ho;split at h<;>try (cases h;done)
  rename_i h1;split at h<;>try (cases h;done)
  rename_i h2;exact je4 ho h1 h2 h
 ·rename_i ho;split at h<;>try (cases h;done)
  rename_i h2;exact sLd_ok ho h2 h
 ·rename_i ho;split at h<;>try (cases h;done)
  rename_i h2;exact jd5 ho h2 h
 ·rename_i ho;exact jet ho h
 ·rename_i ho;refine je6 ?_ ho h;unfold ztOf;split<;>assumption
 ·rename_i ho;cases h;exact je2 ho
 ·rename_i ho;exact z91 ho h
 ·rename_i ho;exact z6l hzt ho h
 ·rename_i ho;exact jdx ho h
 ·rename_i ho;exact sMk_ok ho h
 ·rename_i ho;exact jda ho h
 ·cases h
end
def w64(z:Int):Int:=IntKind.i64.wrap z
def wr(k:IntKind)(z:Int):Int:=k.wrap z
theorem jay{α:Type}{f a:Nat}{x:α}{y z:Option α}{G:Prop}(h:cond (Nat.beq f a) y z=some x)(h1:f=a->y=some x->G)(h2:z=some x->G):G:=by
 cases hb:Nat.beq f a
 ·rw[hb]at h;exact h2 h
 ·rw[hb]at h;exact h1 (wd9 hb) h
theorem wb2{ps qs:List PV}(h:ps=qs):RefL ps qs:=h▸RefL.refl ps
def zgm(s:List UInt8)(p:Int):Bool:=Nat.blt p.toNat s.length
def z42(p:Int):Int:=(p.toNat:Int)
def zxd(s:List UInt8)(p:Int):Int:=((Utf8.decode ⟨⟨s⟩⟩ p.toNat).1:Int)
def zf5(s:List UInt8)(p:Int):Int:=((p.toNat+(Utf8.decode ⟨⟨s⟩⟩ p.toNat).2:Nat):Int)
def z3j(P:Program)(t:TypeId)(o:Oper)(nid:Nat)(G:EG)(x:TS):Option SR:=match zap P t with
 |false=>none
 |true=>match Vf o with
  |false=>none
  |true=>match Vv .str x with
   |none=>none
   |some s=>some (.mem (.own nid (nv G nid)) nid ⟨nv G nid,some (.obj .si (s,0,()))⟩ [])
def z8g(o:Oper)(G:EG)(x:TS):Option SK:=match Vf o with
 |false=>none
 |true=>match x with
  |.own id ver=>match Nat.beq (G id).ver ver with
   |true=>match (G id).b with
    |some (.obj .si y)=>some ⟨λk=>ifB (zgm y.1 y.2.1) (k (.tup [.c (.bool true),.v ⟨.int .i64,z42 y.2.1⟩,.v ⟨.int .i32,zxd y.1 y.2.1⟩]) [(id,⟨ver,some (.obj .si (y.1,zf5 y.1 y.2.1,()))⟩)] ⟨[],[id]⟩) (k (.tup [.c (.bool false)]) [] ⟨[id],[]⟩)⟩
    |_=>none
   |false=>none
  |_=>none
section
variable{P:Program}{o:Oper}{E:EF}{G:EG}{H:PHeap}{F:PFrame}{W:Env}{n:Nat}
theorem z7n{t:TypeId}{nid:Nat}{x:Operand}{q:SR}(ho:o.op=.range t x)(h:z3j P t o nid G (evE E x)=some q):SOk P o E G q:=by
 have hx':x∈o.op.operands:=by rw[ho];simp[Op.operands]
 unfold z3j at h;split at h<;>try (cases h;done)
 rename_i ht;split at h<;>try (cases h;done)
 rename_i hds;split at h<;>cases h;rename_i s hs;have hu:P.underlying t=some .string:=by
  unfold zap at ht;split at ht
  ·assumption
  ·cases ht
 refine SOk.mem λW n F H hdo hag V a w hr=>?_;have hxv:a.eval x=.string ⟨⟨s⟩⟩:=by
  have:=Rp.eval (P:=P) (F:=F) (a:=a) (Z:=W.Z) (H:=H) (V:=V) (w:=w) x λt _=>hr.slot t;rw[hag.ev hx',zf hs]at this;generalize a.eval x=v at this;cases this;rfl
 have hex:(execOp a.eval o).run P w=.ok (.value (.pointer (some ⟨w.heap.size,0,none⟩))) (w.alloc (.stringIter ⟨⟨s⟩⟩ 0)):=by
  simp[execOp,ho,hxv,Instr.range,run_underlying hu]
 refine yh hex ⟨.ps (2*nid) (nv G nid),H.set (2*nid) ⟨(H (2*nid)).ver+1,some (RK.den .si (s,0,()))⟩,yf V (2*nid) (.pointer (some ⟨w.heap.size,0,none⟩)),⟨by simp only[TS.den],?_⟩,?_⟩
 ·rw[zqi hag];rfl
 ·have hb:Below w.heap.size w (w.alloc (.stringIter ⟨⟨s⟩⟩ 0)):=(Below.refl _ _).alloc (weh _) _;refine hr.turn (wa6 hr.heap hb rfl λg hg=>by cases hg;exact weh _) (λbd hbd=>?_) o.dst (λt ht=>hdo t ht) ?_
  ·cases hbd;exact⟨w.heap.size,_,[],rfl,hr.heap.below.size,heap_alloc_new w _,rfl,rfl,λi p v h=>by simp at h⟩
  ·refine .ps _ _ _ ?_ λ_ _=>?_
   ·simp[PHeap.set,zqi hag]
   ·simp[yf]
theorem jfv{id ver:Nat}{y:List UInt8×Int×Unit}(hG:G id=⟨ver,some (.obj .si y)⟩)(hH:H (2*id)=qj (G id)){V:Nat->Value}{w:World}(hr:HRel P W H V w){v:Value}(hv:Rp W.Z H V w (.ps (2*id) ver) v):
  ∃g,v=.pointer (some ⟨g,0,none⟩)/\V (2*id)=.pointer (some ⟨g,0,none⟩)/\W.w.heap.size<=g/\w.heap[g]?=some (.stringIter ⟨⟨y.1⟩⟩ y.2.1.toNat):=by
 have hb:H (2*id)=⟨ver,some (RK.den .si y)⟩:=by rw[hH,hG];rfl
 obtain⟨g,o,vs,e,hg,hh,rfl,_⟩:=hr.map (2*id) true [] _ (by rw[hb];rfl);cases hv with
 |ps _ _ _ hvv hq=>
  have:=hq (by rw[hb];rfl) (by rw[hb]);exact⟨g,by rw[this,e];rfl,e,hg,hh⟩
theorem ja7{x:Operand}{q:SK}(ho:o.op=.next x true)(h:z8g o G (evE E x)=some q):z75 P o E G q:=by
 have hx':x∈o.op.operands:=by rw[ho];simp[Op.operands]
 unfold z8g at h;split at h<;>try (cases h;done)
 rename_i hds;split at h<;>try (cases h;done)
 rename_i id ver hx;split at h<;>try (cases h;done)
 rename_i hv;split at h<;>cases h;rename_i y hb;have hG:G id=⟨ver,some (.obj .si y)⟩:=by
  cases hG:G id with
  |mk v b=>
   rw[hG]at hv hb;simp only at hv hb;rw[qz hv,hb]
 intro β k r hr;simp only at hr;cases hm:zgm y.1 y.2.1 with
 |false=>
  rw[hm]at hr;refine⟨_,_,_,hr,λk2=>by simp only[hm];rfl,λid' h=>by simp at h,λW n F H hfl hdo hF hH=>?_⟩;have hag:Agr o E G [id] F H:=⟨hF,λi hi=>hH i (.inl hi)⟩
  refine wak hdo (wae λV a w hw hh=>?_) ⟨rfl,rfl⟩;have hxv:=hh x hx';rw[hag.ev hx',hx]at hxv;simp only[TS.den]at hxv;obtain⟨g,e1,e2,e3,e4⟩:=jfv hG (hag.h id (by simp)) hw hxv;have hlt:¬y.2.1.toNat<y.1.length:=by
   intro h;have:zgm y.1 y.2.1=true:=by simpa [zgm,wg1]using h
   rw[hm]at this;cases this
  refine⟨.tuple #[.bool false],?_,?_⟩
  ·have hs:¬y.2.1.toNat<(⟨⟨y.1⟩⟩:ByteArray).size:=by simpa [ByteArray.size]using hlt
   simp[execOp,ho,e1,Instr.next,getObj,Sem.run,e4,hs]
  ·simp only[TS.den,yk];exact .tup _ _ rfl λi p v h1 h2=>by
    match i,h1,h2 with
    |0,h1,h2=>cases h1;cases h2;exact .u _
 |true=>
  rw[hm]at hr;refine⟨_,_,_,hr,λk2=>by simp only[hm];rfl,λid' h=>by simpa using h,λW n F H hfl hdo hF hH V a w hrel=>?_⟩;have hag:Agr o E G [id] F H:=⟨hF,λi hi=>hH i (.inr (by simpa using hi))⟩
  have hxv:=Rp.eval (P:=P) (F:=F) (a:=a) (Z:=W.Z) (H:=H) (V:=V) (w:=w) x λt _=>hrel.slot t;rw[hag.ev hx',hx]at hxv;simp only[TS.den]at hxv;have hHi:=hag.h id (by simp);obtain⟨g,e1,e2,e3,e4⟩:=jfv hG hHi hrel.heap hxv;have hlt:y.2.1.toNat<y.1.length:=by simpa [zgm,wg1]using hm
  have hs:y.2.1.toNat<(⟨⟨y.1⟩⟩:ByteArray).size:=by simpa [ByteArray.size]using hlt
  have hHb:H (2*id)=⟨ver,some (RK.den .si y)⟩:=by rw[hHi,hG];rfl
  have hl:(H (2*id)).body.isSome=true:=by rw[hHb];rfl
  have hgl:=(wew.1 e4).1;have hother:∀(o:Obj)b,b≠g->(w.heap.setIfInBounds g o)[b]?=w.heap[b]?:=λo b hne=>by simp[Ne.symm hne]
  have hex:(execOp a.eval o).run P w=.ok (.value (.tuple #[.bool true,.int .i64 (y.2.1.toNat:Int),.int .i32 ((Utf8.decode ⟨⟨y.1⟩⟩ y.2.1.toNat).1:Int)])) { w with heap:=w.heap.setIfInBounds g (.stringIter ⟨⟨y.1⟩⟩ (y.2.1.toNat+(Utf8.decode ⟨⟨y.1⟩⟩ y.2.1.toNat).2)) }:=by
   simp[execOp,ho,e1,Instr.next,getObj,setObj,Sem.run,e4,hs,goInt]
  have hturn:Turn W H V w (2*id) ⟨ver,some (RK.den .si (y.1,zf5 y.1 y.2.1,()))⟩ (V (2*id)) { w with heap:=w.heap.setIfInBounds g (.stringIter ⟨⟨y.1⟩⟩ (y.2.1.toNat+(Utf8.decode ⟨⟨y.1⟩⟩ y.2.1.toNat).2)) }:=
   ⟨hrel.heap.below.trans ⟨rfl,rfl,rfl,by simp,λb hb=>hother _ b (by omega)⟩,by simp,λb hb hn=>hother _ b λe=>hn ⟨hl,by rw[e,e2];rfl⟩,λg' hg'=> .inr ⟨hl,hg'⟩,.inr ⟨by rw[hHb],rfl,hl⟩⟩
  refine yh hex ⟨_,_,yf V (2*id) (V (2*id)),⟨rfl,rfl⟩,hrel.turn hturn (λbd hbd=>?_) o.dst hdo ?_⟩
  ·cases hbd;exact⟨g,.stringIter ⟨⟨y.1⟩⟩ (y.2.1.toNat+(Utf8.decode ⟨⟨y.1⟩⟩ y.2.1.toNat).2),[],e2,e3,by simp[hgl],by show Obj.stringIter _ _=Obj.stringIter _ _;rw[show(zf5 y.1 y.2.1).toNat=y.2.1.toNat+(Utf8.decode ⟨⟨y.1⟩⟩ y.2.1.toNat).2 from wem _],rfl,λi p v h=>by simp at h⟩
  ·simp only[TS.den,yk];exact .tup _ _ rfl λi p v h1 h2=>by
    match i,h1,h2 with
    |0,h1,h2=>cases h1;cases h2;exact .u _
    |1,h1,h2=>cases h1;cases h2;exact .u _
    |2,h1,h2=>cases h1;cases h2;exact .u _
end
def stK(P:Program)(q:Option SR)(nid:Nat)(o:Oper)(E:EF)(G:EG):Option SK:=match o.op with
 |.next x true=>z8g o G (evE E x)
 |.range t x=>match z3j P t o nid G (evE E x)with
  |some q=>some q.k
  |none=>none
 |_=>match q with
  |some q=>some q.k
  |none=>none
theorem jby{P:Program}{q:Option SR}{nid:Nat}{o:Oper}{E:EF}{G:EG}(hq:∀x,q=some x->SOk P o E G x){r:SK}(h:stK P q nid o E G=some r):z75 P o E G r:=by
 unfold stK at h;split at h
 ·rename_i x ho;exact ja7 ho h
 ·rename_i t x ho;split at h<;>cases h;rename_i q' hq';exact(z7n ho hq').k
 ·split at h<;>cases h;exact(hq _ rfl).k
def zni(un:List Nat)(keep:Bool):List Nat->Nat->List Nat
 |[],_=>[]
 |i::r,j=>match eqb (zfy un j) keep with
  |true=>zni un keep r (j+1)
  |false=>i::zni un keep r (j+1)
def zf2:List Nat->Bool
 |[]=>true
 |x::r=>!(zfy r x) && zf2 r
theorem zbs:∀{l:List Nat},zf2 l=true->l.Nodup
 |[],_=>List.nodup_nil
 |x::r,h=>by
  simp only[zf2,wd8,wg5]at h;refine List.nodup_cons.2 ⟨λhm=>?_,zbs h.2⟩;rw[Qu.2 hm]at h;cases h.1
def jak(b:Nat):List Nat->List Nat
 |[]=>[]
 |x::r=>match Nat.ble b x with
  |true=>x::jak b r
  |false=>jak b r
def numL:Nat->List Nat->List (Nat×Nat)
 |_,[]=>[]
 |i,x::r=>(i,x)::numL (i+1) r
def upTo:Nat->Nat->List Nat
 |0,_=>[]
 |m+1,i=>i::upTo m (i+1)
def zz2(L:List Nat)(b:Nat)(NL:List (Nat×Nat)):Bool:=zf2 (L++NL.map Prod.fst) && zf2 (NL.map Prod.snd) && NL.all λx=>Nat.ble b x.2
theorem z03{L:List Nat}{b:Nat}{NL:List (Nat×Nat)}(h:zz2 L b NL=true):zxj L b NL:=by
 unfold zz2 at h;simp only[wd8,we0]at h;exact⟨zbs h.1.1,zbs h.1.2,λx hx=>wf1 (h.2 x hx)⟩
def liveUp(G:EG)(b:Nat):List Nat:=Z3 G ((upTo b 0).map λX=>(X,1))
def newL(b nid:Nat)(G':EG)(s:TS):Option (List (Nat×Nat)):=match zm9 G' 1000 (Z3 G' (idvT s)++liveUp G' b) []with
 |some ys=>some (numL nid (jak b ys))
 |none=>none
structure IE where
 f:FuncId
 n:Nat
 rs:List ResultVar
 c:Code
 hint:Nat->Option HK
 ctx:Nat
 un:List Nat
def z84(P:Program)(x:IE):Prop:=∃fn,P.funcs[x.f]?=some fn/\fn.body=some x.c/\fn.ntmps=x.n/\fn.results.toList=x.rs/\yx P x.f=true
def inlX{β:Type}(P:Program)(x:IE)(L:List Nat)(b nid:Nat)(G:EG)(k:TS->List (Nat×GB)->RT->Option β):EK β:=λe nx E' G'=>match e with
 |.normal=>inlR E' G'
 |.ret=>inlR E' G'
 |_=>none
where
 inlR (E':EF) (G':EG):Option β:=match zn4 P x.rs E' G' with
  |none=>none
  |some s=>match newL b nid G' s with
   |none=>none
   |some NL=>match zz2 L b NL with
    |true=>k (zdp (zht L b G G' NL) s) (znv L b G G' NL) ⟨[],L++NL.map Prod.fst⟩
    |false=>none
def inlK(P:Program)(sy:SyT)(fuel:Nat)(x:IE)(cl:Call)(nid:Nat)(E:EF)(G:EG):Option SK:=match zxc E cl with
 |none=>none
 |some (f,az)=>match Nat.beq f x.f && Nat.ble az.length x.n with
  |false=>none
  |true=>match zm9 G 1000 (Z3 G (zfm az)) []with
   |none=>none
   |some seen=>match zni x.un true seen 0 with
    |L0=>match L0++zni x.un false seen 0 with
     |L=>match zf2 L with
      |false=>none
      |true=>some ⟨λk=>qp sy fuel x.hint x.ctx L0.length x.n x.c 1 L.length (z90 (Vk (mu1 L L.length G) az)) (inG L G) (inlX P x L L0.length nid G k)⟩
theorem zt8{β:Type}{P:Program}{x:IE}{L:List Nat}{b nid:Nat}{G:EG}{k:TS->List (Nat×GB)->RT->Option β}{e:Exit}{nx:Nat}{E':EF}{G':EG}{r:β}(h:inlX P x L b nid G k e nx E' G'=some r):
  (e=.normal\/e=.ret)/\∃s NL,zn4 P x.rs E' G'=some s/\zz2 L b NL=true/\k (zdp (zht L b G G' NL) s) (znv L b G G' NL) ⟨[],L++NL.map Prod.fst⟩=some r /\
   ∀{γ:Type}(k2:TS->List (Nat×GB)->RT->Option γ),inlX P x L b nid G k2 e nx E' G'=k2 (zdp (zht L b G G' NL) s) (znv L b G G' NL) ⟨[],L++NL.map Prod.fst⟩:=by
 have key:∀{β:Type}{k:TS->List (Nat×GB)->RT->Option β}{r:β},inlX.inlR P x L b nid G k E' G'=some r->∃s NL,zn4 P x.rs E' G'=some s/\zz2 L b NL=true/\k (zdp (zht L b G G' NL) s) (znv L b G G' NL) ⟨[],L++NL.map Prod.fst⟩=some r /\
   ∀{γ:Type}(k2:TS->List (Nat×GB)->RT->Option γ),inlX.inlR P x L b nid G k2 E' G'=k2 (zdp (zht L b G G' NL) s) (znv L b G G' NL) ⟨[],L++NL.map Prod.fst⟩:=by
  intro β k r h;unfold inlX.inlR at h;split at h<;>try (cases h;done)
  rename_i s hs;split at h<;>try (cases h;done)
  rename_i NL hN;split at h<;>try (cases h;done)
  rename_i hx;exact⟨s,NL,hs,hx,h,λk2=>by unfold inlX.inlR;rw[hs];simp only[hN,hx]⟩
 unfold inlX at h;split at h
 ·obtain⟨s,NL,h1,h2,h3,h4⟩:=key h;exact⟨.inl rfl,s,NL,h1,h2,h3,λk2=>by unfold inlX;exact h4 k2⟩
 ·obtain⟨s,NL,h1,h2,h3,h4⟩:=key h;exact⟨.inr rfl,s,NL,h1,h2,h3,λk2=>by unfold inlX;exact h4 k2⟩
 ·cases h
theorem jew{P:Program}{sy:SyT}(hsy:zpk P sy)(hm:P.follows .mixedOrders=true){fuel:Nat}{x:IE}(hx:z84 P x){o:Oper}{cl:Call}(ho:o.op=.call cl){nid:Nat}{E:EF}{G:EG}{q:SK}(h:inlK P sy fuel x cl nid E G=some q):z75 P o E G q:=by
 obtain⟨fn,hf,hb,hn,hr,hg⟩:=hx;unfold inlK at h;split at h<;>try (cases h;done)
 rename_i f az ht;split at h<;>try (cases h;done)
 rename_i hfx;simp only[wd8]at hfx;have hf1:=qz hfx.1;have hf2:=wf1 hfx.2;subst hf1;split at h<;>try (cases h;done)
 rename_i seen hseen;simp only at h;split at h<;>try (cases h;done)
 rename_i hnd;cases h;intro β k r hk;obtain⟨e,nx',E',G',h1,hu,hoc⟩:=ze hm hsy x.c 1 _ _ _ _ _ hk;obtain⟨he,s,NL,hs,hex,hkr,hu2⟩:=zt8 h1;refine⟨_,_,_,hkr,λk2=>?_,λid hid=>by rw[zbq]at hid;exact hid,λW n F H hfl hd hF hH=>?_⟩
 ·show qp _ _ _ _ _ _ _ _ _ _ _ (inlX P x _ _ nid G k2)=_;rw[hu];exact hu2 k2
 ·have hag:Agr o E G [] F H:=⟨hF,λid h=>by cases h⟩
  refine wd1 hd ho (zk2 ho hag ht) hg hf hb (by rw[hn];exact hf2) hfl (z03 hex) (zbs hnd) (λi hi=>hH i (.inr (by rw[zbq];exact hi))) he (λW1 R1 hg1 hr1=>by rw[hn];exact hoc W1 R1 hg1 hr1) ?_;rw[hr];exact hs
def jch(it:Nat->Nat->FuncId->Option IE)(ctx site:Nat)(o:Oper)(E:EF):Option (IE×Call):=match o.op with
 |.call cl=>match zxc E cl with
  |some (f,_)=>match it ctx site f with
   |some x=>some (x,cl)
   |none=>none
  |none=>none
 |_=>none
theorem z3k{it:Nat->Nat->FuncId->Option IE}{ctx site:Nat}{o:Oper}{E:EF}{x:IE×Call}(h:jch it ctx site o E=some x):o.op=.call x.2/\∃ctx site f,it ctx site f=some x.1:=by
 unfold jch at h;split at h<;>try (cases h;done)
 rename_i cl ho;split at h<;>try (cases h;done)
 rename_i f az ht;split at h<;>cases h;rename_i y hy;exact⟨ho,_,_,_,hy⟩
theorem wp_put{P:Program}{o:Oper}{a:Act}{w:World}{K:Act->World->Prop}{Q:Exit->Act->World->Prop}(hh:o.wp P a w K Q):o.wp P a w (λa' w'=>K a' w'/\∃v ds,a' = { a with defers:=ds }.put o.dst v) Q:=by
 unfold Oper.wp at *;generalize (execOp a.eval o).run P w=r at *;cases r with
 |ok n w'=>
  cases n<;>simp only[Oper.upon]at hh⊢ <;>
   first
    |exact⟨hh,_,_,rfl⟩
    |exact⟨hh,_,a.defers,rfl⟩
    |exact Calls.mono hh (λe w'' he=>by cases e<;>first|exact⟨he,_,a.defers,rfl⟩|exact he)
    |exact Rows.mono hh (λ_ _ he=>⟨he,_,a.defers,rfl⟩)
 |halt x w'=>cases x<;>simp only[Oper.upon]at hh⊢<;>exact hh
theorem put_at{a:Act}{ds:List Deferred}{d:Option Nat}{v:Value}{t:Nat}(h:d≠some t):({ a with defers:=ds }.put d v:Act).tmps.getD t undef=a.tmps.getD t undef:=by
 cases d with
 |none=>rfl
 |some d=>
  have e:d≠t:=λe=>h (by rw[e]);simp[Act.put,wgk e]
def zzd(D:List Nat)(G:EG):EG:=λid=>match zfy D id with
 |true=>⟨(G id).ver+1,none⟩
 |false=>G id
def zik(D:List Nat):Nat->Bool:=λy=>Nat.beq (y % 2) 0 && zfy D (y / 2)
theorem zg7(D:List Nat)(id:Nat):zik D (2*id)=zfy D id:=by
 unfold zik;rw[show 2*id % 2=0 by omega,show 2*id / 2=id by omega];simp
def zsl:List (Nat×Ty)->Nat->Option Ty
 |[],_=>none
 |x::r,t=>match Nat.beq x.1 t with
  |true=>some x.2
  |false=>zsl r t
def jc9(D:List Nat)(sl:List (Nat×Ty))(E:EF)(G:EG):EF:=λt=>match zsl sl t with
 |none=>E t
 |some ty=>match z8 (zan D G) ty (E t)with
  |some x => .v ⟨ty,x⟩
  |none=>E t
def ztw(D:List Nat)(G:EG):List (Nat×GB):=D.map λid=>(id,⟨(G id).ver+1,none⟩)
def SR.frz(D:List Nat)(G:EG)(q:SR):SR:={ q with w:=λx=>ztw D G++q.w x,tc:=D++q.tc }
theorem zkb:∀(a b:List (Nat×zcb))(H:PHeap),zw H (a++b)=zw (zw H a) b
 |[],b,H=>rfl
 |x::a,b,H=>by simp only[wha,zw];exact zkb a b _
section
variable{P:Program}{W:Env}{n:Nat}{F:PFrame}{H:PHeap}{o:Oper}{E:EF}{G:EG}{D:List Nat}
theorem z7q(hn:D.Nodup)(hH:∀id∈D,H (2*id)=qj (G id)):zw H (za8 (ztw D G))=H.less (zik D):=by
 have hk:(ztw D G).map Prod.fst=D:=by unfold ztw;rw[wff];exact List.map_id' D
 funext y;unfold PHeap.less;cases hy:zik D y with
 |false=>
  simp only[we4,if_false];refine zmk λi hi e=>?_;rw[hk]at hi;subst e;rw[zg7,Qu.2 hi]at hy;cases hy
 |true=>
  simp only[if_true];obtain⟨i,rfl⟩:∃i,y=2*i:=by
   unfold zik at hy;simp only[wd8]at hy;exact⟨y / 2,by have:=qz hy.1;omega⟩
  rw[zg7]at hy;have hi:=Qu.1 hy;rw[zg6 (g:=⟨(G i).ver+1,none⟩) (by rw[hk];exact hn) (by unfold ztw;exact wef.2 ⟨i,hi,rfl⟩),hH i hi];rfl
theorem jfa(hH:∀id∈D,H (2*id)=qj (G id)){id:Nat}(h:id∈D\/H (2*id)=qj (G id)):H.less (zik D) (2*id)=qj (zzd D G id):=by
 unfold PHeap.less zzd;rw[zg7];cases hm:zfy D id with
 |true=>simp only[if_true];rw[hH id (Qu.1 hm)];rfl
 |false=>
  simp only[we4,if_false];rcases h with h|h
  ·rw[Qu.2 h]at hm;cases hm
  ·exact h
open Classical in
theorem SOk.frz{sl:List (Nat×Ty)}{q:SR}(hn:D.Nodup)(h:SOk P o (jc9 D sl E G) (zzd D G) q):SOk P o E G (q.frz D G):=by
 obtain⟨h1,h2⟩:=h;refine⟨λx=>?_,λx hx W n F H hfl hd hF hH V a w hr=>?_⟩
 ·have hx1:=h1 x;show(ztw D G++q.w x).map Prod.fst=D++q.tc;rw[wfl];refine(congrArg (λl=>List.map Prod.fst (ztw D G)++l) hx1).trans ?_;show List.map Prod.fst (ztw D G)++q.tc=D++q.tc;unfold ztw;rw[wff];congr 1;exact List.map_id' D
 have hD:∀id∈D,H (2*id)=qj (G id):=λid hid=>hH id (.inr (wgr _ hid));have hq:∀id,id∈q.rd\/id∈q.tc->H.less (zik D) (2*id)=qj (zzd D G id):=λid hid=>jfa hD (.inr (by
  rcases hid with hid|hid
  ·exact hH id (.inl hid)
  ·exact hH id (.inr (List.mem_append_right _ hid))))
 let F1:PFrame:=λt=>match zsl sl t with
  |none=>F t
  |some ty=>match z8 (zan D G) ty (E t)with
   |some x=>if Operand.tmp t∈o.op.operands then enc ty x else F t
   |none=>F t
 have hF1:∀t,Operand.tmp t∈o.op.operands->F1 t=(jc9 D sl E G t).den:=λt ht=>by
  show(match zsl sl t with|none=>F t|some ty=>match z8 (zan D G) ty (E t)with|some x=>if Operand.tmp t∈o.op.operands then enc ty x else F t|none=>F t)=_;unfold jc9;cases zsl sl t with
  |none=>exact hF t ht
  |some ty=>
   simp only;cases z8 (zan D G) ty (E t)with
   |none=>exact hF t ht
   |some x=>simp only[if_pos ht,TS.den]
 let W1:Env:=W.push F a
 have hfl1:FlW W1 F1 (H.less (zik D)):=by
  refine⟨λi=>?_,λt=>?_,λk bd hb c hc=>?_⟩
  ·simp only[W1,Env.push];split
   ·exact hfl.f _
   ·exact hfl.g _
  ·show Fl (match zsl sl t with|none=>F t|some ty=>match z8 (zan D G) ty (E t)with|some x=>if Operand.tmp t∈o.op.operands then enc ty x else F t|none=>F t);split
   ·exact hfl.f t
   ·split
    ·split
     ·exact .noP (Q7 _ _)
     ·exact hfl.f t
    ·exact hfl.f t
  ·exact hfl.h k bd (zdo hb).2 c hc
 have hrel:Rel P W1 n F1 (H.less (zik D)) V a w:=by
  refine⟨?_,hr.size,hr.defers,λt=>?_⟩
  ·have hl:=hr.heap.less (D:=zik D);refine⟨hl.below,hl.row,hl.box,hl.map,λi=>?_,hl.apart,hl.zlt,hl.nz⟩;simp only[W1,Env.push];split
   ·exact(hr.slot _).less
   ·exact(hr.heap.ghost _).less
  ·show Rp W.Z (H.less (zik D)) V w (match zsl sl t with|none=>F t|some ty=>match z8 (zan D G) ty (E t)with|some x=>if Operand.tmp t∈o.op.operands then enc ty x else F t|none=>F t) _;split
   ·exact(hr.slot t).less
   ·rename_i ty hty;split
    ·rename_i x hx;split
     ·rename_i hop;have hv:=(Qy (H:=H.only (zik D)) (λid hs=>?_) ty (E t) x hx).1
      ·have h1:=(hr.slot t).only (D:=zik D);rw[hF t hop]at h1;have h3:=hv P (W.kept H V (zik D)) V w hr.heap.only _ h1;refine h3.noP (Q7 _ _) (λb _ hz hz'=>hz (zi.2 ?_)) (weh _);rcases hz' with hz'|⟨id,h3,h4⟩
       ·exact .inl hz'
       ·exact .inr ⟨id,(Q8 h3).1,(Q8 h3).2,h4⟩
      ·unfold PHeap.only;rw[zg7];unfold zan at *;cases hm:zfy D id with
       |true=>simp only[if_true];exact hD id (Qu.1 hm)
       |false=>rw[hm]at hs;simp at hs
     ·exact(hr.slot t).less
    ·exact(hr.slot t).less
 have hpe:=h2 x hx W1 n F1 (H.less (zik D)) hfl1 hd hF1 hq V a w hrel;refine Oper.wp_mono (λa' w'⟨⟨p,H',V',⟨hp,hH'⟩,hr'⟩,v,ds,ha⟩=>?_) (wp_put hpe);refine⟨p,H',V',⟨hp,?_⟩,?_⟩
 ·rw[hH'];show _=zw H (za8 (ztw D G++q.w x));unfold za8;rw[wfl,zkb];exact congrArg (λh=>zw h _) (z7q hn hD).symm
 ·have hg:=hr'.heap.ghost;refine⟨⟨hr'.heap.below,hr'.heap.row,hr'.heap.box,hr'.heap.map,λi=>?_,hr'.heap.apart,hr'.heap.zlt,hr'.heap.nz⟩,hr'.size,hr'.defers,λt=>?_⟩
  ·have:=hg (2*i+1);simp only[W1,Env.push,show ¬((2*i+1) % 2=0) by omega,if_false]at this;rwa [show(2*i+1) / 2=i by omega]at this
  ·by_cases e:o.dst=some t
   ·have:=hr'.slot t;simp only[PFrame.put,if_pos e]at this⊢;exact this
   ·simp only[PFrame.put,if_neg e];have:=hg (2*t);simp only[W1,Env.push,Nat.mul_mod_right,if_true]at this;rw[show 2*t / 2=t by omega]at this;rw[ha,put_at e];exact this
end
def jac(P:Program)(prs:Nat->Prm)(fz:Nat->Nat->List (Nat×Ty)):Sy1:=λctx nid site o E G=>match fz ctx site with
 |[]=>z48 P (prs ctx) ctx nid site o E G
 |sl=>match zm9 G 1000 (Z3 G (zfm (sl.map λx=>E x.1))) []with
  |none=>none
  |some D=>match zf2 D with
   |false=>none
   |true=>match z48 P (prs ctx) ctx nid site o (jc9 D sl E G) (zzd D G)with
    |some q=>some (q.frz D G)
    |none=>none
theorem z8z{P:Program}{prs:Nat->Prm}{fz:Nat->Nat->List (Nat×Ty)}(hS:∀c,Vm P (prs c).S)(hzt:∀c,zdi P (prs c).zt)(hzt2:∀c,zdi P (prs c).zt2):∀ctx nid site o E G q,jac P prs fz ctx nid site o E G=some q->SOk P o E G q:=λctx nid site o E G q h=>by
 unfold jac at h;split at h
 ·exact z1b (hS _) (hzt _) (hzt2 _) _ _ _ _ _ _ _ h
 ·split at h<;>try (cases h;done)
  rename_i D hD;split at h<;>try (cases h;done)
  rename_i hn;split at h<;>cases h;rename_i q' hq';exact SOk.frz (zbs hn) (z1b (hS _) (hzt _) (hzt2 _) _ _ _ _ _ _ _ hq')
theorem flatI(l:List Int):l.flatMap (encC (.int .i64))=l.map I:=by
 induction l with
 |nil=>rfl
 |cons a l ih=>rw[wex,ih];rfl
theorem zz6(tid v:Nat)(l:List Int):qj ⟨v,some (.row tid (.int .i64) l)⟩=⟨v,some (.row tid 1 l.length (l.map I))⟩:=
 congrArg (λcs=>(⟨v,some (.row tid 1 l.length cs)⟩:zcb)) (flatI l)
def zqk(G:EG)(x:TS):Option (Nat×Nat×List Int):=match x with
 |.own id ver=>match Nat.beq (G id).ver ver with
  |true=>match (G id).b with
   |some (.row tid t l)=>match Nat.beq tid 3 with
    |true=>match Dyn.as ⟨.sl t,l⟩ (.sl (.int .i64))with
     |some l=>some (id,ver,l)
     |none=>none
    |false=>none
   |_=>none
  |false=>none
 |_=>none
theorem zml{G:EG}{x:TS}{r:Nat×Nat×List Int}(h:zqk G x=some r):x=.own r.1 r.2.1/\G r.1=⟨r.2.1,some (.row 3 (.int .i64) r.2.2)⟩:=by
 unfold zqk at h;split at h<;>try (cases h;done)
 rename_i id ver;split at h<;>try (cases h;done)
 rename_i hv;split at h<;>try (cases h;done)
 rename_i tid t l hb;split at h<;>try (cases h;done)
 rename_i ht;split at h<;>cases h;rename_i l' hl;have:=wai hl;injection this with e1 e2
 injection e1 with e1
 subst e1;have e2:=eq_of_heq e2;subst e2;refine⟨rfl,?_⟩;simp only;cases hG:G id with
 |mk v b=>
  rw[hG]at hv hb;simp only at hv hb;rw[qz hv,hb,qz ht]
def z55(l:List Int):BD :=.row 3 (.int .i64) l
noncomputable def jf6(o:Oper)(nid:Nat)(G:EG)(f:FuncId)(x:TS):Option SR:=match Nat.beq f 163 with
 |true=>match zqk G x with
  |some r=>some ⟨List Int,false,small7 r.2.2 (Zd r.2.2),λ_=> .c (.tuple #[]),λys=>[(r.1,⟨r.2.1,some (z55 ys)⟩)],[],[r.1]⟩
  |none=>none
 |false=>match Nat.beq f 164 with
  |true=>match zqk G x with
   |some r=>some ⟨List Int,false,small7 r.2.2 (Qj r.2.2),λ_=> .own r.1 (r.2.1+1),λys=>[(r.1,⟨r.2.1+1,some (z55 ys)⟩)],[],[r.1]⟩
   |none=>none
  |false=>match Nat.beq f 174 with
   |true=>match Vf o with
    |true=>match zpt x with
     |true=>match toT (.sl (.int .i64)) x with
      |some l=>some ⟨List Int,false,small7 l l,λ_=> .own nid ((G nid).ver+1),λys=>[(nid,⟨(G nid).ver+1,some (z55 ys)⟩)],[],[nid]⟩
      |none=>none
     |false=>match zqk G x with
      |some r=>match Nat.beq r.1 nid with
       |true=>none
       |false=>some ⟨List Int,false,small7 r.2.2 r.2.2,λ_=> .own nid ((G nid).ver+1),λys=>[(nid,⟨(G nid).ver+1,some (z55 ys)⟩)],[r.1],[nid]⟩
      |none=>none
    |false=>none
   |false=>none
def Zi{α:Type}(l:List α)(z:Int):Option (List α):=match decide (0<=z) && decide (z<=l.length)with
 |true=>some (l.take z.toNat)
 |false=>none
noncomputable def z23(es:Option Nat)(o:Oper)(G:EG)(x y:TS):Option SR:=match Vf o with
 |false=>none
 |true=>match x with
  |.own id ver=>match Nat.beq (G id).ver ver with
   |true=>match (G id).b with
    |some (.row tid t l)=>match oeq es (some (wid t))with
     |true=>vc (zeb y) λz=>some ⟨List t.D,false,Zi l z,λ_=> .own id (ver+1),λl'=>[(id,⟨ver+1,some (.row tid t l')⟩)],[],[id]⟩
     |false=>none
    |_=>none
   |false=>none
  |_=>none
noncomputable def z9g(ty:TypeId)(x i:TS):Option SR:=match x with
 |.v ⟨.arr n t,a⟩=>match arr Tryz.prog ty with
  |some (n',k)=>match ja8 Tryz.prog ty with
   |some e=>match asz Tryz.prog e with
    |some (ag,k')=>match Nat.beq n' n && Nat.beq k (wid t) && Nat.beq k' k && (ag ||Nat.beq k 1)with
     |true=>vc (zeb i) λz=>some (.dat t.D (atL a.l z) (λy=>zam ag [.v ⟨t,y⟩]) [])
     |false=>none
    |none=>none
   |none=>none
  |none=>none
 |_=>none
noncomputable def sLib(o:Oper)(nid:Nat)(E:EF)(G:EG):Option SR:=match o.op with
 |.index t x i=>z9g t (evE E x) (evE E i)
 |.slice t x none (some y) none=>z23 (esz Tryz.prog t) o G (evE E x) (evE E y)
 |.call ⟨.value (.func f),⟨[x]⟩,_⟩=>jf6 o nid G f (evE E x)
 |_=>none
section
variable{P:Program}{o:Oper}{E:EF}{G:EG}
theorem jah{ty:TypeId}{x i:Operand}{q:SR}(ho:o.op=.index ty x i)(h:z9g ty (evE E x) (evE E i)=some q):SOk Tryz.prog o E G q:=by
 have hx':x∈o.op.operands:=by rw[ho];simp[Op.operands]
 have hi':i∈o.op.operands:=by rw[ho];simp[Op.operands]
 unfold z9g at h;split at h<;>try (cases h;done)
 rename_i n t a hx;split at h<;>try (cases h;done)
 rename_i n' k har;split at h<;>try (cases h;done)
 rename_i e hae;split at h<;>try (cases h;done)
 rename_i ag k' hsz;split at h<;>try (cases h;done)
 rename_i hb;simp only[wd8]at hb;obtain⟨⟨⟨h1,h2⟩,h3⟩,h4⟩:=hb;have h1:=qz h1;have h2:=qz h2;have h3:=qz h3;subst h1;subst h2;subst h3;obtain⟨z,hz,h⟩:=jp h;cases h;obtain⟨kd,hkd⟩:=Yo hz;refine SOk.dat λy hy W F H hag=>?_;obtain⟨h0,hyz⟩:=zgk hy;obtain⟨rest,hr⟩:=zbh (encC t) (wid t) a.l (λx _=>ju t x) _ _ hyz;obtain⟨p,hp1,hp2⟩:=z5n (ag:=ag) (k:=wid t) (xs:=[.v ⟨t,y⟩]) (rest:=rest) (by simp only[js,TS.den,enc_cells,weq,ju]) (λe=>by rw[e]at h4;simp at h4;exact h4);refine PQ.ref (jh ?_) hp2;unfold jr;rw[ho];simp only;rw[hag.ev hx',hag.ev hi',hkd,hx];simp only[TS.den];have hlt:z.toNat<n':=by
  have:=(wd5.1 hyz).1;rw[a.h]at this;exact this
 have hd:js [.v ⟨t,y⟩]=encC t y:=by simp only[js,TS.den,enc_cells,weq]
 rw[hd,<- hr]at hp1;show zio Tryz.prog ty (.agg (a.l.flatMap (encC t))) (.u (.int kd z))=some p;unfold zio;simp only[har,hae];rw[if_pos ⟨h0,hlt⟩];unfold zvd;rw[hsz];exact hp1
theorem z6e{t:TypeId}{x y:Operand}{q:SR}(ho:o.op=.slice t x none (some y) none)(h:z23 (esz Tryz.prog t) o G (evE E x) (evE E y)=some q):SOk Tryz.prog o E G q:=by
 have hev:∀{F:PFrame}{z:Operand},z∈o.op.operands->(∀t,Operand.tmp t∈o.op.operands->F t=(E t).den)->evP F z=(evE E z).den:=λ{F z}hz hF=>(Agr.mk (rd:=[]) (G:=G) (H:=PHeap.empty) hF (λid h=>by cases h)).ev hz;unfold z23 at h;split at h<;>try (cases h;done)
 rename_i hds;obtain⟨d,hds⟩:=J0 hds;split at h<;>try (cases h;done)
 rename_i id ver hx;split at h<;>try (cases h;done)
 rename_i hv;have hv:=qz hv;split at h<;>try (cases h;done)
 rename_i tid ty l hb;split at h<;>try (cases h;done)
 rename_i hes;have hes:=zi4 hes;obtain⟨z,hz,h⟩:=jp h;cases h;obtain⟨kd,hkd⟩:=Yo hz;refine⟨λ_=>rfl,λl' hl W n F H hfl hd hF hH=>?_⟩;unfold Zi at hl;split at hl<;>cases hl;rename_i hb2;simp only[wd8,wed]at hb2;obtain⟨j,rfl⟩:∃j:Nat,z=j:=⟨z.toNat,by omega⟩
 have hj:j<=l.length:=by omega
 have hHid:=hH id (.inr (by simp));refine wdu (id:=2*id) (kd:=kd) (j:=j) ho hds (hd d hds) hes (by rw[hev (by rw[ho];simp[Op.operands]) hF,hx];simp only[TS.den]) (yd hHid hb rfl hv) (by rw[hev (by rw[ho];simp[Op.operands]) hF,hkd]) hj ⟨by simp only[TS.den],?_⟩;simp only[za8,wen,wfk,zw,qj,wer,BD.den,wem];have e1:(l.take j).length=j:=by rw[wfg];omega
 have e2:(l.flatMap (encC ty)).take (j*wid ty)=(l.take j).flatMap (encC ty):=by
  have e3:l.flatMap (encC ty)=(l.take j).flatMap (encC ty)++(l.drop j).flatMap (encC ty):=by rw[<- wf6,wfh]
  have e4:((l.take j).flatMap (encC ty)).length=j*wid ty:=by rw[Jy _ (wid ty) _ λx _=>ju ty x,e1]
  rw[e3,wg3 e4]
 rw[e1,e2]
theorem jde{nid:Nat}{q:SR}(h:sLib o nid E G=some q):SOk Tryz.prog o E G q:=by
 unfold sLib at h;split at h<;>try (cases h;done)
 ·rename_i ho;exact jah ho h
 ·rename_i ho;exact z6e ho h
 rename_i f x ts ho;have hx':x∈o.op.operands:=by rw[ho];simp[Op.operands,Call.operands]
 have hev:∀{F:PFrame},(∀t,Operand.tmp t∈o.op.operands->F t=(E t).den)->evP F x=(evE E x).den:=λ{F}hF=>(Agr.mk (rd:=[]) (G:=G) (H:=PHeap.empty) hF (λid h=>by cases h)).ev hx';have hrow:∀{H:PHeap}{r:Nat×Nat×List Int},G r.1=⟨r.2.1,some (.row 3 (.int .i64) r.2.2)⟩->H (2*r.1)=qj (G r.1)->H (2*r.1)=⟨r.2.1,some (.row 3 1 r.2.2.length (r.2.2.map I))⟩:=λ{H r}hG hH=>by
  rw[hH,hG];exact zz6 _ _ _
 have hset:∀{H:PHeap}{id v:Nat}{ys:List Int},H.set (2*id) ⟨v,some (.row 3 1 ys.length (ys.map I))⟩=zw H (za8 [(id,⟨v,some (z55 ys)⟩)]):=λ{H id v ys}=>by
  simp only[za8,wen,wfk,zw];exact congrArg (λb=>H.set (2*id) b) (zz6 _ _ _).symm
 unfold jf6 at h;split at h
 ·rename_i hf;have hf:=qz hf;subst hf;split at h<;>cases h;rename_i r hr;obtain⟨h1,h2⟩:=zml hr;refine⟨λ_=>rfl,λys hy W n F H hfl hd hF hH=>?_⟩;obtain⟨hl,rfl⟩:=zcw hy;have hlen:(Zd r.2.2).length=r.2.2.length:=List.length_mergeSort _;refine wch (d:=0) (back:=false) (id:=2*r.1) (ver:=r.2.1) (xs:=r.2.2) (ys:=Zd r.2.2) ho hd (by kernel_rfl) ?_ (hrow h2 (hH _ (.inr (by simp)))) (λv B w hv=>(jcb v r.2.2 B w hv hl).mono λe w'⟨h1,h2,h3⟩=>⟨_,v,h1,by rw[hlen];exact h2,h3,λg hg=>hg,by simp⟩) ?_
  ·rw[hev hF,h1];simp only[TS.den]
  ·simp only[we4,if_false];exact⟨by simp only[TS.den];rfl,hset⟩
 ·split at h
  ·rename_i hf;have hf:=qz hf;subst hf;split at h<;>cases h;rename_i r hr;obtain⟨h1,h2⟩:=zml hr;refine⟨λ_=>rfl,λys hy W n F H hfl hd hF hH=>?_⟩;obtain⟨hl,rfl⟩:=zcw hy;refine wch (d:=0) (back:=true) (id:=2*r.1) (ver:=r.2.1) (xs:=r.2.2) (ys:=Qj r.2.2) ho hd (by kernel_rfl) ?_ (hrow h2 (hH _ (.inr (by simp)))) (λv B w hv=>(z0c v r.2.2 B w hv hl).mono λe w'⟨v',h1,h2,h3,h4⟩=>⟨v',v',h1,h2,h3,h4,by simp⟩) ?_
   ·rw[hev hF,h1];simp only[TS.den]
   ·simp only[if_true];exact⟨by simp only[TS.den],hset⟩
  ·split at h<;>try (cases h;done)
   rename_i hf;have hf:=qz hf;subst hf;split at h<;>try (cases h;done)
   rename_i hds;obtain⟨d,hds⟩:=J0 hds;have key:∀{l:List Int}{rd:List Nat},(∀{W n F H},FlW W F H->jo n o->(∀t,Operand.tmp t∈o.op.operands->F t=(E t).den)->(∀id,id∈rd\/id∈[nid]->H (2*id)=qj (G id))->View H (evE E x).den (slI l))->SOk Tryz.prog o E G ⟨List Int,false,small7 l l,λ_=> .own nid ((G nid).ver+1),λys=>[(nid,⟨(G nid).ver+1,some (z55 ys)⟩)],rd,[nid]⟩:=λ{l rd}hv=>by
    refine⟨λ_=>rfl,λys hy W n F H hfl hd hF hH=>?_⟩;obtain⟨hl,hye⟩:=zcw hy;cases hye;have hnid:=hH nid (.inr (by simp));have hvw:=hv hfl hd hF hH;have htg:yr F ⟨.value (.func 174),#[x],ts⟩=some (174,[evP F x]):=by rw[Yg];rfl
    refine wb4 (id:=2*nid) hds (hd d hds) ho htg (by kernel_rfl) (qs:=[slI l]) ⟨rfl,λi p q h1 h2=>?_⟩ (zvb hl) λm us hR hl2=>?_
    ·cases i with
     |zero=>simp at h1 h2;subst h1 h2;rw[hev hF];exact hvw
     |succ i=>simp at h1
    ·obtain⟨rfl,rfl⟩:=hR;have e:(H (2*nid)).ver=(G nid).ver:=by rw[hnid];rfl
     refine⟨by simp only[TS.den,e],?_⟩;rw[e,<- hset];rw[wff];rfl
   split at h
   ·rename_i hni;split at h<;>cases h;rename_i l hl;refine key λ{W n F H}hfl hd hF hH=>?_;have:=(zaz _ _ _ hl).2;exact View.ref (View.noP (z4f _ hni)) this
   ·split at h<;>try (cases h;done)
    rename_i r hr;obtain⟨h1,h2⟩:=zml hr;split at h<;>cases h;refine key λ{W n F H}hfl hd hF hH=>?_;have hv:=(Qy (G:=zan [r.1] G) (H:=H) (λid hs=>by
     unfold zan at *;cases hm:zfy [r.1] id with
     |true=>
      have:=Qu.1 hm;simp only[wea]at this;subst this;exact hH _ (.inl (by simp))
     |false=>rw[hm]at hs;simp at hs) (.sl (.int .i64)) (evE E x) r.2.2 ?_).1
    ·exact hv
    ·rw[h1];simp only[z8,zan];have:zfy [r.1] r.1=true:=Qu.2 (by simp);simp only[this,h2,wg8,Dyn.as];rfl
end
noncomputable def z8o(prs:Nat->Prm)(fz:Nat->Nat->List (Nat×Ty)):Sy1:=λctx nid site o E G=>match sLib o nid E G with
 |some q=>some q
 |none=>jac Tryz.prog prs fz ctx nid site o E G
theorem z8c{prs:Nat->Prm}{fz:Nat->Nat->List (Nat×Ty)}(hS:∀c,Vm Tryz.prog (prs c).S)(hzt:∀c,zdi Tryz.prog (prs c).zt)(hzt2:∀c,zdi Tryz.prog (prs c).zt2):∀ctx nid site o E G q,z8o prs fz ctx nid site o E G=some q->SOk Tryz.prog o E G q:=λctx nid site o E G q h=>by
 unfold z8o at h;split at h
 ·rename_i q' hq;cases h;exact jde hq
 ·exact z8z hS hzt hzt2 _ _ _ _ _ _ _ h
section
variable{P:Program}{W:Env}{n:Nat}{F:PFrame}{H:PHeap}
theorem wdj{o:Oper}{c:Call}{ps qs:List PV}{f:FuncId}{t:TypeId}{kk d id:Nat}{xs:List PV}{k:PV->PHeap->Prop}(hd:o.dst=some d)(hdn:d<n)(ho:o.op=.call c)(ht:yr F c=some (f,ps))(hf:yx P f=true)(hv:ViewL H ps qs)(hn:∀p∈qs,NoF p)(hc:PCall P f qs (· =.fr t kk xs))(hs:∀p∈xs.flatMap PV.cells,Sc p)
  (hk:k (.ps id ((H id).ver+1)) (H.set id ⟨(H id).ver+1,some (.row t kk xs.length (xs.flatMap PV.cells))⟩)):PE P W n o F H k:=λV a w hr=>by
 obtain⟨vs,he,hR⟩:=Qz (P:=P) (W:=W) (H:=H) (V:=V) (a:=a) (w:=w) ho ht hf λx hx'=>Rp.eval (P:=P) x λt ht=>hr.slot t;have hsz:=hr.heap.below.size;have hR1:=hR.view hr.heap hv;have hR2:RpL ⟨W.Z.z,w.heap.size⟩ PHeap.empty V0 w qs vs:=⟨hR1.1,λi p v h1 h2=>(hR1.2 i p v h1 h2).noF (hn p (wd7 h1)) λb _ hz hz'=>hz (zi.2 (zi.1 hz'))⟩
 refine zc0 he ((hc ⟨W.Z.z,w.heap.size⟩ w vs (wbe hr.heap) (weh _) hR2).mono λe w'⟨v,p,h1,h2,hnp,h3,hb⟩=>⟨v,h1,?_⟩);subst h2;cases h3 with
 |fr _ _ _ _ vals hu ho2 hz h4 h5=>
  refine⟨_,_,yf V id v,hk,?_⟩;have hnew:∀g,qc v=some g->w.heap.size<=g:=λg hg=>(zel ho2 hg).1;have hown:w'.ownsRow W.w.heap.size t kk v xs.length vals:=⟨ho2.1,by
   rcases ho2.2 with h6|⟨g,cap,cur,e,hg,r⟩
   ·exact .inl h6
   ·exact .inr ⟨g,cap,cur,e,wfn hsz hg,r⟩⟩
  have hturn:=wa6 (b':=⟨(H id).ver+1,some (.row t kk xs.length (xs.flatMap PV.cells))⟩) (id:=id) (v0:=v) hr.heap hb rfl hnew;refine hr.turn hturn (λbd hbd=>?_) o.dst (λt ht=>by rw[hd]at ht;cases ht;exact hdn) ?_
  ·cases hbd;refine⟨vals,hown,⟨?_,λi p u hi hj=>?_⟩,h4⟩
   ·rw[flat_length xs hu,ho2.1]
   ·exact(h5 i p u hi hj).sc (hs p (wd7 hi))
  ·refine .ps _ _ _ ?_ λ_ _=>?_
   ·simp[PHeap.set]
   ·simp[yf]
theorem wcz{id ver k:Nat}{t:TypeId}{xs:List PV}(hl:qm H id ver=some (t,k,xs.length,xs.flatMap PV.cells))(hu:∀y∈xs,y.cells.length=k)(hn:∀c∈xs.flatMap PV.cells,NoP c):View H (.ps id ver) (.fr t k xs):=λP W V w hr v hv=>by
 obtain⟨hb,hve⟩:=vy hl;obtain⟨vals,ho,hR,h1⟩:=hr.row id _ _ _ _ hb;cases hv with
 |ps _ _ _ hvv hh=>
  have e:=hh (by rw[hb];rfl) hve;subst e;refine .fr t k xs _ vals hu (Y9 (w':=w) ho W.hm λ_ _ _=>rfl) (λb hb2 hz=>?_) h1 λi p u h3 h4=>(hR.2 i p u h3 h4).noP (hn p (wd7 h3)) λb _ hz hz'=>hz (.inl (zi.1 hz'));exact hr.nz id b (by rw[hb];rfl) hb2 (zi.1 hz)
end
def zp4(G:EG)(e:TypeId)(t:Ty)(s:TS):Option (List t.D):=match s with
 |.own id ver=>match Nat.beq (G id).ver ver with
  |true=>match (G id).b with
   |some (.row tid t' l)=>match Nat.beq tid e with
    |true=>Dyn.as ⟨.sl t',l⟩ (.sl t)
    |false=>none
   |_=>none
  |false=>none
 |.c v=>match jc7 v with
  |true=>some []
  |false=>none
 |_=>none
theorem z6v{G:EG}{e:TypeId}{t:Ty}{s:TS}{l:List t.D}{H:PHeap}(hG:∀id,(G id).b.isSome=true->H (2*id)=qj (G id))(h:zp4 G e t s=some l):View H s.den (.fr e (wid t) (l.map (enc t))):=by
 unfold zp4 at h;split at h<;>try (cases h;done)
 ·rename_i id ver;split at h<;>try (cases h;done)
  rename_i hv;have hv:=qz hv;split at h<;>try (cases h;done)
  rename_i tid t' l' hb;split at h<;>try (cases h;done)
  rename_i ht;have ht:=qz ht;subst ht;have:=wai h;injection this with e1 e2
  injection e1 with e1
  subst e1;have e2:=eq_of_heq e2;subst e2;simp only[TS.den];refine wcz (yd (hG id (by rw[hb];rfl)) hb (by simp only[BD.den,wey,Yu]) hv) (λy hy=>?_) λc hc=>?_
  ·obtain⟨z,_,rfl⟩:=wef.1 hy;rw[enc_cells,ju]
  ·rw[Yu]at hc;obtain⟨z,_,hz⟩:=wfe.1 hc;exact yi _ _ _ hz
 ·split at h<;>cases h;rename_i v hn;rw[z5f hn];simp only[TS.den,wfk];exact wb0
def funF(P:Program)(sy:SyT)(hint:Nat->Option HK)(n:Nat)(rs:List ResultVar)(c:Code)(ats:List Ty)(e:TypeId)(rt:Ty)(nn:Nat)(t:DL ats):Option (List rt.D):=
 qp sy nn hint 0 0 n c 1 0 (z73 (Je ats t)) EG.empty λex _ E G=>match ex with
  |.normal=>match zn4 P rs E G with
   |some s=>zp4 G e rt s
   |none=>none
  |.ret=>match zn4 P rs E G with
   |some s=>zp4 G e rt s
   |none=>none
  |_=>none
def zj0(P:Program)(f:FuncId)(ats:List Ty)(e:TypeId)(rt:Ty)(g:DL ats->Option (List rt.D)):Prop:=
 yx P f=true/\∀t r,g t=some r->PCall P f (pvs (Je ats t)) (· =.fr e (wid rt) (r.map (enc rt)))
theorem jc4{P:Program}{sy:SyT}(hsy:zpk P sy)(hm:P.follows .mixedOrders=true){hint:Nat->Option HK}{n:Nat}{rs:List ResultVar}{c:Code}{ats:List Ty}{ee:TypeId}{rt:Ty}{nn:Nat}{f:FuncId}{fn:Func}(hf:P.funcs[f]?=some fn)(hb:fn.body=some c)(hn:fn.ntmps=n)(hr:fn.results.toList=rs)(hl:Nat.ble ats.length n=true)(hg:yx P f=true):zj0 P f ats ee rt (funF P sy hint n rs c ats ee rt nn):=by
 subst hn;subst hr;refine⟨hg,λt r h=>?_⟩;have hl':(pvs (Je ats t)).length<=fn.ntmps:=by unfold pvs;rw[wey,zrv];exact wf1 hl
 refine wbt hf hb hl' λW hW=>?_;have hR:RestOk 0 PHeap.empty:=λi bd h=>by simp[PHeap.empty]at h
 have hGh:GhOk 0 W:=λi=>by rw[hW];exact .unk
 obtain⟨e,nx,E',G',h3,_,ho⟩:=ze (P:=P) (fuel:=nn) (hint:=hint) (ctx:=0) (n:=fn.ntmps) (b:=0) hm hsy c 1 0 (z73 (Je ats t)) EG.empty _ r h;have this:=ho W PHeap.empty hGh hR;rw[zug]at this;rw[zq2];refine PC.mono this λe2 F' H'⟨h0,h1,h2⟩=>?_;subst h0;subst h1;subst h2;have key:∀{o:Option TS},o=zn4 P fn.results.toList E' G'->(match o with
   |some s=>zp4 G' ee rt s
   |none=>none)=some r->∃q p,Qi P fn (zj E') (qf G' PHeap.empty)=some q/\View (qf G' PHeap.empty) q p/\NoP p/\p=.fr ee (wid rt) (r.map (enc rt)):=λ{o}ho h=>by
  cases o with
  |none=>cases h
  |some s=>
   simp only at h;obtain⟨q,hq,hrq⟩:=zya (R:=PHeap.empty) ho.symm;have hv:=z6v (H:=qf G' PHeap.empty) (λid _=>qe G' PHeap.empty id) h;exact⟨q,_,hq,λP W V w hw v hv'=>hv P W V w hw v (hrq _ _ _ _ _ hv'),.fr _ _ _ λc hc=>by obtain⟨z,_,rfl⟩:=wef.1 hc;exact Q7 _ _,rfl⟩
 cases e2 with
 |normal=>exact⟨.inl rfl,key rfl h3⟩
 |ret=>exact⟨.inr rfl,key rfl h3⟩
 |_=>cases h3
theorem zv6{t:Ty}{cs:List PV}(h:∀c∈cs,NoF c)(hn:Qr t=false->cs≠[]):NoF (mkV t cs):=by
 unfold mkV;cases ha:Qr t with
 |true=>exact .agg _ h
 |false=>
  match cs,hn ha with
  |c::r,_=>exact h c (by simp)
theorem zag:∀(t:Ty)(x:t.D),∀c∈encC t x,NoF c
 |.int _,_,c,h=>by simp only[encC,wea]at h;subst h;exact .u _
 |.bool,_,c,h=>by simp only[encC,wea]at h;subst h;exact .u _
 |.str,_,c,h=>by simp only[encC,wea]at h;subst h;exact .u _
 |.sl t,l,c,h=>by
  simp only[encC,wea]at h;subst h;refine .sl _ _ λc hc=>?_;obtain⟨x,_,rfl⟩:=wef.1 hc;exact zv6 (zag t x) (zpd x)
 |.ref t,o,c,h=>by
  simp only[encC,wea]at h;subst h;cases o with
  |none=>exact .u _
  |some x=>exact .rp _ (zag t x)
 |.arr n t,v,c,h=>by
  simp only[encC]at h;obtain⟨x,_,hx⟩:=wfe.1 h;exact zag t x c hx
 |.nil,_,c,h=>by simp[encC]at h
 |.cons a r,x,c,h=>by
  simp only[encC,wej]at h;rcases h with h|h
  ·exact zag a _ c h
  ·exact zag r _ c h
 |.st r,x,c,h=>by simp only[encC]at h;exact zag r _ c h
 |.tup r,x,c,h=>by
  simp only[encC,wea]at h;subst h;exact .tup _ (zix r _ (ju r x) (zag r x) λh1 h2=>zv6 h1 h2)
theorem jd4(t:Ty)(x:t.D):NoF (enc t x):=zv6 (zag t x) (zpd x)
structure FF where
 ats:List Ty
 e:TypeId
 rt:Ty
 g:DL ats->Option (List rt.D)
def zcg(P:Program)(T:FuncId->Option FF):Prop:=∀f x,T f=some x->zj0 P f x.ats x.e x.rt x.g
def z2h(T:FuncId->Option FF)(o:Oper)(nid:Nat)(E:EF)(G:EG)(c:Call):Option SR:=match Vf o with
 |false=>none
 |true=>match zxc E c with
  |none=>none
  |some (f,az)=>match T f with
   |none=>none
   |some x=>match scT x.rt with
    |false=>none
    |true=>match zm9 G 1000 (Z3 G (zfm az)) []with
     |none=>none
     |some D=>match rdV (zan D G) x.ats az with
      |some t=>some ⟨List x.rt.D,false,x.g t,λ_=> .own nid ((G nid).ver+1),λl=>[(nid,⟨(G nid).ver+1,some (.row x.e x.rt l)⟩)],D,[nid]⟩
      |none=>none
theorem z6c{P:Program}{T:FuncId->Option FF}(hT:zcg P T){o:Oper}{nid:Nat}{E:EF}{G:EG}{c:Call}{q:SR}(ho:o.op=.call c)(h:z2h T o nid E G c=some q):SOk P o E G q:=by
 unfold z2h at h;split at h<;>try (cases h;done)
 rename_i hds;obtain⟨d,hds⟩:=J0 hds;split at h<;>try (cases h;done)
 rename_i f az ht;split at h<;>try (cases h;done)
 rename_i x hx;split at h<;>try (cases h;done)
 rename_i hsc;split at h<;>try (cases h;done)
 rename_i D hD;split at h<;>cases h;rename_i t hrd;obtain⟨hg,hc⟩:=hT f x hx;refine⟨λ_=>rfl,λr hr W n F H hfl hd hF hH=>?_⟩;have hv:=z10 (H:=H) (λid hs=>by
  unfold zan at *;cases hm:zfy D id with
  |true=>exact hH id (.inl (Qu.1 hm))
  |false=>rw[hm]at hs;simp at hs) hrd
 have hag:Agr o E G D F H:=⟨hF,λid hid=>hH id (.inl hid)⟩
 have hnid:=hH nid (.inr (by simp));have e:(H (2*nid)).ver=(G nid).ver:=by rw[hnid];rfl
 refine wdj (id:=2*nid) hds (hd d hds) ho (zk2 ho hag ht) hg hv (λp hp=>?_) (hc t r hr) (λp hp=>?_) ⟨by simp only[TS.den,e],?_⟩
 ·unfold pvs at hp;obtain⟨y,_,rfl⟩:=wef.1 hp;exact jd4 _ _
 ·rw[Yu]at hp;obtain⟨z,_,hz⟩:=wfe.1 hp;exact zfe _ _ hsc p hz
 ·simp only[za8,wen,wfk,zw,qj,wer,BD.den,e,Yu,wey]
noncomputable def z9h(prs:Nat->Prm)(fz:Nat->Nat->List (Nat×Ty))(fr:Nat->Nat->Bool)(T:FuncId->Option FF):Sy1:=λctx nid site o E G=>match fr ctx site with
 |true=>match o.op with
  |.call c=>z2h T o nid E G c
  |_=>none
 |false=>z8o prs fz ctx nid site o E G
theorem z8l{prs:Nat->Prm}{fz:Nat->Nat->List (Nat×Ty)}{fr:Nat->Nat->Bool}{T:FuncId->Option FF}(hT:zcg Tryz.prog T)(hS:∀c,Vm Tryz.prog (prs c).S)(hzt:∀c,zdi Tryz.prog (prs c).zt)(hzt2:∀c,zdi Tryz.prog (prs c).zt2):∀ctx nid site o E G q,z9h prs fz fr T ctx nid site o E G=some q->SOk Tryz.prog o E G q:=λctx nid site o E G q h=>by
 unfold z9h at h;split at h
 ·split at h<;>try (cases h;done)
  rename_i c ho;exact z6c hT ho h
 ·exact z8c hS hzt hzt2 _ _ _ _ _ _ _ h
def plT:Ty->Bool
 |.int _=>true
 |.bool=>true
 |.str=>true
 |.arr _ t=>plT t
 |.nil=>true
 |.cons a r=>plT a && plT r
 |.st r=>plT r
 |_=>false
theorem zsa:∀(t:Ty)(x:t.D),plT t=true->∀c∈encC t x,c=.u (uV c)
 |.int k,x,h,c,hc=>by simp only[encC,wea]at hc;subst hc;rfl
 |.bool,x,h,c,hc=>by simp only[encC,wea]at hc;subst hc;rfl
 |.str,x,h,c,hc=>by simp only[encC,wea]at hc;subst hc;rfl
 |.sl _,x,h,c,hc=>by simp[plT]at h
 |.ref _,x,h,c,hc=>by simp[plT]at h
 |.arr n t,x,h,c,hc=>by
  simp only[plT]at h;simp only[encC]at hc;obtain⟨y,_,hy⟩:=wfe.1 hc;exact zsa t y h c hy
 |.nil,x,h,c,hc=>by simp[encC]at hc
 |.cons a r,x,h,c,hc=>by
  simp only[plT,wd8]at h;simp only[encC,wej]at hc;rcases hc with hc|hc
  ·exact zsa a x.1 h.1 c hc
  ·exact zsa r x.2 h.2 c hc
 |.st r,x,h,c,hc=>by
  simp only[plT]at h;simp only[encC]at hc;exact zsa r x h c hc
 |.tup _,x,h,c,hc=>by simp[plT]at h
theorem z2o(t:Ty)(x:t.D)(h:plT t=true):enc t x=ofV (oV t x):=by
 have hu:=zsa t x h;unfold enc mkV oV;cases ha:Qr t with
 |true=>
  simp only[ofV,oVs,wff];congr 1;refine(whb (by simp) λi h1 h2=>?_);simp only[List.getElem_map,Function.comp];exact hu _ (wec h1)
 |false=>
  simp only;have hl:=ju t x;rw[zcm ha]at hl
  match hc:encC t x,hl with
  |[c],_=>
   have:=hu c (by rw[hc];simp);simp only[List.headD_cons,oVs,hc,wen,wfk];cases t<;>first
    |(simp only[encC,List.cons.injEq,and_true]at hc;subst hc;rfl)
    |(simp[plT]at h;done)
    |(simp[Qr]at ha;done)
theorem rp_ofV{Z:ZM}{H:PHeap}{V:Nat->Value}{w:World}{u v:Value}(h:Rp Z H V w (ofV u) v):v=u:=by
 cases u with
 |agg vs=>
  simp only[ofV]at h;cases h with
  |agg _ us hl hc=>
   congr 1;simp only[wey,Array.length_toList]at hl;refine Array.ext (by omega) λi h1 h2=>?_;have:=hc i (.u vs[i]) us[i] (by simp[h2]) (wet h1);generalize us[i]=y at this;generalize vs[i]=z at this;cases this;rfl
 |_=>simp only[ofV]at h;cases h;rfl
theorem zy3{t:Ty}{x:t.D}{Z:ZM}{H:PHeap}{V:Nat->Value}{w:World}{v:Value}(h:plT t=true)(hv:Rp Z H V w (enc t x) v):v=oV t x:=by
 rw[z2o t x h]at hv;exact rp_ofV hv
def Yj{α β:Type}(eqb:α->α->Bool):List (α×β×Unit)->α->Option β
 |[],_=>none
 |e::r,k=>match eqb k e.1 with
  |true=>some e.2.1
  |false=>Yj eqb r k
def zco{α β:Type}(eqb:α->α->Bool):List (α×β×Unit)->α->β->List (α×β×Unit)
 |[],k,v=>[(k,v,())]
 |e::r,k,v=>match eqb k e.1 with
  |true=>(k,v,())::r
  |false=>e::zco eqb r k v
def gD{β:Type}(z:β):Option β->β
 |some x=>x
 |none=>z
def ent{α β:Type}(e:α×β×Unit):α×β:=(e.1,e.2.1)
theorem zsj{α β:Type}{eqb:α->α->Bool}{k:α}:∀(l:List (α×β))(i j:Nat),Yk eqb k l (i+j)=(Yk eqb k l i).map λr=>(r.1+j,r.2)
 |[],i,j=>rfl
 |e::es,i,j=>by
  unfold Yk;cases eqb k e.1
  ·simp only[we4,if_false];rw[show i+j+1=i+1+j by omega];exact zsj es (i+1) j
  ·simp
theorem zqr{α β:Type}{eqb:α->α->Bool}{k:α}:∀(l:List (α×β×Unit)),Yj eqb l k=zxi eqb (l.map ent) k
 |[]=>rfl
 |e::es=>by
  unfold zxi Yj;simp only[wen,Yk,ent];cases eqb k e.1
  ·simp only[we4,if_false];rw[zsj _ 0 1,Option.map_map,zqr es];rfl
  ·rfl
theorem zzw{α β:Type}{eqb:α->α->Bool}{k:α}{v:β}:∀(l:List (α×β×Unit)),(zco eqb l k v).map ent=jeh eqb (l.map ent) k v
 |[]=>rfl
 |e::es=>by
  have ih:=zzw (eqb:=eqb) (k:=k) (v:=v) es;unfold jeh at ih⊢;unfold zco;simp only[wen,Yk,ent];cases eqb k e.1
  ·simp only[we4,if_false,wen];rw[zsj _ 0 1,ih];cases Yk eqb k (es.map ent) 0 with
   |none=>rfl
   |some r=>simp[ent]
  ·rfl
structure KY where
 kt:Ty
 eqb:kt.D->kt.D->Bool
def z8p(P:Program)(ky:TypeId->Option KY):Prop:=∀k x,ky k=some x->plT x.kt=true/\zkd P k (oV x.kt) x.eqb
def zus(P:Program)(t:TypeId):Option (TypeId×TypeId):=match P.underlying t with
 |some (.map k e)=>some (k,e)
 |_=>none
theorem zrb{P:Program}{t:TypeId}{r:TypeId×TypeId}(h:zus P t=some r):P.underlying t=some (.map r.1 r.2):=by
 unfold zus at h;split at h<;>cases h
 assumption
def zvB(P:Program)(e:TypeId)(d:Dyn):Bool:=match (P.info? e).bind (·.zero)with
 |some z=>plT d.t && zyB z d
 |none=>false
theorem z8w{P:Program}{e:TypeId}{d:Dyn}(h:zvB P e d=true):plT d.t=true/\∀w,(zeroValue e).run P w=.ok (oV d.t d.x) w:=by
 unfold zvB at h;split at h
 ·rename_i z hz;simp only[wd8]at h;obtain⟨i,hi,hiz⟩:=wgf.1 hz;refine⟨h.1,λw=>?_⟩;obtain⟨hr,_⟩:=z9y h.2;have:z=oV d.t d.x:=zy3 (Z:=⟨λ_=>False,0⟩) (H:=PHeap.empty) (V:=V0) (w:=w) h.1 (hr _ _ _ _ _ (.u z));unfold zeroValue;rw[Sem.run_bind,run_typeInfo w hi];simp only[Result.andThen_ok,hiz];rw[<- this];rfl
 ·cases h
def jbu(G:EG)(kt vt:Ty)(x:TS):Option (Nat×Nat×List (kt.D×vt.D×Unit)):=match x with
 |.own id ver=>match Nat.beq (G id).ver ver with
  |true=>match (G id).b with
   |some (.obj k y)=>match k.eqB (.mp kt vt)with
    |true=>match Dyn.as ⟨k.ty,y⟩ (.sl (.st (.cons kt (.cons vt .nil))))with
     |some l=>some (id,ver,l)
     |none=>none
    |false=>none
   |_=>none
  |false=>none
 |_=>none
theorem zxp{G:EG}{kt vt:Ty}{x:TS}{r:Nat×Nat×List (kt.D×vt.D×Unit)}(h:jbu G kt vt x=some r):x=.own r.1 r.2.1/\G r.1=⟨r.2.1,some (.obj (.mp kt vt) r.2.2)⟩:=by
 unfold jbu at h;split at h<;>try (cases h;done)
 rename_i id ver;split at h<;>try (cases h;done)
 rename_i hv;split at h<;>try (cases h;done)
 rename_i k y hb;split at h<;>try (cases h;done)
 rename_i hk;have:=wcd hk;subst this;split at h<;>cases h;rename_i l hl;have:=wai hl;injection this with e1 e2
 subst e2;refine⟨rfl,?_⟩;cases hG:G id with
 |mk v b=>
  rw[hG]at hv hb;simp only at hv hb;rw[qz hv,hb]
def sMp(P:Program)(ky:TypeId->Option KY)(zy:ZY)(o:Oper)(nid:Nat)(E:EF)(G:EG):Option SR:=match o.op with
 |.makeMap t none=>match zus P t with
  |none=>none
  |some ke=>match ky ke.1 with
   |none=>none
   |some x=>match zy ke.2 with
    |none=>none
    |some d=>match Vf o with
     |true=>some ⟨Unit,true,some (),λ_=> .own nid (nv G nid),λ_=>[(nid,⟨nv G nid,some (.obj (.mp x.kt d.t) [])⟩)],[],[nid]⟩
     |false=>none
 |.lookup t x y ok=>match zus P t with
  |none=>none
  |some ke=>match ky ke.1 with
   |none=>none
   |some q=>match zy ke.2 with
    |none=>none
    |some d=>match zvB P ke.2 d with
     |false=>none
     |true=>match jbu G q.kt d.t (evE E x)with
      |none=>none
      |some m=>match toT q.kt (evE E y)with
       |none=>none
       |some k=>match ok with
        |false=>some (.dat (Option d.t.D) (some (Yj q.eqb m.2.2 k)) (λg=> .v ⟨d.t,gD d.x g⟩) [m.1])
        |true=>some (.dat (Option d.t.D) (some (Yj q.eqb m.2.2 k)) (λg=> .tup [.v ⟨d.t,gD d.x g⟩,.v ⟨.bool,g.isSome⟩]) [m.1])
 |.mapUpdate t x y z=>match zus P t with
  |none=>none
  |some ke=>match ky ke.1 with
   |none=>none
   |some q=>match zy ke.2 with
    |none=>none
    |some d=>match zvB P ke.2 d with
     |false=>none
     |true=>match jbu G q.kt d.t (evE E x)with
      |none=>none
      |some m=>match toT q.kt (evE E y)with
       |none=>none
       |some k=>match toT d.t (evE E z)with
        |none=>none
        |some v=>some ⟨List (q.kt.D×d.t.D×Unit),false,some (zco q.eqb m.2.2 k v),λ_=>UND,λl=>[(m.1,⟨m.2.1,some (.obj (.mp q.kt d.t) l)⟩)],[],[m.1]⟩
 |.call ⟨.builtin .len,⟨[x]⟩,⟨[t]⟩⟩=>match zus P t with
  |none=>none
  |some ke=>match ky ke.1 with
   |none=>none
   |some q=>match zy ke.2 with
    |none=>none
    |some d=>match jbu G q.kt d.t (evE E x)with
     |none=>none
     |some m=>some (.dat Int (some (m.2.2.length:Int)) (λz=> .v ⟨.int .i64,z⟩) [m.1])
 |_=>none
section
variable{P:Program}{o:Oper}{E:EF}{G:EG}{H:PHeap}{F:PFrame}{W:Env}{n:Nat}
theorem jck{kt vt:Ty}{id ver:Nat}{l:List (kt.D×vt.D×Unit)}(hG:G id=⟨ver,some (.obj (.mp kt vt) l)⟩)(hH:H (2*id)=qj (G id)){V:Nat->Value}{w:World}(hr:HRel P W H V w){v:Value}(hv:Rp W.Z H V w (.ps (2*id) ver) v):
  ∃g arr clock,v=.map (some g)/\V (2*id)=.map (some g)/\W.w.heap.size<=g/\w.heap[g]?=some (.map arr clock)/\arr.toList.map (λe=>(e.key,e.val))=(l.map ent).map λe=>(oV kt e.1,oV vt e.2):=by
 have hb:H (2*id)=⟨ver,some (z6h (l.map λe=>(oV kt e.1,oV vt e.2.1)))⟩:=by rw[hH,hG];rfl
 obtain⟨g,o,vs,e,hg,hh,⟨arr,clock,rfl,he⟩,_⟩:=hr.map (2*id) false [] _ (by rw[hb];rfl);cases hv with
 |ps _ _ _ hvv hq=>
  have:=hq (by rw[hb];rfl) (by rw[hb]);exact⟨g,arr,clock,by rw[this,e];rfl,e,hg,hh,by rw[he,wff];rfl⟩
theorem zyf{t:Ty}{s:TS}{x:t.D}(h:toT t s=some x)(hp:plT t=true){Z:ZM}{V:Nat->Value}{w:World}{v:Value}(hv:Rp Z H V w s.den v):v=oV t x:=zy3 hp ((zaz t s x h).2 _ _ _ _ _ hv)
theorem sMp_ok{ky:TypeId->Option KY}(hky:z8p P ky){zy:ZY}{nid:Nat}{q:SR}(h:sMp P ky zy o nid E G=some q):SOk P o E G q:=by
 unfold sMp at h;split at h<;>try (cases h;done)
 ·-- made
  rename_i t ho;split at h<;>try (cases h;done)
  split at h<;>try (cases h;done)
  split at h<;>try (cases h;done)
  split at h<;>cases h;rename_i ke hke x hx d hd hds;obtain⟨dd,hdd⟩:=J0 hds;refine⟨λ_=>rfl,λ_ _ W n F H hfl hdo hF hH V a w hr=>?_⟩;have hex:(execOp a.eval o).run P w=.ok (.value (.map (some w.heap.size))) (w.alloc (.map #[] 0)):=by
   simp only[execOp,ho];rfl
  have hHn:=hH nid (.inr (by simp));have hver:(H (2*nid)).ver+1=nv G nid:=by rw[hHn];rfl
  refine yh hex ⟨.ps (2*nid) (nv G nid),H.set (2*nid) ⟨(H (2*nid)).ver+1,some (z6h [])⟩,yf V (2*nid) (.map (some w.heap.size)),⟨by simp only[TS.den],?_⟩,?_⟩
  ·rw[hver];rfl
  ·have hb:Below w.heap.size w (w.alloc (.map #[] 0)):=(Below.refl _ _).alloc (weh _) _;refine hr.turn (wa6 hr.heap hb rfl λg hg=>by cases hg;exact weh _) (λbd hbd=>?_) o.dst (λt ht=>by exact hdo t ht) ?_
   ·cases hbd;exact⟨w.heap.size,_,[],rfl,hr.heap.below.size,heap_alloc_new w _,⟨#[],0,rfl,rfl⟩,rfl,λi p v h=>by simp at h⟩
   ·refine .ps _ _ _ ?_ λ_ _=>?_
    ·simp[PHeap.set,hver]
    ·simp[yf]
 ·-- looked up
  rename_i t x y ok ho;split at h<;>try (cases h;done)
  rename_i ke hke;split at h<;>try (cases h;done)
  rename_i kq hq;split at h<;>try (cases h;done)
  rename_i d hd;split at h<;>try (cases h;done)
  rename_i hz;split at h<;>try (cases h;done)
  rename_i m hm;split at h<;>try (cases h;done)
  rename_i k hk;obtain⟨hpk,hK⟩:=hky _ _ hq;obtain⟨hpv,hz⟩:=z8w hz;have ht:=zrb hke;obtain⟨e1,e2⟩:=zxp hm;have hx':x∈o.op.operands:=by rw[ho];simp[Op.operands]
  have hy':y∈o.op.operands:=by rw[ho];simp[Op.operands]
  have main:∀{W F H},Agr o E G [m.1] F H->∀(V:Nat->Value)(a:Act)(w:World),HRel P W H V w->(∀x∈o.op.operands,Rp W.Z H V w (evP F x) (a.eval x))->(execOp a.eval o).run P w=.ok (.value (if ok then .tuple #[oV d.t ((zxi kq.eqb (m.2.2.map ent) k).getD d.x),.bool (zxi kq.eqb (m.2.2.map ent) k).isSome]else oV d.t ((zxi kq.eqb (m.2.2.map ent) k).getD d.x))) w:=λ{W F H}hag V a w hw hh=>by
   have hxv:=hh x hx';have hyv:=hh y hy';rw[hag.ev hx',e1]at hxv;rw[hag.ev hy']at hyv;simp only[TS.den]at hxv;obtain⟨g,arr,clock,hv,hV,hg,hb,he⟩:=jck e2 (hag.h m.1 (by simp)) hw hxv;have hkv:=zyf hk hpk hyv;have h1:=zx5 hK ht hz k hb he ok;simp only[execOp,ho,hv,hkv,Sem.run_bind,h1,Result.andThen_ok];rfl
  have hgd:∀(g:Option d.t.D),gD d.x g=g.getD d.x:=λg=>by cases g<;>rfl
  cases ok with
  |false=>
   cases h;refine SOk.dat λg hg W F H hag=>wae λV a w hw hh=>⟨_,main hag V a w hw hh,?_⟩
   cases hg;simp only[TS.den,we4,if_false];rw[zqr,hgd,z2o _ _ hpv];exact Rp.ofV _ _ _ _ _
  |true=>
   cases h;refine SOk.dat λg hg W F H hag=>wae λV a w hw hh=>⟨_,main hag V a w hw hh,?_⟩
   cases hg;simp only[TS.den,yk,if_true];rw[zqr,hgd];refine .tup _ _ rfl λi p v h1 h2=>?_
   match i,h1,h2 with
   |0,h1,h2=>cases h1;cases h2;rw[z2o _ _ hpv];exact Rp.ofV _ _ _ _ _
   |1,h1,h2=>cases h1;cases h2;exact .u _
 ·-- written
  rename_i t x y z ho;split at h<;>try (cases h;done)
  rename_i ke hke;split at h<;>try (cases h;done)
  rename_i kq hq;split at h<;>try (cases h;done)
  rename_i d hd;split at h<;>try (cases h;done)
  rename_i hz;split at h<;>try (cases h;done)
  rename_i m hm;split at h<;>try (cases h;done)
  rename_i k hk;split at h<;>cases h;rename_i v hv;obtain⟨hpk,hK⟩:=hky _ _ hq;obtain⟨hpv,hz⟩:=z8w hz;have ht:=zrb hke;obtain⟨e1,e2⟩:=zxp hm;have hx':x∈o.op.operands:=by rw[ho];simp[Op.operands]
  have hy':y∈o.op.operands:=by rw[ho];simp[Op.operands]
  have hz':z∈o.op.operands:=by rw[ho];simp[Op.operands]
  refine⟨λ_=>rfl,λl' hl W n F H hfl hdo hF hH V a w hr=>?_⟩;cases hl;have hag:Agr o E G [m.1] F H:=⟨hF,λid hid=>hH id (.inr (by simpa using hid))⟩
  have ev:∀(x:Operand),Rp W.Z H V w (evP F x) (a.eval x):=λx=>Rp.eval (P:=P) x λt _=>hr.slot t;have hxv:=ev x;have hyv:=ev y;have hzv:=ev z;rw[hag.ev hx',e1]at hxv;rw[hag.ev hy']at hyv;rw[hag.ev hz']at hzv;simp only[TS.den]at hxv;have hHm:=hag.h m.1 (by simp);obtain⟨gb,arr,clock,hvx,hV,hgb,hb,he⟩:=jck e2 hHm hr.heap hxv;have hkv:=zyf hk hpk hyv;have hvv:=zyf hv hpv hzv;obtain⟨arr',clock',hrun,he'⟩:=zod (vv:=oV d.t) hK ht k v hb he;have hlt:=(wew.1 hb).1;have hother:∀b,b≠gb->(w.heap.setIfInBounds gb (.map arr' clock'))[b]?=w.heap[b]?:=λb hne=>by simp[Ne.symm hne]
  have hHb:H (2*m.1)=⟨m.2.1,some (z6h (m.2.2.map λe=>(oV kq.kt e.1,oV d.t e.2.1)))⟩:=by rw[hHm,e2];rfl
  have hl:(H (2*m.1)).body.isSome=true:=by rw[hHb];rfl
  have hturn:Turn W H V w (2*m.1) ⟨m.2.1,some (z6h ((zco kq.eqb m.2.2 k v).map λe=>(oV kq.kt e.1,oV d.t e.2.1)))⟩ (V (2*m.1)) { w with heap:=w.heap.setIfInBounds gb (.map arr' clock') }:=
   ⟨hr.heap.below.trans ⟨rfl,rfl,rfl,by simp,λb hb=>hother b (by omega)⟩,by simp,λb hb hn=>hother b λe=>hn ⟨hl,by rw[e,hV];rfl⟩,λg' hg'=> .inr ⟨hl,hg'⟩,.inr ⟨by rw[hHb],rfl,hl⟩⟩
  have hex:(execOp a.eval o).run P w=.ok .skip { w with heap:=w.heap.setIfInBounds gb (.map arr' clock') }:=by
   simp only[execOp,ho,hvx,hkv,hvv,Sem.run_bind,hrun,Result.andThen_ok];rfl
  unfold Oper.wp;rw[hex];refine⟨.u undef,_,yf V (2*m.1) (V (2*m.1)),⟨und_den.symm,rfl⟩,hr.turn hturn (λbd hbd=>?_) o.dst hdo (.u _)⟩;cases hbd;refine⟨gb,.map arr' clock',[],hV,hgb,by simp[hlt],⟨arr',clock',rfl,?_⟩,rfl,λi p v h=>by simp at h⟩;rw[he',<- zzw,wff];rfl
 ·-- counted
  rename_i x t ho;split at h<;>try (cases h;done)
  rename_i ke hke;split at h<;>try (cases h;done)
  rename_i kq hq;split at h<;>try (cases h;done)
  rename_i d hd;split at h<;>cases h;rename_i m hm;have ht:=zrb hke;obtain⟨e1,e2⟩:=zxp hm;have hx':x∈o.op.operands:=by rw[ho];simp[Op.operands,Call.operands]
  refine SOk.dat λg hg W F H hag=>wae λV a w hw hh=>?_;cases hg;have hxv:=hh x hx';rw[hag.ev hx',e1]at hxv;simp only[TS.den]at hxv;obtain⟨gb,arr,clock,hv,hV,hgb,hb,he⟩:=jck e2 (hag.h m.1 (by simp)) hw hxv;refine⟨.int .i64 m.2.2.length,?_,by simp only[TS.den];exact .u _⟩;have hlen:arr.size=m.2.2.length:=by have:=congrArg List.length he;simpa using this
  have:(Builtin.len_ #[t] o.type #[.map (some gb)]).run P w=.ok (goInt m.2.2.length) w:=by
   simp[Builtin.len_,run_underlying ht,MapKept.run_getObj_map hb,hlen]
  simp only[execOp,ho,resolve,invoke,builtin,Sem.run_bind,Sem.run_pure,Result.andThen_ok,wg0,wen,wfk,hv,this];rfl
end
noncomputable def jaw(ky:TypeId->Option KY)(prs:Nat->Prm)(fz:Nat->Nat->List (Nat×Ty))(fr:Nat->Nat->Bool)(T:FuncId->Option FF):Sy1:=λctx nid site o E G=>match sMp Tryz.prog ky (prs ctx).zy o nid E G with
 |some q=>some q
 |none=>z9h prs fz fr T ctx nid site o E G
theorem z9d{ky:TypeId->Option KY}(hky:z8p Tryz.prog ky){prs:Nat->Prm}{fz:Nat->Nat->List (Nat×Ty)}{fr:Nat->Nat->Bool}{T:FuncId->Option FF}(hT:zcg Tryz.prog T)(hS:∀c,Vm Tryz.prog (prs c).S)(hzt:∀c,zdi Tryz.prog (prs c).zt)(hzt2:∀c,zdi Tryz.prog (prs c).zt2):∀ctx nid site o E G q,jaw ky prs fz fr T ctx nid site o E G=some q->SOk Tryz.prog o E G q:=λctx nid site o E G q h=>by
 unfold jaw at h;split at h
 ·rename_i q' hq;cases h;exact sMp_ok hky hq
 ·exact z8l hT hS hzt hzt2 _ _ _ _ _ _ _ h
theorem baEq(a b:List UInt8):((⟨⟨a⟩⟩:ByteArray) == ⟨⟨b⟩⟩)=(a == b):=by
 show ByteArray.beq _ _=_;unfold ByteArray.beq;simp
theorem klawT{P:Program}{k:TypeId}(h:P.underlying k=some .string):zkd P k (oV .str) (λa b=>a == b) where
 chk:=λb x w=>by
  unfold Instr.checkKey;simp only[Sem.run_bind,run_underlying h,Result.andThen_ok];rfl
 und:=⟨_,h,λa b=> .inr (by
  show some ((⟨⟨a⟩⟩:ByteArray) == ⟨⟨b⟩⟩)=some (a == b);rw[baEq])⟩
 eq:=λa b w=>zaw h (by
  show some ((⟨⟨a⟩⟩:ByteArray) == ⟨⟨b⟩⟩)=some (a == b);rw[baEq]) w
 beq:=λa b h=>by simpa using h
 bits:=λa=>by
  show((⟨⟨a⟩⟩:ByteArray) == ⟨⟨a⟩⟩)=true;rw[baEq];simp
def jb3{α:Type}(l:List α)(z:Int):Option Nat:=match decide (0<=z) && decide (z<=l.length)with
 |true=>some z.toNat
 |false=>none
noncomputable def sSlF(es:Option Nat)(G:EG)(x y:TS):Option SR:=match x with
 |.own id ver=>match Nat.beq (G id).ver ver with
  |true=>match (G id).b with
   |some (.row _ t l)=>match oeq es (some (wid t))with
    |true=>vc (zeb y) λz=>some (.dat Nat (jb3 l z) (λj=> .q id (wid t) j ver) [id])
    |false=>none
   |_=>none
  |false=>none
 |_=>none
def jbl{α:Type}(a b:List α):Option (Int×List α):=some (((min a.length b.length:Nat):Int),b.take a.length++a.drop b.length)
noncomputable def sCpy(es:Option Nat)(G:EG)(x y:TS):Option SR:=match x with
 |.own id ver=>match Nat.beq (G id).ver ver with
  |true=>match (G id).b with
   |some (.row tid t l)=>match oeq es (some 1) && (Nat.beq (wid t) 1 && zct t)with
    |true=>match z9p t G y with
     |some r=>some ⟨Int×List t.D,false,jbl l r.1,λy=> .v ⟨.int .i64,y.1⟩,λy=>[(id,⟨ver,some (.row tid t y.2)⟩)],r.2,[id]⟩
     |none=>none
    |false=>none
   |_=>none
  |false=>none
 |_=>none
def b2s(l:List Int):Option (List UInt8):=some (l.map λn=>UInt8.ofNat n.toNat)
def jd0:TS->List Nat
 |.own id _=>[id]
 |_=>[]
noncomputable def sB2S(G:EG)(x:TS):Option SR:=match z8 (zan (jd0 x) G) (.sl (.int .u8)) x with
 |some l=>some (.dat (List UInt8) (b2s l) (λy=> .v ⟨.str,y⟩) (jd0 x))
 |none=>none
section
variable{P:Program}{W:Env}{n:Nat}{o:Oper}{E:EF}{F:PFrame}{H:PHeap}{G:EG}
theorem jez{t:TypeId}{x y:Operand}{q:SR}(ho:o.op=.slice t x (some y) none none)(h:sSlF (esz P t) G (evE E x) (evE E y)=some q):SOk P o E G q:=by
 have hx':x∈o.op.operands:=by rw[ho];simp[Op.operands]
 have hy':y∈o.op.operands:=by rw[ho];simp[Op.operands]
 unfold sSlF at h;split at h<;>try (cases h;done)
 rename_i id ver hx;split at h<;>try (cases h;done)
 rename_i hv;have hv:=qz hv;split at h<;>try (cases h;done)
 rename_i tid ty l hb;split at h<;>try (cases h;done)
 rename_i hes;have hes:=zi4 hes;obtain⟨z,hz,h⟩:=jp h;cases h;obtain⟨kd,hkd⟩:=Yo hz;refine SOk.dat λj hj W F H hag=>?_;unfold jb3 at hj;split at hj<;>cases hj;rename_i hb2;simp only[wd8,wed]at hb2;simp only[TS.den];refine wbs (id:=2*id) (kd:=kd) ho hes (by rw[hag.ev hx',hx];simp only[TS.den]) (e:=tid) (m:=l.length) (cs:=l.flatMap (encC ty)) ?_ (by rw[hag.ev hy',hkd]) hb2.1 (by omega);obtain⟨h1,h2⟩:=vy (yd (hag.h id (by simp)) hb rfl hv);cases hH:H (2*id)with
 |mk v b=>
  rw[hH]at h1 h2;simp only at h1 h2;rw[h1,h2]
theorem ztj(w:World)(dT sT ty elem:TypeId)(ad sa:Option Addr)(dLen dCap z3r sCap:Nat)(hu:P.underlying dT=some (.slice elem))(hs:((P.info? elem).map (·.size)).isSome=true)(h0:Nat.min z3r dLen=0):
  (Builtin.copy_ #[dT,sT] ty #[.slice ad dLen dCap,.slice sa z3r sCap]).run P w=.ok (goInt 0) w:=by
 cases hq:P.info? elem with
 |none=>simp[hq]at hs
 |some i=>
  cases sa<;>cases ad<;>simp[Builtin.copy_,run_underlying hu,Builtin.lenOf,Builtin.firstCells,sizeOf,typeInfo,hq,storeCells,h0,loadCells,loadCellsFrom]
theorem wdv{t t' e:TypeId}{x y:Operand}{id ver m m2:Nat}{cs cs2:List PV}{K:PV->PHeap->Prop}(ho:o.op=.call { callee :=.builtin .copy,args:=#[x,y],argTypes:=#[t,t'] })(hdo:jo n o)(hu:P.underlying t=some (.slice e))(hs:(P.info? e).map (·.size)=some 1)
  {te:TypeId}(hx:evP F x=.ps id ver) (hl:qm H id ver=some (te,1,m,cs)) (hy:zdj H 1 (evP F y)=some (m2,cs2)) (hc2:cs2.length=m2) (hcs:cs.length=m) (hleaf:∀p∈cs2,qh H p=true)
  (hk:K (.u (.int .i64 (min m m2:Nat))) (H.set id ⟨ver,some (.row te 1 m (cs2.take m++cs.drop m2))⟩)):PE P W n o F H K:=by
 obtain⟨hb,hve⟩:=vy hl;by_cases h0:Nat.min m2 m=0
 ·have hq:PQ P W o F H (.u (.int .i64 (min m m2:Nat))):=wae λV a w hr hh=>by
   obtain⟨vals,hown,hR,h1⟩:=hr.row id _ _ _ _ hb;have hxv:=hh x (by rw[ho];simp[Op.operands,Call.operands]);have hyv:=hh y (by rw[ho];simp[Op.operands,Call.operands]);rw[hx]at hxv;obtain⟨ad,c,hyv,_⟩:=zgl hr hyv hy;have exv:a.eval x=V id:=by
    generalize a.eval x=q at hxv;cases hxv with
    |ps _ _ _ hvv hh=>exact hh (by rw[hb];rfl) hve
   have hVs:∃ad cc,V id=.slice ad m cc:=by
    rcases hown.2 with⟨e1,e0⟩|⟨g,cap,cur,e1,_⟩
    ·exact⟨_,_,by rw[e1,e0]⟩
    ·exact⟨_,_,e1⟩
   obtain⟨ad2,cc,hV⟩:=hVs;refine⟨goInt 0,?_,?_⟩
   ·unfold execOp;simp only[ho,resolve,invoke,builtin,Sem.run_bind,Sem.run_pure,Result.andThen_ok,wg0,wen,wfk,exv,hV,hyv,ztj w t t' o.type e ad2 ad m cc m2 c hu (by rw[hs];rfl) h0]
   ·have:min m m2=0:=by rw[Nat.min_comm];exact h0
    rw[this];exact .u _
  refine wak hdo hq ?_;have e:H.set id ⟨ver,some (.row te 1 m (cs2.take m++cs.drop m2))⟩=H:=by
   funext j;unfold PHeap.set;split
   ·rename_i hj;subst hj;have e2:cs2.take m++cs.drop m2=cs:=by
     rcases Nat.eq_zero_or_pos m2 with h|h
     ·subst h;rw[wek hc2];simp
     ·have hm:m=0:=by
       have:min m2 m=0:=h0;omega
      subst hm;rw[wek hcs];simp
    rw[e2];cases hH:H j with
    |mk v b=>rw[hH]at hb hve;simp only at hb hve;rw[hb,hve]
   ·rfl
  rw[e]at hk;exact hk
 ·have hm0:m≠0:=λe=>h0 (by rw[e];exact Nat.min_zero _);have hm20:m2≠0:=λe=>h0 (by rw[e];exact Nat.zero_min _);intro V a w hr;obtain⟨vals,hown,hR,h1⟩:=hr.heap.row id _ _ _ _ hb;have hxv:a.eval x=V id:=by
   have:=Rp.eval (P:=P) (F:=F) (a:=a) (Z:=W.Z) (H:=H) (V:=V) (w:=w) x λt _=>hr.slot t;rw[hx]at this;generalize a.eval x=q at this;cases this with
   |ps _ _ _ hvv hh=>exact hh (by rw[hb];rfl) hve
  obtain⟨ad,c,hyv,hsrc⟩:=zgl hr.heap (Rp.eval (P:=P) (F:=F) (a:=a) y λt _=>hr.slot t) hy;rcases hsrc with⟨h0,_⟩|⟨ba,news,rfl,hnl,hRn,hcell⟩
  ·exact absurd h0 hm20
  rcases hown.2 with⟨e1,h0⟩|⟨g,cap,cur,e1,hbg,hgh,hcap,hcm,hcsz,htake⟩
  ·exact absurd h0 hm0
  have hnl':news.length=m2:=by omega
  have hvl:vals.length=m:=by have:=hown.1;omega
  have hone:∀u∈news,u.oneCell'=true:=λu hu=>by
   obtain⟨j,hj,rfl⟩:=wgb hu;have hj2:j<cs2.length:=by rw[hRn.1];exact hj
   exact(hRn.2 j _ _ (wd2 hj2) (wd2 hj)).leaf hr.heap (hleaf _ (wec _))
  have hrun:=run_copy_row (P:=P) w t t' o.type e g 0 m cap ba m2 c cur te (news.take m) hu hs hgh (by rw[wfg,hnl',Nat.min_comm]) (λj v hj=>hcell j v (by
   rw[wfm]at hj;split at hj
   ·exact hj
   ·cases hj)) (by rw[wfg];omega) (λv hv=>hone v (wgi hv))
  have hex:(execOp a.eval o).run P w=.ok (.value (goInt (news.take m).length)) (w.setRow g (cur.toList.take 0++news.take m++cur.toList.drop (0+(news.take m).length)).toArray):=by
   unfold execOp;simp only[ho,resolve,invoke,builtin,Sem.run_bind,Sem.run_pure,Result.andThen_ok,wg0,wen,wfk,hxv,hyv,e1,hrun]
  have hcn:(news.take m).length=min m m2:=by rw[wfg,hnl']
  have hgi:goInt (news.take m).length=.int .i64 (min m m2:Nat):=by rw[hcn];rfl
  have hown':(w.setRow g (cur.toList.take 0++news.take m++cur.toList.drop (0+(news.take m).length)).toArray).ownsRow W.w.heap.size te 1 (V id) m (news.take m++vals.drop m2):=by
   refine⟨by simp[hvl,hnl'];omega,.inr ⟨g,cap,_,e1,hbg,setRow_heap w g cur _ te _ hgh,hcap,hcm,?_,?_⟩⟩
   ·simp[hnl'];omega
   ·have hdrop:vals.drop m2=(cur.toList.take m).drop m2:=by rw[<- htake,wgu]
    rw[hdrop,wgu];simp only[List.take_zero,wfx,wfa,hcn];apply wfj;intro j;rw[wfm];by_cases hj:j<m
    ·rw[if_pos hj];by_cases hj2:j<m2
     ·rw[weg (by rw[hcn];omega),weg (by rw[hcn];omega)]
     ·rw[wei (by rw[hcn];omega),wei (by rw[hcn];omega),hcn,we5,we5,wfm];rw[if_pos (by omega)];congr 1;omega
    ·rw[if_neg hj,wfv];simp[hcn];omega
  have hgr:w.grownBy (w.setRow g (cur.toList.take 0++news.take m++cur.toList.drop (0+(news.take m).length)).toArray) (some g):=⟨rfl,rfl,rfl,by simp,λk _ hk=>setRow_other w g k _ (λe=>hk (by rw[e]))⟩
  have hblk:qc (V id)=some g:=by rw[e1];rfl
  have hturn:Turn W H V w id ⟨ver,some (.row te 1 m (cs2.take m++cs.drop m2))⟩ (V id) (w.setRow g (cur.toList.take 0++news.take m++cur.toList.drop (0+(news.take m).length)).toArray):=by
   refine⟨hr.heap.below.grown hgr hr.heap.below.size λkk hk=>by cases hk;exact hbg,hgr.size,λbb hlt hn=>hgr.block bb hlt λe'=>hn ⟨by rw[hb];rfl,by rw[hblk];exact e'.symm⟩,λg' hg'=> .inr ⟨by rw[hb];rfl,hg'⟩,.inr ⟨hve.symm,rfl,by rw[hb];rfl⟩⟩
  refine yh hex ⟨_,_,yf V id (V id),hk,?_⟩;rw[hgi];refine hr.turn hturn (λbd hbd=>?_) o.dst hdo (.u _);cases hbd;refine⟨_,hown',⟨?_,λj p u h3 h4=>?_⟩,λu hu=>?_⟩
  ·simp[hvl,hnl',hc2,hcs]
  ·by_cases hj:j<min m m2
   ·rw[weg (by simp;omega),wfm,if_pos (by omega)]at h3;rw[weg (by rw[hcn];exact hj),wfm,if_pos (by omega)]at h4;exact hturn.rp (hRn.2 j p u h3 h4)
   ·rw[wei (by simp;omega),we5]at h3;rw[wei (by rw[hcn];omega),we5,hcn]at h4;have e3:m2+(j-(cs2.take m).length)=m2+(j-min m m2):=by rw[wfg,hc2]
    rw[e3]at h3;exact hturn.rp (hR.2 _ p u h3 h4)
  ·rcases wej.1 hu with h|h
   ·exact hone u (wgi h)
   ·exact h1 u (wgh h)
theorem jed{t t':TypeId}{x y:Operand}{q:SR}(ho:o.op=.call { callee :=.builtin .copy,args:=#[x,y],argTypes:=#[t,t'] })(h:sCpy (esz P t) G (evE E x) (evE E y)=some q):SOk P o E G q:=by
 have hx':x∈o.op.operands:=by rw[ho];simp[Op.operands,Call.operands]
 have hy':y∈o.op.operands:=by rw[ho];simp[Op.operands,Call.operands]
 unfold sCpy at h;split at h<;>try (cases h;done)
 rename_i id ver hx;split at h<;>try (cases h;done)
 rename_i hv;have hv:=qz hv;split at h<;>try (cases h;done)
 rename_i tid ty l hb;split at h<;>try (cases h;done)
 rename_i hc;simp only[wd8]at hc;have hes:=zi4 hc.1;have hw:=qz hc.2.1;split at h<;>cases h;rename_i r hr;refine⟨λ_=>rfl,λz hz W n F H hfl hd hF hH=>?_⟩;cases hz;have hag:Agr o E G r.2 F H:=⟨hF,λi hi=>hH i (.inl hi)⟩
 have hid:=hH id (.inr (by simp));obtain⟨e,ti,hu,hti,hts⟩:=zac hes;have hl1:∀l:List ty.D,(l.flatMap (encC ty)).length=l.length:=λl=>by rw[Jy _ (wid ty) _ λx _=>ju ty x,hw,wgu]
 have hsrc:=zw2 (H:=H) hr hw λi hi=>hag.h i hi;refine wdv (id:=2*id) (ver:=ver) (te:=tid) (m:=l.length) (m2:=r.1.length) (cs:=l.flatMap (encC ty)) (cs2:=r.1.flatMap (encC ty)) ho hd hu (by rw[hti,wer,hts]) (by rw[hag.ev hx',hx];simp only[TS.den]) (by rw[yd hid hb rfl hv,hw]) (by rw[hag.ev hy'];exact hsrc) (hl1 _) (hl1 _) (zmc hc.2.2 _) ⟨by simp only[TS.den];rfl,?_⟩;have e1:(r.1.flatMap (encC ty)).take l.length++(l.flatMap (encC ty)).drop r.1.length=(r.1.take l.length++l.drop r.1.length).flatMap (encC ty):=by
  have ht:∀(a:List ty.D)(j:Nat),(a.flatMap (encC ty)).take j=(a.take j).flatMap (encC ty)/\(a.flatMap (encC ty)).drop j=(a.drop j).flatMap (encC ty):=λa j=>by
   have e3:a.flatMap (encC ty)=(a.take j).flatMap (encC ty)++(a.drop j).flatMap (encC ty):=by rw[<- wf6,wfh]
   by_cases hj:j<=a.length
   ·have e4:((a.take j).flatMap (encC ty)).length=j:=by rw[hl1,wfg];omega
    rw[e3,wg3 e4,wgo e4];exact⟨rfl,rfl⟩
   ·rw[wfs (by rw[hl1];omega),List.drop_of_length_le (by rw[hl1];omega),wfs (by omega),List.drop_of_length_le (by omega)];exact⟨rfl,rfl⟩
  rw[(ht _ _).1,(ht _ _).2,wf6]
 have e2:(r.1.take l.length++l.drop r.1.length).length=l.length:=by simp;omega
 simp only[za8,wen,wfk,zw,qj,wer,BD.den,e1,e2,hw]
theorem jeb{Z:ZM}{V:Nat->Value}{w:World}{t t' e:TypeId}{l:List Int}{v:Value}(hs:P.underlying t=some (.slice e))(he:P.underlying e=some (.int .u8))(hd:P.underlying t'=some .string)(h:Rp Z H V w (.sl 1 (l.map λz=>PV.u (.int .u8 z))) v):(convert t t' v).run P w=.ok (.string (strOfNums l)) w:=by
 generalize hxs:(l.map λz=>PV.u (.int .u8 z))=us at h;cases h with
 |nil k a c=>
  have:l=[]:=List.map_eq_nil_iff.1 hxs;subst this;cases a<;>simp[convert,run_underlying hs,run_underlying hd,run_underlying he,Conv.bytesToString,loadCells,loadCellsFrom,strOfNums]<;>rfl
 |sl k us b o c gg hu hlen hz hb h1 h2=>
  subst hxs;have hfl:(l.map λz=>PV.u (.int .u8 z)).flatMap PV.cells=l.map λz=>PV.u (.int .u8 z):=zaq (λv=>rfl) l;have hcell:∀i,i<l.length->w.cell? ⟨b,o+i,none⟩=some (.int .u8 (l.getD i 0)):=λi hi=>by
   have hp:((l.map λz=>PV.u (.int .u8 z)).flatMap PV.cells)[i]?=some (PV.u (.int .u8 l[i])):=by rw[hfl];simp[hi]
   have h3:=h2 i _ hp;rw[h1 i _ hp];generalize gg i=q at h3;cases h3;simp[List.getD,hi]
  have:=run_convert_bytes_arg (P:=P) w t e hs he b o l.length c l rfl hcell t' hd;rw[wey];exact this
theorem jcs{t t' e:TypeId}{x:Operand}{q:SR}(ho:o.op=.convert t t' x)(hs:P.underlying t=some (.slice e))(he:P.underlying e=some (.int .u8))(hd:P.underlying t'=some .string)(h:sB2S G (evE E x)=some q):SOk P o E G q:=by
 have hx':x∈o.op.operands:=by rw[ho];simp[Op.operands]
 unfold sB2S at h;split at h<;>cases h;rename_i l hl;refine SOk.dat λz hz W F H hag=>wae λV a w hr hh=>?_;cases hz;have hxv:=hh x hx';rw[hag.ev hx']at hxv;have hv:=(Qy (G:=zan (jd0 (evE E x)) G) (H:=H) (λid hs=>by
  unfold zan at *;cases hm:zfy (jd0 (evE E x)) id with
  |true=>exact hag.h id (Qu.1 hm)
  |false=>rw[hm]at hs;simp at hs) _ _ _ hl).1 P W V w hr _ hxv
 have:=jeb hs he hd (l:=l) hv;refine⟨.string (strOfNums l),?_,?_⟩
 ·simp only[execOp,ho,Sem.run_bind,this,Result.andThen_ok];rfl
 ·simp only[TS.den];exact .u _
end
theorem cloneZ{α:Type}(o:Option α):jb o (λx=>some x)=o:=by cases o<;>rfl
theorem z3t{P:Program}{f:FuncId}{t:Ty}{e:TypeId}{b:Nat}{g:List t.D->Option (List t.D)}(hC:zj0 P f [.sl t] e t g)(hg:∀x r,g (x::r)=apO b [] (x::r))
  (hn:∀c w,Calls P f #[.slice none 0 c] w λex w'=>ex=.returned (.slice none 0 0)/\w'=w)
  (hz:∀a c w,Calls P f #[.slice (some a) 0 c] w λex w'=>∃v',ex=.returned v'/\w'.ownsRow w.heap.size e (wid t) v' 0 []/\Below w.heap.size w w'):zj0 P f [.sl t] e t (λx=>apO b [] x):=by
 refine⟨hC.1,λx r h=>?_⟩;cases x with
 |cons y l=>exact hC.2 (y::l) r ((hg y l).trans h)
 |nil=>
  obtain⟨_,_,rfl⟩:=zr5 h;intro Z w vs hZ hm hR;obtain⟨v,rfl,hv⟩:=rpl1 (p :=.sl (wid t) []) hR;have fin:∀{v':Value}{w':World},w'.ownsRow Z.m e (wid t) v' 0 []->(∀g,qc v'=some g->¬PZ Z PHeap.empty V0 g)->∃p,p=PV.fr e (wid t) (([]:List t.D).map (enc t))/\NoP p/\Rp Z PHeap.empty V0 w' p v':=λh1 h2=>
   ⟨_,rfl,.fr _ _ _ λc hc=>by simp at hc,.fr e (wid t) [] _ [] (λy hy=>by cases hy) h1 h2 (λu hu=>by cases hu) λi p u hi=>by simp at hi⟩
  have zero:∀a c,v=.slice (some a) 0 c->Calls P f [v].toArray w (λex w'=>∃v p,ex=.returned v/\p=PV.fr e (wid t) (([]++[]:List t.D).map (enc t))/\NoP p/\Rp Z PHeap.empty V0 w' p v/\Below w.heap.size w w'):=λa c ev=>by
   subst ev;refine(hz a c w).mono λex w'⟨v',h1,h2,h3⟩=>?_;obtain⟨p,g1,g2,g3⟩:=fin (v':=v') (w':=w') (Y9 (w:=w') h2 hm λ_ _ _=>rfl) λg hg hz=>by
    have:=(zel h2 hg).1;have:=hZ g (zi.1 hz);omega
   exact⟨v',p,h1,g1,g2,g3,h3⟩
  cases hv with
  |nil k a c=>
   cases a with
   |some a=>exact zero a c rfl
   |none=>
    refine(hn c w).mono λex w'⟨h1,h2⟩=>?_;subst h2;obtain⟨p,g1,g2,g3⟩:=fin (v' :=.slice none 0 0) (w':=w') ⟨by simp,.inl ⟨rfl,rfl⟩⟩ λg hg=>by cases hg
    exact⟨_,p,h1,g1,g2,g3,Below.refl _ _⟩
  |sl k xs b o c g hu hlen hz' hb h1 h2=>exact zero _ _ rfl
noncomputable def sUg(P:Program)(o:Oper)(E:EF)(G:EG):Option SR:=match o.op with
 |.slice t x (some y) none none=>sSlF (esz P t) G (evE E x) (evE E y)
 |.call ⟨.builtin .copy,⟨[x,y]⟩,⟨[t,_]⟩⟩=>sCpy (esz P t) G (evE E x) (evE E y)
 |.convert t t' x=>match P.underlying t with
  |some (.slice e)=>match zku P e with
   |some .u8=>match zap P t' with
    |true=>sB2S G (evE E x)
    |false=>none
   |_=>none
  |_=>none
 |_=>none
theorem sUg_ok{P:Program}{o:Oper}{E:EF}{G:EG}{q:SR}(h:sUg P o E G=some q):SOk P o E G q:=by
 unfold sUg at h;split at h<;>try (cases h;done)
 ·rename_i ho;exact jez ho h
 ·rename_i ho;exact jed ho h
 ·rename_i ho;split at h<;>try (cases h;done)
  rename_i hs;split at h<;>try (cases h;done)
  rename_i he;split at h<;>try (cases h;done)
  rename_i hd;refine jcs ho hs (zih he) ?_ h;unfold zap at hd;split at hd
  ·assumption
  ·cases hd
noncomputable def z88(ky:TypeId->Option KY)(prs:Nat->Prm)(fz:Nat->Nat->List (Nat×Ty))(fr:Nat->Nat->Bool)(T:FuncId->Option FF):Sy1:=λctx nid site o E G=>match sUg Tryz.prog o E G with
 |some q=>some q
 |none=>jaw ky prs fz fr T ctx nid site o E G
theorem z9t{ky:TypeId->Option KY}(hky:z8p Tryz.prog ky){prs:Nat->Prm}{fz:Nat->Nat->List (Nat×Ty)}{fr:Nat->Nat->Bool}{T:FuncId->Option FF}(hT:zcg Tryz.prog T)(hS:∀c,Vm Tryz.prog (prs c).S)(hzt:∀c,zdi Tryz.prog (prs c).zt)(hzt2:∀c,zdi Tryz.prog (prs c).zt2):∀ctx nid site o E G q,z88 ky prs fz fr T ctx nid site o E G=some q->SOk Tryz.prog o E G q:=λctx nid site o E G q h=>by
 unfold z88 at h;split at h
 ·rename_i q' hq;cases h;exact sUg_ok hq
 ·exact z9d hky hT hS hzt hzt2 _ _ _ _ _ _ _ h
structure RE where
 f:FuncId
 n:Nat
 rs:List ResultVar
 b:Nat
 un:List Nat
 hin:LH
 hout:LH
 g:DL hin.tys->Option (DL hout.tys)
def zjq(P:Program)(x:RE):Prop:=∃fn c,P.funcs[x.f]?=some fn/\fn.body=some c/\fn.ntmps=x.n/\fn.results.toList=x.rs/\yx P x.f=true/\∀t r,x.g t=some r ->
 ∃e0,(e0=.normal\/e0=.ret)/\OutC P x.b x.n c (unE x.hin (Je _ t)) (unG x.hin (Je _ t)) e0 (unE x.hout (Je _ r)) (unG x.hout (Je _ r))
def jc1(P:Program)(x:RE)(cl:Call)(nid:Nat)(E:EF)(G:EG):Option SK:=match zxc E cl with
 |none=>none
 |some (f,az)=>match Nat.beq f x.f && Nat.ble az.length x.n with
  |false=>none
  |true=>match zm9 G 1000 (Z3 G (zfm az)) []with
   |none=>none
   |some seen=>match zni x.un true seen 0 with
    |L0=>match L0++zni x.un false seen 0 with
     |L=>match zf2 L && Nat.beq L0.length x.b with
      |false=>none
      |true=>some ⟨λk=>meet x.b x.hin (λt=>jb (x.g t) λr=>inlX P ⟨x.f,x.n,x.rs,.skip,λ_=>none,0,x.un⟩ L x.b nid G k .ret 0 (unE x.hout (Je _ r)) (unG x.hout (Je _ r))) (z90 (Vk (mu1 L L.length G) az)) (inG L G)⟩
theorem z4p{P:Program}{x:RE}(hx:zjq P x){o:Oper}{cl:Call}(ho:o.op=.call cl){nid:Nat}{E:EF}{G:EG}{q:SK}(h:jc1 P x cl nid E G=some q):z75 P o E G q:=by
 obtain⟨fn,c,hf,hb,hn,hr,hg,hC⟩:=hx;unfold jc1 at h;split at h<;>try (cases h;done)
 rename_i f az ht;split at h<;>try (cases h;done)
 rename_i hfx;simp only[wd8]at hfx;have hf1:=qz hfx.1;have hf2:=wf1 hfx.2;subst hf1;split at h<;>try (cases h;done)
 rename_i seen hseen;simp only at h;split at h<;>try (cases h;done)
 rename_i hnd;simp only[wd8]at hnd;cases h;intro β k r hk;obtain⟨t,hp,hj,hu⟩:=Vc hk;cases hgt:x.g t with
 |none=>rw[hgt]at hj;cases hj
 |some r0=>
  rw[hgt]at hj
  replace hj:inlX P ⟨x.f,x.n,x.rs,.skip,λ_=>none,0,x.un⟩ (zni x.un true seen 0++zni x.un false seen 0) x.b nid G k .ret 0 (unE x.hout (Je _ r0)) (unG x.hout (Je _ r0))=some r:=hj
  obtain⟨_,s,NL,hs,hex,hkr,hu2⟩:=zt8 hj;obtain⟨e0,he0,hoc⟩:=hC t r0 hgt;have hlb:=qz hnd.2;refine⟨_,_,_,hkr,λk2=>?_,λid hid=>by rw[zbq]at hid;exact hid,λW n F H hfl hd hF hH=>?_⟩
  ·refine(hu _).trans ?_;rw[hgt];exact hu2 k2
  ·have hag:Agr o E G [] F H:=⟨hF,λid h=>by cases h⟩
   have hout:=OutC.into (zbk (P:=P) (n:=x.n) hp) hoc;refine wd1 hd ho (zk2 ho hag ht) hg hf hb (by rw[hn];exact hf2) hfl (z03 hex) (zbs hnd.1) (λi hi=>hH i (.inr (by rw[zbq];exact hi))) he0 (λW1 R1 hg1 hr1=>by rw[hn];exact hout W1 R1 hg1 hr1) ?_;rw[hr];exact hs
def z4i(re:FuncId->Option RE)(o:Oper)(E:EF):Option (RE×Call):=match o.op with
 |.call c=>match zxc E c with
  |some (f,_)=>match re f with
   |some x=>some (x,c)
   |none=>none
  |none=>none
 |_=>none
theorem zq8{re:FuncId->Option RE}{o:Oper}{E:EF}{x:RE×Call}(h:z4i re o E=some x):o.op=.call x.2/\∃f,re f=some x.1:=by
 unfold z4i at h;split at h<;>try (cases h;done)
 rename_i c ho;split at h<;>try (cases h;done)
 rename_i f az ht;split at h<;>cases h;rename_i y hy;exact⟨ho,_,hy⟩
def syR(P:Program)(st:Sy1)(it:Nat->Nat->FuncId->Option IE)(re:FuncId->Option RE)(fuel:Nat):Nat->SyT
 |0=>λctx nid site o E G=>match z4i re o E with
  |some x=>jc1 P x.1 x.2 nid E G
  |none=>stK P (st ctx nid site o E G) nid o E G
 |d+1=>λctx nid site o E G=>match z4i re o E with
  |some x=>jc1 P x.1 x.2 nid E G
  |none=>match jch it ctx site o E with
   |some x=>inlK P (syR P st it re fuel d) fuel x.1 x.2 nid E G
   |none=>stK P (st ctx nid site o E G) nid o E G
theorem jb2{P:Program}{st:Sy1}{it:Nat->Nat->FuncId->Option IE}{re:FuncId->Option RE}{fuel:Nat}(hm:P.follows .mixedOrders=true)(hst:∀ctx nid site o E G q,st ctx nid site o E G=some q->SOk P o E G q)(hit:∀ctx site f x,it ctx site f=some x->z84 P x)(hre:∀f x,re f=some x->zjq P x):∀d,zpk P (syR P st it re fuel d)
 |0=>λctx nid site o E G q h=>by
  simp only[syR]at h;split at h
  ·rename_i x hx;obtain⟨ho,f,hf⟩:=zq8 hx;exact z4p (hre _ _ hf) ho h
  ·exact jby (λx hx=>hst _ _ _ _ _ _ _ hx) h
 |d+1=>λctx nid site o E G q h=>by
  simp only[syR]at h;split at h
  ·rename_i x hx;obtain⟨ho,f,hf⟩:=zq8 hx;exact z4p (hre _ _ hf) ho h
  ·split at h
   ·rename_i x hx;obtain⟨ho,ctx',site',f,hf⟩:=z3k hx;exact jew (jb2 hm hst hit hre d) hm (hit _ _ _ _ hf) ho h
   ·exact jby (λx hx=>hst _ _ _ _ _ _ _ hx) h
def funE(P:Program)(sy:SyT)(hint:Nat->Option HK)(n:Nat)(c:Code)(b:Nat)(hin hout:LH)(nn:Nat)(t:DL hin.tys):Option (DL hout.tys):=
 qp sy nn hint 0 b n c 1 hin.nx (unE hin (Je _ t)) (unG hin (Je _ t)) λe _ E G=>match e with
  |.normal=>meet b hout some E G
  |.ret=>meet b hout some E G
  |_=>none
theorem jd8{P:Program}{sy:SyT}(hsy:zpk P sy)(hm:P.follows .mixedOrders=true){hint:Nat->Option HK}{x:RE}{nn:Nat}{fn:Func}{c:Code}(hf:P.funcs[x.f]?=some fn)(hb:fn.body=some c)(hn:fn.ntmps=x.n)(hr:fn.results.toList=x.rs)(hg:yx P x.f=true)
  (hk:∀t,funE P sy hint x.n c x.b x.hin x.hout nn t=x.g t):zjq P x:=by
 refine⟨fn,c,hf,hb,hn,hr,hg,λt r h=>?_⟩;have h:=(hk t).trans h;unfold funE at h;obtain⟨e,nx,E',G',h3,_,ho⟩:=ze (P:=P) (n:=x.n) hm hsy c 1 _ _ _ _ r h;cases e with
 |normal=>
  obtain⟨t',hp,h4,_⟩:=Vc h3;cases h4;exact⟨_,.inl rfl,ho.ren (zbk hp)⟩
 |ret=>
  obtain⟨t',hp,h4,_⟩:=Vc h3;cases h4;exact⟨_,.inr rfl,ho.ren (zbk hp)⟩
 |_=>cases h3
noncomputable def lk{α:Type}(l:List (Nat×α))(k:Nat):Option α:=List.rec (motive:=λ_=>Option α) none (λe _ ih=>cond (Nat.beq k e.1) (some e.2) ih) l
noncomputable def hsN(l:List Nat)(k:Nat):Bool:=List.rec (motive:=λ_=>Bool) false (λa _ ih=>cond (Nat.beq k a) true ih) l
noncomputable def lkL{α:Type}(l:List (Nat×List α))(k:Nat):List α:=List.rec (motive:=λ_=>List α) [] (λe _ ih=>cond (Nat.beq k e.1) e.2 ih) l
theorem zjs{α:Type}{a:Nat}{y:α}{l:List (Nat×α)}{f:Nat}{x:α}(h:lk ((a,y)::l) f=some x):f=a/\y=x\/lk l f=some x:=by
 have h:cond (Nat.beq f a) (some y) (lk l f)=some x:=h;cases hb:Nat.beq f a
 ·rw[hb]at h;exact .inr h
 ·rw[hb]at h;exact .inl ⟨wd9 hb,wfy h⟩
structure Cfg where
 zt:ZT
 zt2:ZT
 zy:ZY
 ky:TypeId->Option KY
structure jap(c:Cfg):Prop where
 zt:zdi Tryz.prog c.zt
 zt2:zdi Tryz.prog c.zt2
 ky:z8p Tryz.prog c.ky
noncomputable def prsK(cf:Cfg)(bds:List (Nat×List Nat))(lits:List (Nat×List (Nat×LK)))(S:z2d)(c:Nat):Prm:={ bd:=hsN (lkL bds c),lit:=lk (lkL lits c),zt:=cf.zt,zt2:=cf.zt2,zy:=cf.zy,S:=S }
noncomputable def fzK(l:List (Nat×List (Nat×Ty)))(c t:Nat):List (Nat×Ty):=lkL l (c*1000000+t)
noncomputable def frK(l:List Nat)(c t:Nat):Bool:=hsN l (c*1000000+t)
noncomputable def itK(l:List (Nat×IE))(c t f:Nat):Option IE:=lk l ((c*1000000+t)*10000+f)
noncomputable def syK(cf:Cfg)(bds:List (Nat×List Nat))(lits:List (Nat×List (Nat×LK)))(fz:List (Nat×List (Nat×Ty)))(frs:List Nat)(S:List (Nat×PF))(T:List (Nat×FF))(it:List (Nat×IE))(re:List (Nat×RE))(nn d:Nat):SyT:=
 syR Tryz.prog (z88 cf.ky (prsK cf bds lits (lk S)) (fzK fz) (frK frs) (lk T)) (itK it) (lk re) nn d
def jz(f:FuncId)(x:PF):Prop:=zye Tryz.prog f x.ats x.rt x.g
def FFOk(f:FuncId)(x:FF):Prop:=zj0 Tryz.prog f x.ats x.e x.rt x.g
theorem tn:Vm Tryz.prog (lk []):=λf x h=>by cases h
theorem tc{f:FuncId}{y:PF}{l:List (Nat×PF)}(h:jz f y)(hl:Vm Tryz.prog (lk l)):Vm Tryz.prog (lk ((f,y)::l)):=λg x hx=>by
 rcases zjs hx with⟨rfl,rfl⟩|hx
 ·exact h
 ·exact hl g x hx
theorem gn:zcg Tryz.prog (lk []):=λf x h=>by cases h
theorem gc{f:FuncId}{y:FF}{l:List (Nat×FF)}(h:FFOk f y)(hl:zcg Tryz.prog (lk l)):zcg Tryz.prog (lk ((f,y)::l)):=λg x hx=>by
 rcases zjs hx with⟨rfl,rfl⟩|hx
 ·exact h
 ·exact hl g x hx
def z1q(l:List (Nat×IE)):Prop:=∀k x,lk l k=some x->z84 Tryz.prog x
noncomputable abbrev ie (f:FuncId) (fn:Func) (h:Nat->Option HK) (ctx:Nat) (un:List Nat):IE:=⟨f,fn.ntmps,fn.results.toList,fn.body.getD .skip,h,ctx,un⟩
noncomputable def ckI(f:FuncId)(fn:Func):Bool:=fn.body.isSome && yx Tryz.prog f
theorem itn:z1q []:=λk x h=>by cases h
theorem zd3{fn:Func}(h:fn.body.isSome=true):fn.body=some (fn.body.getD .skip):=by
 cases hb:fn.body with
 |none=>rw[hb]at h;cases h
 |some c=>rfl
theorem itc(k:Nat){f:FuncId}{fn:Func}(hf:Tryz.prog.funcs[f]?=some fn)(h:Nat->Option HK)(ctx:Nat)(un:List Nat){l:List (Nat×IE)}(hl:z1q l)(hc:ckI f fn=true):z1q ((k,ie f fn h ctx un)::l):=λg x hx=>by
 rcases zjs hx with⟨rfl,rfl⟩|hx
 ·unfold ckI at hc;rw[wd8]at hc;exact⟨fn,hf,zd3 hc.1,rfl,rfl,hc.2⟩
 ·exact hl g x hx
noncomputable def ckF(f:FuncId)(fn:Func)(ats:List Ty):Bool:=fn.body.isSome && (Nat.ble ats.length fn.ntmps && yx Tryz.prog f)
def zq4(l:List (Nat×RE)):Prop:=∀f x,lk l f=some x->zjq Tryz.prog x
theorem rn:zq4 []:=λk x h=>by cases h
theorem rc{y:RE}{l:List (Nat×RE)}(h:zjq Tryz.prog y)(hl:zq4 l):zq4 ((y.f,y)::l):=λg x hx=>by
 rcases zjs hx with⟨rfl,rfl⟩|hx
 ·exact h
 ·exact hl g x hx
theorem z2b{cf:Cfg}(hcf:jap cf){bds:List (Nat×List Nat)}{lits:List (Nat×List (Nat×LK))}{fz:List (Nat×List (Nat×Ty))}{frs:List Nat}{S:List (Nat×PF)}{T:List (Nat×FF)}{it:List (Nat×IE)}{re:List (Nat×RE)}{nn d:Nat}(hS:Vm Tryz.prog (lk S))(hT:zcg Tryz.prog (lk T))(hI:z1q it)(hR:zq4 re):zpk Tryz.prog (syK cf bds lits fz frs S T it re nn d):=
 jb2 mixed (z9t hcf.ky hT (λ_=>hS) (λ_=>hcf.zt) (λ_=>hcf.zt2)) (λ_ _ _ _ h=>hI _ _ h) hR d
section
variable{cf:Cfg}(hcf:jap cf){f:FuncId}{fn:Func}(hf:Tryz.prog.funcs[f]?=some fn)(nn d:Nat)(bds:List (Nat × List Nat))(lits:List (Nat × List (Nat × LK)))(fz:List (Nat × List (Nat × Ty)))(frs:List Nat){S:List (Nat × PF)}{T:List (Nat × FF)}{it:List (Nat × IE)}{re:List (Nat × RE)}(hI:z1q it)(h:Nat → Option HK)
include hcf hf hI
theorem mkP(hR:zq4 re)(hT:zcg Tryz.prog (lk T))(hS:Vm Tryz.prog (lk S)){x:PF}(hc:ckF f fn x.ats=true)(hk:∀t,funP Tryz.prog (syK cf bds lits fz frs S T it re nn d) h fn.ntmps fn.results.toList (fn.body.getD .skip) x.ats x.rt nn t=x.g t):jz f x:=by
 unfold ckF at hc;simp only[wd8]at hc;have h:=jcz (z2b hcf (bds:=bds) (lits:=lits) (fz:=fz) (frs:=frs) (nn:=nn) (d:=d) hS hT hI hR) mixed (hint:=h) (ats:=x.ats) (rt:=x.rt) (nn:=nn) hf (zd3 hc.1) rfl rfl hc.2.1 hc.2.2;exact⟨h.1,λt r hr=>h.2 t r ((hk t).trans hr)⟩
theorem mkF(hR:zq4 re)(hT:zcg Tryz.prog (lk T))(hS:Vm Tryz.prog (lk S)){x:FF}(hc:ckF f fn x.ats=true)(hk:∀t,funF Tryz.prog (syK cf bds lits fz frs S T it re nn d) h fn.ntmps fn.results.toList (fn.body.getD .skip) x.ats x.e x.rt nn t=x.g t):FFOk f x:=by
 unfold ckF at hc;simp only[wd8]at hc;have h:=jc4 (z2b hcf (bds:=bds) (lits:=lits) (fz:=fz) (frs:=frs) (nn:=nn) (d:=d) hS hT hI hR) mixed (hint:=h) (ats:=x.ats) (ee:=x.e) (rt:=x.rt) (nn:=nn) hf (zd3 hc.1) rfl rfl hc.2.1 hc.2.2;exact⟨h.1,λt r hr=>h.2 t r ((hk t).trans hr)⟩
theorem mkE{b:Nat}{un:List Nat}{hin hout:LH}{bo:(DL hin.tys->Option (DL hout.tys))->DL hin.tys->Option (DL hout.tys)}{q:Nat->DL hin.tys->Option (DL hout.tys)}{re:(DL hin.tys->Option (DL hout.tys))->List (Nat×RE)}(hR:∀rec,zjq Tryz.prog ⟨f,fn.ntmps,fn.results.toList,b,un,hin,hout,rec⟩->zq4 (re rec))(hT:zcg Tryz.prog (lk T))(hS:Vm Tryz.prog (lk S))(hc:ckI f fn=true)(hk:∀rec t,funE Tryz.prog (syK cf bds lits fz frs S T it (re rec) nn d) h fn.ntmps (fn.body.getD .skip) b hin hout nn t=bo rec t)
  (h0:∀t,q 0 t=none) (h1:∀m t,q (m+1) t=bo (q m) t):∀m,zjq Tryz.prog ⟨f,fn.ntmps,fn.results.toList,b,un,hin,hout,q m⟩
 |0=>by
  unfold ckI at hc;rw[wd8]at hc;exact⟨fn,_,hf,zd3 hc.1,rfl,rfl,hc.2,λt r hr=>by have:=(h0 t).symm.trans hr;cases this⟩
 |m+1=>by
  have ih:=mkE hR hT hS hc hk h0 h1 m;unfold ckI at hc;rw[wd8]at hc;exact jd8 (x:=⟨f,fn.ntmps,fn.results.toList,b,un,hin,hout,q (m+1)⟩) (z2b hcf (bds:=bds) (lits:=lits) (fz:=fz) (frs:=frs) (nn:=nn) (d:=d) hS hT hI (hR _ ih)) mixed (hint:=h) (nn:=nn) hf (zd3 hc.1) rfl rfl hc.2 λt=>(hk _ t).trans (h1 m t).symm
end
def vi(n:Nat):Nat×HS:=(n,.v (.int .i64))
def vb(n:Nat):Nat×HS:=(n,.v .bool)
def vl(n:Nat):Nat×HS:=(n,.v (.sl (.int .i64)))
def vo(n X:Nat):Nat×HS:=(n,.own X)
def vp(n X:Nat):Nat×HS:=(n,.pt X 0)
noncomputable def hbz(l:List HB)(k:Nat):List (Nat×HB):=List.rec (motive:=λ_=>Nat->List (Nat×HB)) (λ_=>[]) (λb _ ih k=>(k,b)::ih (k+1)) l k
noncomputable def me(s:List (Nat×HS))(l:List HB)(n:Nat):HK :=.meet ⟨s,hbz l 0,n⟩
theorem zn{P:Program}:zdi P (lk (α:=List TS) []):=λt xs h=>by cases h
theorem zc{P:Program}{t:Nat}{xs:List TS}{l:List (Nat×List TS)}(h1:(zfn P t).isSome=true)(h2:((zfn P t).getD []).all Value.oneCell'=true)(h3:((zfn P t).getD []).map .u=js xs)(hl:zdi P (lk l)):zdi P (lk ((t,xs)::l)):=λg ys hy=>by
 rcases zjs hy with⟨rfl,rfl⟩|hy
 ·obtain⟨us,hu⟩:=wfo.1 h1;rw[hu]at h2 h3;exact⟨us,hu,h2,wb2 h3⟩
 ·exact hl g ys hy
theorem FFOk.pure{f:FuncId}{x:FF}(h:FFOk f x):jz f ⟨x.ats,.sl x.rt,x.g⟩:=⟨h.1,λt r hr=>(h.2 t r hr).forget⟩
end Go.Proofs.YtdllbdlnmjngcaaGreat.T
namespace Go.Proofs.YtdllbdlnmjngcaaGreat.L
set_option maxRecDepth 100000
set_option maxHeartbeats 8000000
set_option linter.unusedVariables false
set_option linter.unusedSimpArgs false
open Go Go.RowKit
theorem e_{α:Sort _}(a:α):a=a:=rfl
theorem bs{α β:Type}{m:G α}{f:α->G β}{n:Nat}{r:β}(h:G.bind m f n=some r):∃a,m n=some a/\f a n=some r:=wby h
theorem pz{α:Type}{a r:α}{n:Nat}(h:G.pure a n=some r):a=r:=wcp h
theorem bk{α β:Type}{m:G α}{f:α->G β}{n:Nat}{r:β}{C:Prop}(h:G.bind m f n=some r)(k:∀a,m n=some a->f a n=some r->C):C:=by
 obtain⟨a,h1,h2⟩:=wby h;exact k a h1 h2
section
variable{P:Program}{W:Env}{n:Nat}{F:PFrame}{H:PHeap}{o:Oper}{l:List Oper}{ops:Array Oper}
theorem Q1{K:PFrame->PHeap->Prop}{d:Nat}{op:Op}{ty:Nat}{pos:String}{af:Array Edge}(p:PV)(hp:jr P H F ⟨some d,op,ty,pos,af,none⟩=some p)(h:PL P W n ops l (F.put (some d) p) H K)(hd:d<n:=by decide):PL P W n ops (⟨some d,op,ty,pos,af,none⟩::l) F H K:=PL.q rfl (Y6 hd) hp h
theorem Q2{Q:PFrame->Prop}{d:Nat}{op:Op}{ty:Nat}{pos:String}{af:Array Edge}(p:PV)(hp:jr P H F ⟨some d,op,ty,pos,af,none⟩=some p)(h:Qf P W n ops H Q l (F.put (some d) p))(hd:d<n:=by decide):Qf P W n ops H Q (⟨some d,op,ty,pos,af,none⟩::l) F:=QF.q rfl (Y6 hd) hp h
theorem Q3{K:PFrame->PHeap->Prop}{d:Nat}{op:Op}{ty:Nat}{pos:String}{af:Array Edge}(p:PV)(hp:PQ P W ⟨some d,op,ty,pos,af,none⟩ F H p)(h:PL P W n ops l (F.put (some d) p) H K)(hd:d<n:=by decide):PL P W n ops (⟨some d,op,ty,pos,af,none⟩::l) F H K:=PL.qq rfl (Y6 hd) hp h
theorem Q4{Q:PFrame->Prop}{d:Nat}{op:Op}{ty:Nat}{pos:String}{af:Array Edge}(p:PV)(hp:PQ P W ⟨some d,op,ty,pos,af,none⟩ F H p)(h:Qf P W n ops H Q l (F.put (some d) p))(hd:d<n:=by decide):Qf P W n ops H Q (⟨some d,op,ty,pos,af,none⟩::l) F:=QF.qq rfl (Y6 hd) hp h
theorem SR{Q:Exit->PFrame->PHeap->Prop}{id:Nat}{l:List Oper}{y:Code}(h:∀K:PFrame->PHeap->Prop,(∀F H,PC P W n y F H Q->K F H)->PL P W n l.toArray l F H K):PC P W n (.seq (.region id l.toArray false) y) F H Q:=PC.seq λK hK=>PC.region (h K hK)
theorem q1{K:PFrame->PHeap->Prop}{d:Nat}{op:Op}{ty:Nat}{pos:String}{af:Array Edge}{p:PV}(hp:jr P H F ⟨some d,op,ty,pos,af,none⟩=some p)(h:PL P W n ops l (F.put (some d) p) H K)(hd:d<n:=by decide):PL P W n ops (⟨some d,op,ty,pos,af,none⟩::l) F H K:=Q1 p hp h hd
theorem q2{Q:PFrame->Prop}{d:Nat}{op:Op}{ty:Nat}{pos:String}{af:Array Edge}{p:PV}(hp:jr P H F ⟨some d,op,ty,pos,af,none⟩=some p)(h:Qf P W n ops H Q l (F.put (some d) p))(hd:d<n:=by decide):Qf P W n ops H Q (⟨some d,op,ty,pos,af,none⟩::l) F:=Q2 p hp h hd
theorem q3{K:PFrame->PHeap->Prop}{d:Nat}{op:Op}{ty:Nat}{pos:String}{af:Array Edge}{p:PV}(hp:PQ P W ⟨some d,op,ty,pos,af,none⟩ F H p)(h:PL P W n ops l (F.put (some d) p) H K)(hd:d<n:=by decide):PL P W n ops (⟨some d,op,ty,pos,af,none⟩::l) F H K:=Q3 p hp h hd
theorem q4{Q:PFrame->Prop}{d:Nat}{op:Op}{ty:Nat}{pos:String}{af:Array Edge}{p:PV}(hp:PQ P W ⟨some d,op,ty,pos,af,none⟩ F H p)(h:Qf P W n ops H Q l (F.put (some d) p))(hd:d<n:=by decide):Qf P W n ops H Q (⟨some d,op,ty,pos,af,none⟩::l) F:=Q4 p hp h hd
theorem nl{ops:Array Oper}{K X:PFrame->PHeap->Prop}(hK:∀F H,X F H->K F H)(h:X F H):PL P W n ops [] F H K:=PL.nil (hK _ _ h)
theorem m_{K:PFrame->PHeap->Prop}{d:Nat}{x:Operand}{ty:Nat}{pos:String}{af:Array Edge}{p:PV}(hx:evP F x=p)(h:PL P W n ops l (F.put (some d) p) H K)(hd:d<n:=by decide):PL P W n ops (⟨some d,.move x,ty,pos,af,none⟩::l) F H K:=Q1 p (z4u hx) h hd
theorem sk{Q:Exit->PFrame->PHeap->Prop}{K X:PFrame->PHeap->Prop}(hK:∀F H,X F H->K F H)(h:X F H):PC P W n .skip F H (z5m K Q):=PC.skip (hK _ _ h)
theorem cd{Q:Exit->PFrame->PHeap->Prop}{c:Operand}{x y:Code}{b:Bool}{α:Type}{g1 g2:G α}{m:Nat}{r:α}(hc:evP F c=.u (.bool b))(h:G.cond b g1 g2 m=some r)(k1:b=true->g1 m=some r->PC P W n x F H Q)(k2:b=false->g2 m=some r->PC P W n y F H Q):PC P W n (.cond c x y) F H Q:=by
 rcases wcq h with⟨hb,h⟩|⟨hb,h⟩
 ·exact wdl hc hb (k1 hb h)
 ·exact wdm hc hb (k2 hb h)
theorem A1{c:Code}{Q:Exit->PFrame->PHeap->Prop}{p0:PV}(i0:Nat)(h0:F i0=p0)(h:∀F:PFrame,F i0=p0->PC P W n c F H Q):PC P W n c F H Q:=h F h0
theorem A2{c:Code}{Q:Exit->PFrame->PHeap->Prop}{p0 p1:PV}(i0:Nat)(h0:F i0=p0)(i1:Nat)(h1:F i1=p1)(h:∀F:PFrame,F i0=p0->F i1=p1->PC P W n c F H Q):PC P W n c F H Q:=h F h0 h1
theorem A3{c:Code}{Q:Exit->PFrame->PHeap->Prop}{p0 p1 p2:PV}(i0:Nat)(h0:F i0=p0)(i1:Nat)(h1:F i1=p1)(i2:Nat)(h2:F i2=p2)(h:∀F:PFrame,F i0=p0->F i1=p1->F i2=p2->PC P W n c F H Q):PC P W n c F H Q:=h F h0 h1 h2
theorem A4{c:Code}{Q:Exit->PFrame->PHeap->Prop}{p0 p1 p2 p3:PV}(i0:Nat)(h0:F i0=p0)(i1:Nat)(h1:F i1=p1)(i2:Nat)(h2:F i2=p2)(i3:Nat)(h3:F i3=p3)(h:∀F:PFrame,F i0=p0->F i1=p1->F i2=p2->F i3=p3->PC P W n c F H Q):PC P W n c F H Q:=h F h0 h1 h2 h3
theorem A5{c:Code}{Q:Exit->PFrame->PHeap->Prop}{p0 p1 p2 p3 p4:PV}(i0:Nat)(h0:F i0=p0)(i1:Nat)(h1:F i1=p1)(i2:Nat)(h2:F i2=p2)(i3:Nat)(h3:F i3=p3)(i4:Nat)(h4:F i4=p4)(h:∀F:PFrame,F i0=p0->F i1=p1->F i2=p2->F i3=p3->F i4=p4->PC P W n c F H Q):PC P W n c F H Q:=h F h0 h1 h2 h3 h4
theorem A6{c:Code}{Q:Exit->PFrame->PHeap->Prop}{p0 p1 p2 p3 p4 p5:PV}(i0:Nat)(h0:F i0=p0)(i1:Nat)(h1:F i1=p1)(i2:Nat)(h2:F i2=p2)(i3:Nat)(h3:F i3=p3)(i4:Nat)(h4:F i4=p4)(i5:Nat)(h5:F i5=p5)(h:∀F:PFrame,F i0=p0->F i1=p1->F i2=p2->F i3=p3->F i4=p4->F i5=p5->PC P W n c F H Q):PC P W n c F H Q:=h F h0 h1 h2 h3 h4 h5
theorem A7{c:Code}{Q:Exit->PFrame->PHeap->Prop}{p0 p1 p2 p3 p4 p5 p6:PV}(i0:Nat)(h0:F i0=p0)(i1:Nat)(h1:F i1=p1)(i2:Nat)(h2:F i2=p2)(i3:Nat)(h3:F i3=p3)(i4:Nat)(h4:F i4=p4)(i5:Nat)(h5:F i5=p5)(i6:Nat)(h6:F i6=p6)(h:∀F:PFrame,F i0=p0->F i1=p1->F i2=p2->F i3=p3->F i4=p4->F i5=p5->F i6=p6->PC P W n c F H Q):PC P W n c F H Q:=h F h0 h1 h2 h3 h4 h5 h6
theorem A8{c:Code}{Q:Exit->PFrame->PHeap->Prop}{p0 p1 p2 p3 p4 p5 p6 p7:PV}(i0:Nat)(h0:F i0=p0)(i1:Nat)(h1:F i1=p1)(i2:Nat)(h2:F i2=p2)(i3:Nat)(h3:F i3=p3)(i4:Nat)(h4:F i4=p4)(i5:Nat)(h5:F i5=p5)(i6:Nat)(h6:F i6=p6)(i7:Nat)(h7:F i7=p7)(h:∀F:PFrame,F i0=p0->F i1=p1->F i2=p2->F i3=p3->F i4=p4->F i5=p5->F i6=p6->F i7=p7->PC P W n c F H Q):PC P W n c F H Q:=h F h0 h1 h2 h3 h4 h5 h6 h7
theorem A11{c:Code}{Q:Exit->PFrame->PHeap->Prop}{p0 p1 p2 p3 p4 p5 p6 p7 p8 p9 p10:PV}(i0:Nat)(h0:F i0=p0)(i1:Nat)(h1:F i1=p1)(i2:Nat)(h2:F i2=p2)(i3:Nat)(h3:F i3=p3)(i4:Nat)(h4:F i4=p4)(i5:Nat)(h5:F i5=p5)(i6:Nat)(h6:F i6=p6)(i7:Nat)(h7:F i7=p7)(i8:Nat)(h8:F i8=p8)(i9:Nat)(h9:F i9=p9)(i10:Nat)(h10:F i10=p10)(h:∀F:PFrame,F i0=p0->F i1=p1->F i2=p2->F i3=p3->F i4=p4->F i5=p5->F i6=p6->F i7=p7->F i8=p8->F i9=p9->F i10=p10->PC P W n c F H Q):PC P W n c F H Q:=h F h0 h1 h2 h3 h4 h5 h6 h7 h8 h9 h10
theorem A12{c:Code}{Q:Exit->PFrame->PHeap->Prop}{p0 p1 p2 p3 p4 p5 p6 p7 p8 p9 p10 p11:PV}(i0:Nat)(h0:F i0=p0)(i1:Nat)(h1:F i1=p1)(i2:Nat)(h2:F i2=p2)(i3:Nat)(h3:F i3=p3)(i4:Nat)(h4:F i4=p4)(i5:Nat)(h5:F i5=p5)(i6:Nat)(h6:F i6=p6)(i7:Nat)(h7:F i7=p7)(i8:Nat)(h8:F i8=p8)(i9:Nat)(h9:F i9=p9)(i10:Nat)(h10:F i10=p10)(i11:Nat)(h11:F i11=p11)(h:∀F:PFrame,F i0=p0->F i1=p1->F i2=p2->F i3=p3->F i4=p4->F i5=p5->F i6=p6->F i7=p7->F i8=p8->F i9=p9->F i10=p10->F i11=p11->PC P W n c F H Q):PC P W n c F H Q:=h F h0 h1 h2 h3 h4 h5 h6 h7 h8 h9 h10 h11
end
section
variable{α β:Type}{kv:α → Value}{eqb:α → α → Bool}
def kIx(eqb:α->α->Bool)(k:α):List α->Option Nat
 |[]=>none
 |e::es=>if eqb k e then some 0 else(kIx eqb k es).map (· + 1)
theorem zgo{k:α}:∀{ks:List α}{j:Nat},kIx eqb k ks=some j->∃e,ks[j]?=some e/\eqb k e=true
 |[],j,h=>by cases h
 |e::es,j,h=>by
  unfold kIx at h;split at h
  ·rename_i he;cases h;exact⟨e,rfl,he⟩
  ·obtain⟨i,hi,rfl⟩:=wee.1 h;obtain⟨e',h1,h2⟩:=zgo hi;exact⟨e',by simpa using h1,h2⟩
theorem zua{k:α}:∀{ks:List α}{vs:List β}{i:Nat},ks.length=vs.length->Yk eqb k (ks.zip vs) i=(kIx eqb k ks).bind λj=>(vs[j]?).map λv=>(i+j,v)
 |[],[],i,_=>rfl
 |e::es,v::vs,i,h=>by
  simp only[List.zip_cons_cons,Yk,kIx];split
  ·simp
  ·rw[zua (by simpa using h)];cases kIx eqb k es with
   |none=>rfl
   |some j=>
    simp only[wer,wfp,wgd];cases vs[j]? with
    |none=>rfl
    |some u=>simp only[wer,we6,wgx,and_true];omega
end
def mapRφ(ks:List Value)(bs:List Nat)(clock:Nat):Nat->Obj->List Value->Prop:=λ_ o vs=>∃arr,o=.map arr clock/\arr.toList.map (·.key)=ks/\arr.toList.map (·.val)=vs/\arr.toList.map (·.born)=bs/\bs.Nodup/\∀b∈bs,b<clock
def Vw(ks:List Value)(bs:List Nat)(clock:Nat)(cs:List PV):PBody :=.raw false cs (mapRφ ks bs clock)
def itφ(since:Nat)(seen:Array Nat)(st:Nat):Nat->Obj->List Value->Prop:=λ_ o vs=>∃b,vs=[.map (some b)]/\o=.mapIter (some b) since seen st
def itB(id ver since:Nat)(seen:Array Nat)(st:Nat):PBody :=.raw true [.ps id ver] (itφ since seen st)
theorem zqd{w:World}{g:Nat}{o:Obj}(h:w.heap[g]?=some o):{ w with heap:=w.heap.setIfInBounds g o }=w:=by
 have:w.heap.setIfInBounds g o=w.heap:=by
  apply Array.ext_getElem?;intro i;by_cases e:g=i
  ·subst e;have hlt:=(wew.1 h).1;simp[Array.getElem?_setIfInBounds,hlt,h];exact((wew.1 h).2).symm
  ·simp[Array.getElem?_setIfInBounds,e]
 rw[this]
section
variable{P:Program}{W:Env}{n:Nat}{H:PHeap}{F:PFrame}{o:Oper}{K:PV → PHeap → Prop}
variable{α:Type}{key elem:TypeId}{kv:α → Value}{eqb:α → α → Bool}{x y z:Operand}{t:TypeId}{id ver clock:Nat}{ks:List α}{bs:List Nat}{cs:List PV}
theorem zhe{kvs:List Value}{V:Nat->Value}{w:World}{v:Value}(hH:H id=⟨ver,some (Vw kvs bs clock cs)⟩)(hr:HRel P W H V w)(hv:Rp W.Z H V w (.ps id ver) v):
  ∃g arr,v=.map (some g)/\V id=.map (some g)/\W.w.heap.size<=g/\w.heap[g]?=some (.map arr clock)/\arr.toList.map (·.key)=kvs/\RpL W.Z H V w cs (arr.toList.map (·.val))/\arr.toList.map (·.born)=bs/\bs.Nodup/\∀b∈bs,b<clock:=by
 obtain⟨g,o,vs,e,hg,hh,⟨arr,rfl,h1,rfl,h2,h3,h4⟩,hR⟩:=hr.map id false cs _ (by rw[hH];rfl);cases hv with
 |ps _ _ _ hvv hq=>
  have:=hq (by rw[hH];rfl) (by rw[hH]);exact⟨g,arr,by rw[this,e];rfl,e,hg,hh,h1,hR,h2,h3,h4⟩
theorem jec{arr:Array MapEntry}(h:arr.toList.map (·.key)=ks.map kv):arr.toList.map (λe=>(e.key,e.val))=(ks.zip (arr.toList.map (·.val))).map λe=>(kv e.1,(λv:Value=>v) e.2):=by
 generalize arr.toList=l at h;clear arr;induction l generalizing ks with
 |nil=>cases ks with
  |nil=>rfl
  |cons _ _=>simp at h
 |cons e l ih=>cases ks with
  |nil=>simp at h
  |cons k ks=>
   simp only[wen,List.cons.injEq]at h;simp only[wen,List.zip_cons_cons,h.1,List.cons.injEq,true_and];exact ih h.2
theorem zqt(KL:zkd P key kv eqb)(k:α)(w:World){arr:Array MapEntry}(h:arr.toList.map (·.key)=ks.map kv):(Instr.findKey key (kv k) arr.toList).run P w=.ok ((kIx eqb k ks).bind λj=>(arr.toList[j]?).map λe=>(j,e.val)) w:=by
 have hl:ks.length=(arr.toList.map (·.val)).length:=by have:=congrArg List.length h;simpa using this.symm
 rw[zde (vv:=λv:Value=>v) KL k w (jec h),zua hl];congr 1;cases kIx eqb k ks with
 |none=>rfl
 |some j=>
  simp only[wfp,web,wfa];cases arr.toList[j]?<;>rfl
theorem wcl(KL:zkd P key kv eqb)(ho:o.op=.mapEntry t x y)(ht:P.underlying t=some (.map key elem))(hH:H id=⟨ver,some (Vw (ks.map kv) bs clock cs)⟩)(hx:evP F x=.ps id ver){pk:PV}{k:α}(hy:evP F y=pk)(hk:pk.val2=some (kv k)){j b:Nat}{c:PV}(hj:kIx eqb k ks=some j)(hc:cs[j]?=some c)(hbj:bs[j]?=some b):
  PQ P W o F H (.tup [c,.u (.int .i64 (b:Nat))]):=wae λV a w hw hh=>by
 have hxv:=hh x (by rw[ho];simp[Op.operands]);have hyv:=(hh y (by rw[ho];simp[Op.operands])).val2 (by rw[hy];exact hk);rw[hx]at hxv;obtain⟨g,arr,hv,hV,hg,hb,hkeys,hR,hborn,hnd,hlt⟩:=zhe hH hw hxv;obtain⟨e,he1,he2⟩:=zgo hj;have hke:=KL.beq _ _ he2;have hjl:j<arr.toList.length:=by
  have h1:=congrArg List.length hkeys;have h2:=(wd5.1 he1).1;simp at h1⊢;omega
 obtain⟨ae,hae⟩:∃ae,arr.toList[j]?=some ae:=⟨_,wd2 hjl⟩
 have hae':arr[j]?=some ae:=by simpa using hae
 have hak:ae.key=kv k:=by
  have:(arr.toList.map (·.key))[j]?=(ks.map kv)[j]?:=by rw[hkeys]
  rw[web,web,hae,he1]at this;simp only[wer,we6]at this;rw[this,hke]
 have hab:ae.born=b:=by
  have:(arr.toList.map (·.born))[j]?=bs[j]?:=by rw[hborn]
  rw[web,hae,hbj]at this;simpa using this
 have hsame:arr.modify j (λe=>{ e with key:=kv k })=arr:=by
  apply Array.ext';rw[Array.toList_modify,Go.ChangeMaps.modify_eq_set _ _ _ _ hae];have:({ ae with key:=kv k }:MapEntry)=ae:=by rw[<- hak]
  rw[this];exact WideElems.set_self _ _ _ hae
 refine⟨.tuple #[ae.val,.int .i64 (b:Nat)],?_,?_⟩
 ·have hks:(Instr.keyThatStays (kv k) (kv k)).run P w=.ok (kv k) w:=by simp[Instr.keyThatStays,KL.bits]
  have hf:=zqt KL k w hkeys;rw[hj,wfp,hae,wer]at hf;have:(Instr.mapEntry t (.map (some g)) (kv k)).run P w=.ok (.tuple #[ae.val,goInt ae.born]) w:=by
   simp[Instr.mapEntry,run_underlying ht,MapKept.run_getObj_map hb,KL.chk,hf,hae',hak,hks,hsame,MapKept.run_setObj_map _ hb,zqd hb]
  simp only[execOp,ho,hv,hyv,Sem.run_bind,this,Result.andThen_ok,hab];rfl
 ·refine .tup _ _ rfl λi p v h1 h2=>?_
  match i,h1,h2 with
  |0,h1,h2=>
   cases h1;cases h2;exact hR.2 j c ae.val hc (by rw[web,hae];rfl)
  |1,h1,h2=>cases h1;cases h2;exact .u _
theorem zzc{V:Nat->Value}{w:World}{g:Nat}{ob:Obj}{bd:PBody}(hr:HRel P W H V w)(hH:∃bd,H id=⟨ver,some bd⟩)(hV:qc (V id)=some g)(hg:W.w.heap.size<=g):Turn W H V w id ⟨ver,some bd⟩ (V id) { w with heap:=w.heap.setIfInBounds g ob }:=by
 obtain⟨bd0,hH⟩:=hH;have hl:(H id).body.isSome=true:=by rw[hH];rfl
 have hother:∀b,b≠g->(w.heap.setIfInBounds g ob)[b]?=w.heap[b]?:=λb hne=>by simp[Ne.symm hne]
 exact⟨hr.below.trans ⟨rfl,rfl,rfl,by simp,λb hb=>hother b (by omega)⟩,by simp,λb hb hn=>hother b λe=>hn ⟨hl,by rw[e,hV]⟩,λg' hg'=> .inr ⟨hl,hg'⟩,.inr ⟨by rw[hH],rfl,hl⟩⟩
theorem wci(KL:zkd P key kv eqb)(ho:o.op=.mapEntry t x y)(hd:jo n o)(ht:P.underlying t=some (.map key elem)){zv:Value}(hz:∀w,(zeroValue elem).run P w=.ok zv w)(hH:H id=⟨ver,some (Vw (ks.map kv) bs clock cs)⟩)(hx:evP F x=.ps id ver){pk:PV}{k:α}(hy:evP F y=pk)(hk:pk.val2=some (kv k))(hj:kIx eqb k ks=none)
  (hK:K (.tup [.u zv,.u (.int .i64 (clock:Nat))]) (H.set id ⟨ver,some (Vw ((ks++[k]).map kv) (bs++[clock]) (clock+1) (cs++[.u zv]))⟩)):PE P W n o F H K:=λV a w hr=>by
 have ev:∀(x:Operand),Rp W.Z H V w (evP F x) (a.eval x):=λx=>Rp.eval (P:=P) x λt _=>hr.slot t;have hxv:=ev x;have hyv:=(ev y).val2 (by rw[hy];exact hk);rw[hx]at hxv;obtain⟨g,arr,hv,hV,hg,hb,hkeys,hR,hborn,hnd,hlt⟩:=zhe hH hr.heap hxv;have hgl:=(wew.1 hb).1;have hf:=zqt KL k w hkeys;rw[hj,Option.bind_none]at hf;have hrun:(Instr.mapEntry t (.map (some g)) (kv k)).run P w=.ok (.tuple #[zv,goInt clock]) { w with heap:=w.heap.setIfInBounds g (.map (arr.push ⟨kv k,zv,clock⟩) (clock+1)) }:=by
  simp[Instr.mapEntry,run_underlying ht,MapKept.run_getObj_map hb,KL.chk,hf,hz,MapKept.run_setObj_map _ hb]
 have hex:(execOp a.eval o).run P w=.ok (.value (.tuple #[zv,goInt clock])) { w with heap:=w.heap.setIfInBounds g (.map (arr.push ⟨kv k,zv,clock⟩) (clock+1)) }:=by
  simp only[execOp,ho,hv,hyv,Sem.run_bind,hrun,Result.andThen_ok];rfl
 have hturn:Turn W H V w id ⟨ver,some (Vw ((ks++[k]).map kv) (bs++[clock]) (clock+1) (cs++[.u zv]))⟩ (V id) { w with heap:=w.heap.setIfInBounds g (.map (arr.push ⟨kv k,zv,clock⟩) (clock+1)) }:=zzc hr.heap ⟨_,hH⟩ (by rw[hV];rfl) hg;refine yh hex ⟨_,_,yf V id (V id),hK,?_⟩;refine hr.turn hturn (λbd hbd=>?_) o.dst hd (.tup _ _ rfl λi p v h1 h2=>?_)
 ·cases hbd;refine⟨g,.map (arr.push ⟨kv k,zv,clock⟩) (clock+1),_,hV,hg,by simp[hgl],⟨arr.push ⟨kv k,zv,clock⟩,rfl,by simp[hkeys],rfl,by simp[hborn],?_,λb hb=>?_⟩,?_⟩
  ·rw[List.nodup_append];exact⟨hnd,by simp,λa ha c hc e=>by simp at hc;have:=hlt a ha;omega⟩
  ·rcases wej.1 hb with h|h
   ·have:=hlt b h;omega
   ·simp at h;omega
  ·have h1:RpL W.Z (H.set id ⟨ver,some (Vw ((ks++[k]).map kv) (bs++[clock]) (clock+1) (cs++[.u zv]))⟩) (yf V id (V id)) { w with heap:=w.heap.setIfInBounds g (.map (arr.push ⟨kv k,zv,clock⟩) (clock+1)) } cs (arr.toList.map (·.val)):=⟨hR.1,λi p v h3 h4=>hturn.rp (hR.2 i p v h3 h4)⟩
   have hval:(arr.push ⟨kv k,zv,clock⟩).toList.map (·.val)=arr.toList.map (·.val)++[zv]:=by simp
   rw[hval];refine⟨by rw[weo,weo,h1.1];rfl,λi p v h3 h4=>?_⟩;by_cases hi:i<cs.length
   ·rw[weg hi]at h3;rw[weg (by rw[<- h1.1];exact hi)]at h4;exact h1.2 i p v h3 h4
   ·rw[wei (by omega)]at h3;rw[wei (by rw[<- h1.1];omega),<- h1.1]at h4
    match hq:i-cs.length,h3,h4 with
    |0,h3,h4=>cases h3;cases h4;exact .u _
    |_+1,h3,h4=>simp at h3
 ·match i,h1,h2 with
  |0,h1,h2=>cases h1;cases h2;exact .u _
  |1,h1,h2=>cases h1;cases h2;exact .u _
theorem PE.entryStore{kvs:List Value}{s:Operand}{p:PV}{j b:Nat}(ho:o.op=.entryStore t x s y)(hd:jo n o)(hH:H id=⟨ver,some (Vw kvs bs clock cs)⟩)(hx:evP F x=.ps id ver)(hs:evP F s=.u (.int .i64 (b:Nat)))(hbj:bs[j]?=some b)(hy:evP F y=p)
  (hK:K (.u undef) (H.set id ⟨ver,some (Vw kvs bs clock (cs.set j p))⟩)):PE P W n o F H K:=λV a w hr=>by
 have ev:∀(x:Operand),Rp W.Z H V w (evP F x) (a.eval x):=λx=>Rp.eval (P:=P) x λt _=>hr.slot t;have hxv:=ev x;have hyv:=ev y;have hsv:a.eval s=.int .i64 (b:Nat):=by
  have:=ev s;rw[hs]at this;generalize a.eval s=q at this;cases this;rfl
 rw[hx]at hxv;rw[hy]at hyv;obtain⟨g,arr,hv,hV,hg,hb,hkeys,hR,hborn,hnd,hlt⟩:=zhe hH hr.heap hxv;have hgl:=(wew.1 hb).1;obtain⟨ae,hae,hab⟩:∃ae,arr.toList[j]?=some ae/\ae.born=b:=by
  have:(arr.toList.map (·.born))[j]?=some b:=by rw[hborn];exact hbj
  rw[web]at this;exact wee.1 this
 have hidx:arr.findIdx? (λe=>((e.born:Nat):Int) == ((b:Nat):Int))=some j:=by
  rw[WideElems.findIdx_arr,<- hab];exact WideElems.findIdx_born (by rw[hborn];exact hnd) hae
 have hrun:(Instr.entryStore t (.map (some g)) (.int .i64 (b:Nat)) (a.eval y)).run P w=.ok () { w with heap:=w.heap.setIfInBounds g (.map (arr.modify j λe=>{ e with val:=a.eval y }) clock) }:=by
  simp[Instr.entryStore,MapKept.run_getObj_map hb,asInt,asIntOf,hidx,MapKept.run_setObj_map _ hb,Result.andThen]
 have hex:(execOp a.eval o).run P w=.ok .skip { w with heap:=w.heap.setIfInBounds g (.map (arr.modify j λe=>{ e with val:=a.eval y }) clock) }:=by
  simp only[execOp,ho,hv,hsv,Sem.run_bind,hrun,Result.andThen_ok];rfl
 have hturn:Turn W H V w id ⟨ver,some (Vw kvs bs clock (cs.set j p))⟩ (V id) { w with heap:=w.heap.setIfInBounds g (.map (arr.modify j λe=>{ e with val:=a.eval y }) clock) }:=zzc hr.heap ⟨_,hH⟩ (by rw[hV];rfl) hg;have hmod:∀{γ:Type}(f:MapEntry->γ),(∀e v,f { e with val:=v }=f e)->(arr.modify j λe=>{ e with val:=a.eval y }).toList.map f=arr.toList.map f:=λf hf=>by
  apply wfj;intro i;simp only[Array.toList_modify,web,List.getElem?_modify];cases arr.toList[i]? with
  |none=>rfl
  |some e=>
   simp only[wer];by_cases e2:j=i
   ·simp[e2,hf]
   ·simp[e2]
 unfold Oper.wp;rw[hex];refine⟨.u undef,_,yf V id (V id),hK,hr.turn hturn (λbd hbd=>?_) o.dst hd (.u _)⟩;cases hbd;refine⟨g,.map (arr.modify j λe=>{ e with val:=a.eval y }) clock,_,hV,hg,by simp[hgl],⟨_,rfl,by rw[hmod _ λ_ _=>rfl];exact hkeys,rfl,by rw[hmod _ λ_ _=>rfl];exact hborn,hnd,hlt⟩,?_⟩;refine⟨by rw[wfz,hR.1];simp,λi q v h3 h4=>?_⟩;simp only[Array.toList_modify,web,List.getElem?_modify]at h4;rw[wev]at h3;by_cases e2:j=i
 ·subst e2;rw[hae]at h4;have h4:a.eval y=v:=by simpa using h4
  simp only[if_true]at h3;split at h3
  ·cases h3;subst h4;exact hturn.rp hyv
  ·cases h3
 ·rw[if_neg e2]at h3;have h5:(arr.toList.map (·.val))[i]?=some v:=by
   rw[web];cases ha:arr.toList[i]? with
   |none=>rw[ha]at h4;simp at h4
   |some e=>rw[ha]at h4;simpa [e2]using h4
  exact hturn.rp (hR.2 i q v h3 h5)
theorem wdb(KL:zkd P key kv eqb)(ho:o.op=.lookup t x y false)(ht:P.underlying t=some (.map key elem))(hH:H id=⟨ver,some (Vw (ks.map kv) bs clock cs)⟩)(hx:evP F x=.ps id ver){pk:PV}{k:α}(hy:evP F y=pk)(hk:pk.val2=some (kv k)){j:Nat}{c:PV}(hj:kIx eqb k ks=some j)(hc:cs[j]?=some c):
  PQ P W o F H c:=wae λV a w hw hh=>by
 have hxv:=hh x (by rw[ho];simp[Op.operands]);have hyv:=(hh y (by rw[ho];simp[Op.operands])).val2 (by rw[hy];exact hk);rw[hx]at hxv;obtain⟨g,arr,hv,hV,hg,hb,hkeys,hR,hborn,hnd,hlt⟩:=zhe hH hw hxv;obtain⟨e,he1,he2⟩:=zgo hj;have hjl:j<arr.toList.length:=by
  have h1:=congrArg List.length hkeys;have h2:=(wd5.1 he1).1;simp at h1⊢;omega
 obtain⟨ae,hae⟩:∃ae,arr.toList[j]?=some ae:=⟨_,wd2 hjl⟩
 have hf:=zqt KL k w hkeys;rw[hj,wfp,hae,wer]at hf;refine⟨ae.val,?_,hR.2 j c ae.val hc (by rw[web,hae];rfl)⟩;have:(Instr.lookup t (.map (some g)) (kv k) false).run P w=.ok ae.val w:=by
  simp[Instr.lookup,run_underlying ht,MapKept.run_getObj_map hb,KL.chk,hf]
 simp only[execOp,ho,hv,hyv,Sem.run_bind,this,Result.andThen_ok];rfl
theorem wcg{kvs:List Value}{r d:Nat}(ho:o.op=.range t x)(hd:o.dst=some d)(hdn:d<n)(ht:P.underlying t=some (.map key elem))(hne:id≠r)(hH:H id=⟨ver,some (Vw kvs bs clock cs)⟩)(hx:evP F x=.ps id ver)
  (hK:K (.ps r ((H r).ver+1)) (H.set r ⟨(H r).ver+1,some (itB id ver clock #[] clock)⟩)):PE P W n o F H K:=λV a w hr=>by
 have hxv:=Rp.eval (P:=P) (F:=F) (a:=a) (Z:=W.Z) (H:=H) (V:=V) (w:=w) x λt _=>hr.slot t;have hxs:=hxv;rw[hx]at hxv hxs;obtain⟨g,arr,hv,hV,hg,hb,hkeys,hR,hborn,hnd,hlt⟩:=zhe hH hr.heap hxv;have hex:(execOp a.eval o).run P w=.ok (.value (.pointer (some ⟨w.heap.size,0,none⟩))) (w.alloc (.mapIter (some g) clock #[] clock)):=by
  simp only[execOp,ho,hv,Sem.run_bind,run_range_map w t key elem g arr clock ht hb,Result.andThen_ok];rfl
 refine yh hex ⟨_,_,yf V r (.pointer (some ⟨w.heap.size,0,none⟩)),hK,?_⟩;have hbl:Below w.heap.size w (w.alloc (.mapIter (some g) clock #[] clock)):=(Below.refl _ _).alloc (weh _) _;have hturn:Turn W H V w r ⟨(H r).ver+1,some (itB id ver clock #[] clock)⟩ (.pointer (some ⟨w.heap.size,0,none⟩)) (w.alloc (.mapIter (some g) clock #[] clock)):=wa6 hr.heap hbl rfl λg hg=>by cases hg;exact weh _
 refine hr.turn hturn (λbd hbd=>?_) o.dst (λt ht=>by rw[hd]at ht;cases ht;exact hdn) ?_
 ·cases hbd;refine⟨w.heap.size,_,[.map (some g)],rfl,hr.heap.below.size,heap_alloc_new w _,⟨g,rfl,rfl⟩,rfl,λi p v h1 h2=>?_⟩
  match i,h1,h2 with
  |0,h1,h2=>
   cases h1;cases h2;have:=hturn.rp hxs;rwa [hv]at this
 ·refine .ps _ _ _ ?_ λ_ _=>?_
  ·simp[PHeap.set]
  ·simp[yf]
theorem jfu{r vr since st:Nat}{seen:Array Nat}{kvs:List Value}{V:Nat->Value}{w:World}{v:Value}(hH:H id=⟨ver,some (Vw kvs bs clock cs)⟩)(hHr:H r=⟨vr,some (itB id ver since seen st)⟩)(hr:HRel P W H V w)(hv:Rp W.Z H V w (.ps r vr) v):
  ∃gr g arr,v=.pointer (some ⟨gr,0,none⟩)/\V r=.pointer (some ⟨gr,0,none⟩)/\W.w.heap.size<=gr/\w.heap[gr]?=some (.mapIter (some g) since seen st)/\Rp W.Z H V w (.ps id ver) (.map (some g))/\w.heap[g]?=some (.map arr clock)/\arr.toList.map (·.key)=kvs/\RpL W.Z H V w cs (arr.toList.map (·.val))/\arr.toList.map (·.born)=bs/\bs.Nodup/\∀b∈bs,b<clock:=by
 obtain⟨gr,o,vs,e,hg,hh,⟨b,rfl,rfl⟩,hR⟩:=hr.map r true _ _ (by rw[hHr];rfl);have hm:=hR.2 0 _ _ rfl rfl;obtain⟨g,arr,hv2,hV,hg2,hb,hrest⟩:=zhe hH hr hm;cases hv2;cases hv with
 |ps _ _ _ hvv hq=>
  have:=hq (by rw[hHr];rfl) (by rw[hHr]);exact⟨gr,_,arr,by rw[this,e];rfl,e,hg,hh,hm,hb,hrest⟩
theorem wcx{r vr:Nat}{seen:Array Nat}{kvs:List Value}(ho:o.op=.next x false)(hd:jo n o)(hH:H id=⟨ver,some (Vw kvs bs clock cs)⟩)(hHr:H r=⟨vr,some (itB id ver clock seen clock)⟩)(hx:evP F x=.ps r vr)
  (h0:(∀b∈bs,seen.contains b=true)->K (.tup [.u (.bool false)]) H)
  (h1:∀(j b:Nat)(c:PV)(k:Value),bs[j]?=some b->cs[j]?=some c->kvs[j]?=some k->seen.contains b=false->K (.tup [.u (.bool true),ofV k,c]) (H.set r ⟨vr,some (itB id ver clock (seen.push b) clock)⟩)):PE P W n o F H K:=λV a w hr=>by
 have hxv:=Rp.eval (P:=P) (F:=F) (a:=a) (Z:=W.Z) (H:=H) (V:=V) (w:=w) x λt _=>hr.slot t;rw[hx]at hxv;obtain⟨gr,g,arr,hv,hV,hgr,hbr,hm,hb,hkeys,hR,hborn,hnd,hlt⟩:=jfu hH hHr hr.heap hxv;have hgl:=(wew.1 hbr).1;have hold:∀x∈arr.toList,x.born<clock:=λx hx=>hlt _ (by rw[<- hborn];exact wef.2 ⟨x,hx,rfl⟩);rcases run_next_at (P:=P) w o.type gr g clock clock seen arr clock hbr hb hold (weh _)with⟨hs,hrun⟩|⟨e,he,w1,hw1,hrun⟩
 ·have hex:(execOp a.eval o).run P w=.ok (.value (.tuple #[.bool false])) w:=by
   simp only[execOp,ho,hv,Sem.run_bind,hrun,Result.andThen_ok];rfl
  refine yh hex ⟨_,_,V,h0 λb hb=>?_,hr.put (Below.refl _ _) o.dst hd (.tup _ _ rfl λi p v h1 h2=>?_)⟩
  ·rw[<- hborn]at hb;obtain⟨x,hx,rfl⟩:=wef.1 hb;exact all_seen arr seen hs x hx
  ·match i,h1,h2 with
   |0,h1,h2=>cases h1;cases h2;exact .u _
 ·obtain⟨hea,hes⟩:=mem_left he;obtain⟨j,hj⟩:=wes hea;have hkj:kvs[j]?=some e.key:=by rw[<- hkeys,web,hj];rfl
  have hbj:bs[j]?=some e.born:=by rw[<- hborn,web,hj];rfl
  have hvj:(arr.toList.map (·.val))[j]?=some e.val:=by rw[web,hj];rfl
  obtain⟨c,hcj⟩:∃c,cs[j]?=some c:=⟨_,wd2 (by rw[hR.1];exact(wd5.1 hvj).1)⟩
  have hex:(execOp a.eval o).run P w=.ok (.value (.tuple #[.bool true,e.key,e.val])) (Go.ChangeMaps.setBlock w1 gr (.mapIter (some g) clock (seen.push e.born) clock)):=by
   simp only[execOp,ho,hv,Sem.run_bind,hrun,Result.andThen_ok];rfl
  have hw1h:w1.heap=w.heap:=by rcases hw1 with rfl|rfl<;>rfl
  have hw1b:∀{B:Nat}{a:World},Below B a w->Below B a w1:=λ{B a}h=>by rcases hw1 with rfl|rfl;exact h;exact h.trans ⟨rfl,rfl,rfl,weh _,λ_ _=>rfl⟩
  have hl:(H r).body.isSome=true:=by rw[hHr];rfl
  have hother:∀b,b≠gr->(Go.ChangeMaps.setBlock w1 gr (.mapIter (some g) clock (seen.push e.born) clock)).heap[b]?=w.heap[b]?:=λb hne=>by
   unfold Go.ChangeMaps.setBlock;simp only[hw1h];simp[Ne.symm hne]
  have hturn:Turn W H V w r ⟨vr,some (itB id ver clock (seen.push e.born) clock)⟩ (V r) (Go.ChangeMaps.setBlock w1 gr (.mapIter (some g) clock (seen.push e.born) clock)):=
   ⟨(hw1b hr.heap.below).trans ⟨rfl,rfl,rfl,by simp[Go.ChangeMaps.setBlock],λb hb=>by rw[hother b (by omega),hw1h]⟩,by simp[Go.ChangeMaps.setBlock,hw1h],λb hb hn=>hother b λe=>hn ⟨hl,by rw[e,hV];rfl⟩,λg' hg'=> .inr ⟨hl,hg'⟩,.inr ⟨by rw[hHr],rfl,hl⟩⟩
  refine yh hex ⟨_,_,yf V r (V r),h1 j e.born c e.key hbj hcj hkj hes,?_⟩;refine hr.turn hturn (λbd hbd=>?_) o.dst hd (.tup _ _ rfl λi p v h1 h2=>?_)
  ·cases hbd;refine⟨gr,.mapIter (some g) clock (seen.push e.born) clock,[.map (some g)],hV,hgr,by simp[Go.ChangeMaps.setBlock,hw1h,hgl],⟨g,rfl,rfl⟩,rfl,λi p v h3 h4=>?_⟩
   match i,h3,h4 with
   |0,h3,h4=>cases h3;cases h4;exact hturn.rp hm
  ·match i,h1,h2 with
   |0,h1,h2=>cases h1;cases h2;exact .u _
   |1,h1,h2=>cases h1;cases h2;exact Rp.ofV _ _ _ _ _
   |2,h1,h2=>cases h1;cases h2;exact hturn.rp (hR.2 j c e.val hcj hvj)
theorem wce{r vr j b:Nat}{seen:Array Nat}{kvs:List Value}{c:PV}{k:Value}(ho:o.op=.entry x)(hH:H id=⟨ver,some (Vw kvs bs clock cs)⟩)(hHr:H r=⟨vr,some (itB id ver clock (seen.push b) clock)⟩)(hx:evP F x=.ps r vr)(hb:bs[j]?=some b)(hc:cs[j]?=some c)(hk:kvs[j]?=some k):PQ P W o F H (.tup [ofV k,c]):=wae λV a w hw hh=>by
 have hxv:=hh x (by rw[ho];simp[Op.operands]);rw[hx]at hxv;obtain⟨gr,g,arr,hv,hV,hgr,hbr,hm,hbm,hkeys,hR,hborn,hnd,hlt⟩:=jfu hH hHr hw hxv;obtain⟨e,hj,heb⟩:∃e,arr.toList[j]?=some e/\e.born=b:=by
  rw[<- hborn,web]at hb;exact wee.1 hb
 subst heb;have hkj:e.key=k:=by rw[<- hkeys,web,hj]at hk;simpa using hk
 have hrun:=run_entry_at (P:=P) w gr g clock seen arr clock e hbr hbm (wd7 hj) (by rw[hborn];exact hnd);refine⟨.tuple #[e.key,e.val],?_,.tup _ _ rfl λi p v h1 h2=>?_⟩
 ·simp only[execOp,ho,hv,Sem.run_bind,hrun,Result.andThen_ok];rfl
 ·match i,h1,h2 with
  |0,h1,h2=>cases h1;cases h2;rw[hkj];exact Rp.ofV _ _ _ _ _
  |1,h1,h2=>cases h1;cases h2;exact hR.2 j c e.val hc (by rw[web,hj];rfl)
end
end Go.Proofs.YtdllbdlnmjngcaaGreat.L
