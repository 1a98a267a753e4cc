import Derived.Defers
import Derived.Laws.Pointers
import Derived.Laws.LoneSync
import Derived.ProofKit
import Derived.OpenShut
import Derived.Deep.Slices
import Derived.SizedLaws
import Derived.LaidMore
import Derived.Stop.Joined
import Derived.RegionTactic
import Derived.RegionCalls
import Derived.ChangeAlike
import Derived.Tactics
import Derived.Tactics2
import Derived.RangeFuncNested
import Derived.RangeFuncBound
import Derived.RangeFuncCalls
import Derived.RangeFuncLeaves
import Derived.Shelf.Abstract
import Derived.Shelf.RegionOpen
import Derived.OwnWalkIn
import Derived.TacticsInMore
import Derived.LoopNIn
import Derived.LoopIn
import Derived.Maps.AppendAt
import Derived.Sort.LoopGhostIn
import Derived.Laws.DeepStrings4
import Derived.Test.YtiafpechgjopfaaGreatDoorQ2TouchCuts

namespace Go.Proofs.YtiafpechgjopfaaGreatDoor.T
noncomputable section
open _root_.Go.Proofs.Tryz
set_option maxRecDepth 100000
set_option maxHeartbeats 8000000
set_option linter.unusedVariables false
set_option linter.unusedSimpArgs false
set_option linter.defProp false
open List (replicate range)
open Go Go.RowKit L
def zrh{α:Type}(l:List α)(z:Int):Option Nat:=match decide (0<=z) && decide (z<=l.length)with
 |true=>some z.toNat
 |false=>none
def sSlF(es:Option Nat)(G:EG)(x y:TS):Option SR:=match x with
 |.own id a=>match Nat.beq (G id).ver a with
  |true=>match (G id).b with
   |some (.row _ t l)=>match oeq es (some (wid t))with
    |true=>yl (zgy y) λz=>some (.dat Nat (zrh l z) (λj=> .q id (wid t) j a) [id])
    |false=>none
   |_=>none
  |false=>none
 |_=>none
def jrx{α:Type}(a b:List α):Option (Int×List α):=some (((min a.length b.length:Nat):Int),b.take a.length++a.drop b.length)
def sCpy(es:Option Nat)(G:EG)(x y:TS):Option SR:=match x with
 |.own id a=>match Nat.beq (G id).ver a with
  |true=>match (G id).b with
   |some (.row c t l)=>match oeq es (some 1) && (Nat.beq (wid t) 1 && zhz t)with
    |true=>match jc9 t G y with
     |some r=>some ⟨Int×List t.D,false,jrx l r.1,λy=> .v ⟨.int .i64,y.1⟩,λy=>[(id,⟨a,some (.row c t y.2)⟩)],r.2,[id],[]⟩
     |none=>none
    |false=>none
   |_=>none
  |false=>none
 |_=>none
def b2s(l:List Int):Option (List UInt8):=some (l.map λn=>UInt8.ofNat n.toNat)
def idOf:TS->List Nat
 |.own id _=>[id]
 |_=>[]
def sB2S(G:EG)(x:TS):Option SR:=match Qu (zb8 (idOf x) G) (.sl (.int .u8)) x with
 |some l=>some (.dat (List UInt8) (b2s l) (λy=> .v ⟨.str,y⟩) (idOf x))
 |none=>none
section
variable{P:Program}{W:Env}{n:Nat}{o:Oper}{E:EF}{F:PFrame}{H:PHeap}{G:EG}
def jvo{t:Wap}{x y:War}{q:SR}(i:o.op=.slice t x (some y) none none)(h:sSlF (esz P t) G (evE E x) (evE E y)=some q):SOk P o E G q:=by
 have n:x∈o.op.operands:=Wak i;have p:y∈o.op.operands:=Wak i;unfold sSlF at h;split at h<;>try (cases h;done)
 rename_i id w u;split at h<;>try (cases h;done)
 rename_i k;have k:=ql k;split at h<;>try (cases h;done)
 rename_i r ty l s;split at h<;>try (cases h;done)
 rename_i c;have c:=zjt c;obtain⟨z,hz,h⟩:=jz h;cases h;obtain⟨D,g⟩:=Zp hz;refine SOk.dat λj f W F H a=>?_;unfold zrh at f;split at f<;>cases f;rename_i d;simp[wco,wc9]at d;simp[TS.den];refine wbb i c (by rw[a.ev n,u];rfl) (e:=r) (m:=l.length) (cs:=l.flatMap (jp ty)) ?_ (by rw[a.ev p,g]) d.1 U;obtain⟨A,B⟩:=Jw (Js (a.h id V) s rfl k);cases C:H (.o id)with|mk v b=>grind
def z27(w:Wao)(f k ty a:Wap)(e g:Wal Addr)(b c jgz d:Nat)(j:P.underlying f=some (.slice a))(l:((P.info? a).map (·.size)).isSome=true)(h0:Nat.min jgz b=0):
  (Builtin.copy_ #[f,k] ty #[.slice e b c,.slice g jgz d]).run P w=.ok (goInt 0) w:=by
 cases h:P.info? a with
 |none=>grind
 |some i=>
  cases g<;>cases e<;>simp[Builtin.copy_,run_underlying j,Builtin.lenOf,Builtin.firstCells,sizeOf,typeInfo,h,storeCells,h0,loadCells,loadCellsFrom]
theorem wcd{t t' e:TypeId}{x y:Operand}{id:Nm}{ver m m2:Nat}{cs cs2:List PV}{K:PV->PHeap->Prop}(ho:o.op=.call { callee :=.builtin .copy,args:=#[x,y],argTypes:=#[t,t'] })(hdo:Zc n o)(hu:P.underlying t=some (.slice e))(hs:(P.info? e).map (·.size)=some 1)
  {te:TypeId}(hx:evP F x=.ps id ver) (hl:J6 H id ver=some (te,1,m,cs)) (hy:zxu H 1 (evP F y)=some (m2,cs2)) (hc2:cs2.length=m2) (hcs:cs.length=m) (hleaf:∀p∈cs2,V4 H p=true)
  (hk:K (.u (.int .i64 (min m m2:Nat))) (H.set id ⟨ver,some (.row te 1 m (cs2.take m++cs.drop m2))⟩)):PE P W n o F H K:=by
 obtain⟨hb,hve⟩:=Jw hl;by_cases h0:Nat.min m2 m=0
 ·have hq:PQ P W o F H (.u (.int .i64 (min m m2:Nat))):=waf λV a w hr hh=>by
   obtain⟨vals,hown,hR,h1⟩:=hr.row id _ _ _ _ hb;have hxv:=hh x (by rw[ho];simp[Op.operands,Call.operands]);have hyv:=hh y (by rw[ho];simp[Op.operands,Call.operands]);rw[hx]at hxv;obtain⟨ad,c,hyv,_⟩:=zlg hr hyv hy;have exv:a.eval x=V id:=by
    generalize a.eval x=q at hxv;cases hxv with
    |ps _ _ _ hvv hh=>grind
   have hVs:∃ad cc,V id=.slice ad m cc:=by
    rcases hown.2 with⟨e1,e0⟩|⟨g,cap,cur,e1,_⟩
    ·grind
    grind
   obtain⟨ad2,cc,hV⟩:=hVs;refine⟨goInt 0,?_,?_⟩
   ·unfold execOp;simp[ho,resolve,invoke,builtin,Sem.run_bind,Sem.run_pure,Result.andThen_ok,wfh,wc7,wea,exv,hV,hyv,z27 w t t' o.type e ad2 ad m cc m2 c hu (by grind) h0]
   ·have:min m m2=0:=by grind
    rw[this];exact .u _
  refine waw hdo hq ?_;have e:H.set id ⟨ver,some (.row te 1 m (cs2.take m++cs.drop m2))⟩=H:=by
   funext j;unfold PHeap.set;split
   ·rename_i hj;subst hj;have e2:cs2.take m++cs.drop m2=cs:=by
     grind
    rw[e2];cases hH:H j with
    |mk v b=>grind
   rfl
  grind
 ·have hm0:m≠0:=λe=>h0 (by grind);have hm20:m2≠0:=λe=>h0 (by grind);intro V a w hr;obtain⟨vals,hown,hR,h1⟩:=hr.heap.row id _ _ _ _ hb;have hxv:a.eval x=V id:=by
   have:=Rp.eval (P:=P) x λt _=>hr.slot t;rw[hx]at this;generalize a.eval x=q at this;cases this with
   |ps _ _ _ hvv hh=>grind
  obtain⟨ad,c,hyv,hsrc⟩:=zlg hr.heap (Rp.eval (P:=P) y λt _=>hr.slot t) hy;rcases hsrc with⟨h0,_⟩|⟨ba,news,rfl,hnl,hRn,hcell⟩
  ·omega
  rcases hown.2 with⟨e1,h0⟩|⟨g,cap,cur,e1,hbg,hgh,hcap,hcm,hcsz,htake⟩
  ·omega
  have hnl':news.length=m2:=by omega
  have hvl:vals.length=m:=by grind
  have hone:∀u∈news,u.oneCell'=true:=λu hu=>by
   obtain⟨j,hj,rfl⟩:=wei hu;have hj2:j<cs2.length:=by omega
   exact(hRn.2 j _ _ (wch hj2) (wch hj)).leaf hr.heap (hleaf _ (wcm _))
  have hrun:=run_copy_row (P:=P) w t t' o.type e g 0 m cap ba m2 c cur te (news.take m) hu hs hgh (by grind) (λj v hj=>hcell j v (by
   grind)) (by grind) (λv hv=>hone v (wfd hv))
  have hex:(execOp a.eval o).run P w=.ok (.value (goInt (news.take m).length)) (w.setRow g (cur.toList.take 0++news.take m++cur.toList.drop (0+(news.take m).length)).toArray):=by
   unfold execOp;simp[ho,resolve,invoke,builtin,Sem.run_bind,Sem.run_pure,Result.andThen_ok,wfh,wc7,wea,hxv,hyv,e1,hrun]
  have hcn:(news.take m).length=min m m2:=by grind
  have hgi:goInt (news.take m).length=.int .i64 (min m m2:Nat):=by rw[hcn];rfl
  have hown':(w.setRow g (cur.toList.take 0++news.take m++cur.toList.drop (0+(news.take m).length)).toArray).ownsRow W.w.heap.size te 1 (V id) m (news.take m++vals.drop m2):=by
   refine⟨by grind,.inr ⟨g,cap,_,e1,hbg,setRow_heap w g cur _ te _ hgh,hcap,hcm,?_,?_⟩⟩
   ·grind
   ·have hdrop:vals.drop m2=(cur.toList.take m).drop m2:=by grind
    rw[hdrop,Nat.mul_one];simp[List.take_zero,web,wd0,hcn];apply wd1;intro j;rw[wes]
    grind
  have hgr:w.grownBy (w.setRow g (cur.toList.take 0++news.take m++cur.toList.drop (0+(news.take m).length)).toArray) (some g):=⟨rfl,rfl,rfl,by simp,λk _ hk=>setRow_other w g k _ (λe=>hk (by rw[e]))⟩
  have hblk:qc (V id)=some g:=by rw[e1];rfl
  have hturn:Turn W H V w id ⟨ver,some (.row te 1 m (cs2.take m++cs.drop m2))⟩ (V id) (w.setRow g (cur.toList.take 0++news.take m++cur.toList.drop (0+(news.take m).length)).toArray):=by
   refine⟨hr.heap.below.grown hgr hr.heap.below.size λkk hk=>by grind,hgr.size,λbb hlt hn=>hgr.block bb hlt λe'=>hn ⟨by grind,by grind⟩,λg' hg'=> .inr ⟨by grind,hg'⟩,.inr ⟨hve.symm,rfl,by grind⟩⟩
  refine zh hex ⟨_,_,zo V id (V id),hk,?_⟩;rw[hgi];refine hr.turn hturn (λbd hbd=>?_) o.dst hdo (.u _);cases hbd;refine⟨_,hown',⟨?_,λj p u h3 h4=>?_⟩,λu hu=>?_⟩
  ·grind
  ·by_cases hj:j<min m m2
   ·rw[wcx (by grind),wes,if_pos (by omega)]at h3;rw[wcx (by omega),wes,if_pos (by omega)]at h4;exact hturn.rp (hRn.2 j p u h3 h4)
   ·rw[wcz (by grind),List.getElem?_drop]at h3;rw[wcz (by omega),List.getElem?_drop,hcn]at h4;have e3:m2+(j-(cs2.take m).length)=m2+(j-min m m2):=by grind
    rw[e3]at h3;exact hturn.rp (hR.2 _ p u h3 h4)
  grind
theorem jvs{t Y:TypeId}{x y:Operand}{q:SR}(p:o.op=.call { callee :=.builtin .copy,args:=#[x,y],argTypes:=#[t,Y] })(h:sCpy (esz P t) G (evE E x) (evE E y)=some q):SOk P o E G q:=by
 have u:x∈o.op.operands:=by rw[p];simp[Op.operands,Call.operands]
 have v:y∈o.op.operands:=by rw[p];simp[Op.operands,Call.operands]
 unfold sCpy at h;split at h<;>try (cases h;done)
 rename_i id J T;split at h<;>try (cases h;done)
 rename_i s;have s:=ql s;split at h<;>try (cases h;done)
 rename_i Z ty l L;split at h<;>try (cases h;done)
 rename_i d;simp only[wco]at d;have g:=zjt d.1;have f:=ql d.2.1;split at h<;>cases h;rename_i r O;refine⟨λ_=>rfl,λz hz W n F H N M I w=>?_⟩;cases hz;have b:Agr o E G r.2 F H:=⟨I,λi k=>w i (.inl k)⟩
 have m:=w id (.inr (by simp));obtain⟨e,ti,S,Q,R⟩:=zgx g;have c:∀l:List ty.D,(l.flatMap (jp ty)).length=l.length:=λl=>by rw[J4 _ (wid ty) _ λx _=>ju ty x,f,Nat.mul_one]
 have A:=zms O f λi k=>b.h i k;refine wcd p M S (by grind) (by rw[b.ev u,T];rfl) (by rw[Js m.1 L rfl s,f]) (by rw[b.ev v];omega) (c _) (c _) (zf9 d.2.2 _) ⟨by rfl,?_⟩;have B:(r.1.flatMap (jp ty)).take l.length++(l.flatMap (jp ty)).drop r.1.length=(r.1.take l.length++l.drop r.1.length).flatMap (jp ty):=by
  have ht:∀(a:List ty.D)j,(a.flatMap (jp ty)).take j=(a.take j).flatMap (jp ty)/\(a.flatMap (jp ty)).drop j=(a.drop j).flatMap (jp ty):=λa j=>by
   have e3:a.flatMap (jp ty)=(a.take j).flatMap (jp ty)++(a.drop j).flatMap (jp ty):=by rw[<- wer,wd2]
   by_cases hj:j<=a.length
   ·grind
   ·rw[wd8 (by grind),we8 (by grind),wd8 (by omega),we8 (by omega)];simp
  grind
 have C:(r.1.take l.length++l.drop r.1.length).length=l.length:=by grind
 show _=H.set (.o id) (vz id _);simp[vz,wc5,BD.den,B,C,f]
def jv2{Z:ZM}{V:Nm->Wan}{w:Wao}{t g e:Wap}{l:Wam Int}{v:Wan}(s:P.underlying t=some (.slice e))(n:P.underlying e=some (.int .u8))(m:P.underlying g=some .string)(h:Rp Z H V w (.sl 1 (l.map λz=>PV.u (.int .u8 z))) v):(convert t g v).run P w=.ok (.string (strOfNums l)) w:=by generalize f:(l.map λz=>PV.u (.int .u8 z))=us at h;cases h with|nil k a c=>{have:=List.map_eq_nil_iff.1 f;subst this;cases a<;>simp[convert,run_underlying s,run_underlying m,run_underlying n,Conv.bytesToString,loadCells,loadCellsFrom,strOfNums]<;>rfl}|sl k us b o c x F p hz C y A=>subst f;have B:(l.map λz=>PV.u (.int .u8 z)).flatMap PV.cells=l.map λz=>PV.u (.int .u8 z):=flat1 (λv=>rfl) l;have d:∀i,i<l.length->w.cell? ⟨b,o+i,none⟩=some (.int .u8 (l.getD i 0)):=λi D=>by{have r:((l.map λz=>PV.u (.int .u8 z)).flatMap PV.cells)[i]?=some (PV.u (.int .u8 l[i])):=X;have j:=A i _ r;rw[y i _ r];generalize x i=q at j;cases j;grind};have:=run_convert_bytes_arg w t e s n b o l.length c l rfl d g m;grind
def jub{t g e:Wap}{x:War}{q:SR}(f:o.op=.convert t g x)(p:P.underlying t=some (.slice e))(j:P.underlying e=some (.int .u8))(i:P.underlying g=some .string)(h:sB2S G (evE E x)=some q):SOk P o E G q:=by have c:x∈o.op.operands:=Wak f;unfold sB2S at h;split at h<;>cases h;rename_i l m;refine SOk.dat λz hz W F H b=>waf λV a w n k=>?_;cases hz;have d:=k x c;rw[b.ev c]at d;have r:=(Zq (zmk b.hn) _ _ _ m).1 P W V w n _ d;have:=jv2 p j i r;refine⟨.string (strOfNums l),?_,?_⟩;{simp only[execOp,f,Sem.run_bind,this,Result.andThen_ok];rfl};.simp[TS.den];exact .u _
end
def z8o{α:Type}(o:Wal α):ja o (λx=>some x)=o:=by cases o<;>rfl
def zjn{P:Waq}{f:Wat}{t:Ty}{e:Wap}{b:Nat}{g:Wam t.D->Wal (Wam t.D)}(F:zpq P f [.sl t] e t g)(z:∀x r,g (x::r)=apO b [] (x::r))
  (O:∀c w,Calls P f #[.slice none 0 c] w λn d=>n=.returned (.slice none 0 0)/\d=w)
  (hz:∀a c w,Calls P f #[.slice (some a) 0 c] w λn d=>∃j,n=.returned j/\d.ownsRow w.heap.size e (wid t) j 0 []/\Below w.heap.size w d):zpq P f [.sl t] e t (λx=>apO b [] x):=by
 refine⟨F.1,λx r h=>?_⟩;cases x with
 |cons y l=>exact F.2 (y::l) r ((z y l).trans h)
 |nil=>
  obtain⟨_,_,rfl⟩:=za1 h;intro Z w vs _ M N L;obtain⟨v,rfl,Q⟩:=z72 L;have fin:∀{j:Wan}{d:Wao},d.ownsRow Z.m e (wid t) j 0 []->(∀g,qc j=some g->¬PZ Z PHeap.empty V0 g)->∃p,p=PV.fr e (wid t) (([]:Wam t.D).map (enc t))/\NoP p/\Rp Z PHeap.empty V0 d p j:=λs q=>
   ⟨_,rfl,.fr _ _ _ λc Y=>X,.fr e (wid t) [] _ [] (λy R=>by cases R) s q (λu H=>by cases H) λi p u J=>V⟩
  have zero:∀a c,v=.slice (some a) 0 c->Calls P f [v].toArray w (λn d=>∃v p,n=.returned v/\p=PV.fr e (wid t) (([]++[]:Wam t.D).map (enc t))/\NoP p/\Rp Z PHeap.empty V0 d p v/\Below w.heap.size w d):=λa c ev=>by
   subst ev;refine(hz a c w).mono λn d⟨j,s,q,I⟩=>?_;obtain⟨p,A,B,C⟩:=fin (Q5 q N λ_ _ _=>rfl) λg z hz=>by
    have:=(Zu q z).1;have:=M g (J9.1 hz);omega
   exact⟨j,p,s,A,B,C,I⟩
  cases Q with
  |nil k a c=>
   cases a with
   |some a=>exact zero a c rfl
   |none=>
    refine(O c w).mono λn d⟨s,q⟩=>?_;subst q;obtain⟨p,A,B,C⟩:=fin ⟨V,.inl ⟨rfl,rfl⟩⟩ λg z=>by cases z
    exact⟨_,p,s,A,B,C,Below.refl _ _⟩
  |sl k xs b o c g H G S T s q=>grind
def sUg(P:Program)(o:Oper)(E:EF)(G:EG):Option SR:=match o.op with
 |.slice t x (some y) none none=>sSlF (esz P t) G (evE E x) (evE E y)
 |.call ⟨.builtin .copy,⟨[x,y]⟩,⟨[t,_]⟩⟩=>sCpy (esz P t) G (evE E x) (evE E y)
 |.convert t a x=>match P.underlying t with
  |some (.slice e)=>match zpp P e with
   |some .u8=>match zek P a with
    |true=>sB2S G (evE E x)
    |false=>none
   |_=>none
  |_=>none
 |_=>none
def sUg_ok{P:Waq}{o:Oper}{E:EF}{G:EG}{q:SR}(h:sUg P o E G=some q):SOk P o E G q:=by unfold sUg at h;(split at h<;>try (cases h;done));{rename_i a;exact jvo a h};{rename_i a;exact jvs a h};.rename_i a;(split at h<;>try (cases h;done));rename_i d;(split at h<;>try (cases h;done));rename_i c;(split at h<;>try (cases h;done));rename_i b;refine jub a d (zop c) ?_ h;unfold zek at b;grind
def jmq(e:TypeId->Option KY)(d:Nat->Prm)(fz:Nat->Nat->List (Nat×Ty))(fr:Nat->Nat->Bool)(T:FuncId->Option FF):Sy1:=λb c a o E G=>match sUg Tryz.prog o E G with
 |some q=>some q
 |none=>jod e d fz fr T b c a o E G
def jn0{j:Wap->Wal KY}(g:z24 Tryz.prog j){a:Nat->Prm}{fz:Nat->Nat->Wam (Nat×Ty)}{fr:Nat->Nat->Bool}{T:Wat->Wal FF}(l:zdr Tryz.prog T)(k:∀c,Y4 Tryz.prog (a c).S)(i:∀c,zh8 Tryz.prog (a c).zt)(e:∀c,zh8 Tryz.prog (a c).zt2):∀d f b o E G q,jmq j a fz fr T d f b o E G=some q->SOk Tryz.prog o E G q:=λd f b o E G q h=>by unfold jmq at h;split at h;{rename_i n m;cases h;exact sUg_ok m};.exact jnr g l k i e _ _ _ _ _ _ _ h
def vS(σ:Nm->Option Nm)(V:Nm->Value):Nm->Value:=λk=>match σ k with
 |some i=>V i
 |none => .slice none 0 0
inductive CR(H H2:PHeap)(σ:Nm->Option Nm):PV->PV->Prop
 |keep {p:PV}(hp:Fl p):CR H H2 σ p p
 |nm {j k:Nm}{v1 v2:Nat}(hσ:σ k=some j) (h1:(H2 k).body.isSome=true->(H j).body.isSome=true/\(H j).ver=v1) (h2:v2<=(H2 k).ver):CR H H2 σ (.ps j v1) (.ps k v2)
 |nil {k:Nm}{v2:Nat}(hσ:σ k=none) (h2:v2<=(H2 k).ver):CR H H2 σ (.u (.slice none 0 0)) (.ps k v2)
 |unk {p:PV}:CR H H2 σ p .unk
 |tup {xs ys:List PV}(hl:xs.length=ys.length) (h:∀(i:Nat)(p q:PV),xs[i]?=some p->ys[i]?=some q->CR H H2 σ p q):CR H H2 σ (.tup xs) (.tup ys)
def CRL(H H2:PHeap)(σ:Nm->Option Nm)(cs ds:List PV):Prop:=cs.length=ds.length/\∀(i:Nat)(p q:PV),cs[i]?=some p->ds[i]?=some q->CR H H2 σ p q
def Of(ids:List Nat)(k:Nm):Prop:=∃i∈ids,k.rt=some i
def BodyN(ids:List Nat)(H H2:PHeap)(σ:Nm->Option Nm)(k:Nm)(bd:PBody):Prop:=
 (σ k=none/\(∀w m,bd.Is w m (.slice none 0 0) [])/\bd.cs=[]) \/
 ∃j a,σ k=some j/\Of ids j/\(H j).body=some a/\(∀w m v b,a.Is w m v b->bd.Is w m v b)/\CRL H H2 σ a.cs bd.cs
structure Tell(ids:List Nat)(H H2:PHeap)(σ:Nm->Option Nm):Prop where
 out:∀k,¬Of ids k->H2 k=H k/\σ k=some k
 old:∀k,Of ids k->(H k).ver<=(H2 k).ver/\((H2 k).body.isSome=true->(H2 k).ver=(H k).ver->(H k).body.isSome=true/\σ k=some k)
 body:∀k bd,Of ids k->(H2 k).body=some bd->BodyN ids H H2 σ k bd
 inj:∀k k' j,Of ids k->Of ids k'->(H2 k).body.isSome=true->(H2 k').body.isSome=true->σ k=some j->σ k'=some j->k=k'
section
variable{P:Program}{W:Env}{n:Nat}{H H1 H2:PHeap}{V:Nm → Value}{w:World}{F:PFrame}{ids:List Nat}{σ:Nm → Option Nm}{o:Oper}{p0 p1:PV}
def Tell.hz(f:Tell ids H H2 σ){c:Nat}(h:¬PZ W.Z H V c):¬PZ W.Z H2 (vS σ V) c:=by
 refine z7l (λk g n a=>?_) h;by_cases d:Of ids k
 .obtain⟨i,b⟩:=wdh.1 n;rcases f.body k i d b with⟨e,_⟩|⟨j,l,e,_,m,_⟩
  {unfold vS at a;rw[e]at a;cases a};.exact⟨j,X,by unfold vS;rw[e]⟩
 .obtain⟨m,o⟩:=f.out k d;exact⟨k,X,by unfold vS;grind⟩
def Tell.rp(f:Tell ids H H2 σ){p:PV}{v:Wan}(n:Rp W.Z H V w p v)(m:Fl p):Rp W.Z H2 (vS σ V) w p v:=by refine Rp.keep n m (λc _ h=>f.hz h) λi o _ d=>?_;by_cases j:Of ids i;{obtain⟨e,g⟩:=f.old i j;refine⟨wdt d e,λk q=>?_⟩;obtain⟨l,r⟩:=g k U;exact⟨l,U,by unfold vS;grind⟩};.obtain⟨e,g⟩:=f.out i j;rw[e];exact⟨d,λa b=>⟨a,b,by unfold vS;grind⟩⟩
def Tell.cell(o:Tell ids H H2 σ){p q:PV}(k:CR H H2 σ p q){v:Wan}(f:Rp W.Z H V w p v):Rp W.Z H2 (vS σ V) w q v:=by induction k generalizing v with|tup m _ r=>{cases f with|tup _ s n d=>refine .tup _ s U λi q u e j=>?_;have c:=(wcl.1 e).1;rw[<- m]at c;exact r i _ q (wch c) e (d i _ u (wch c) j)}|keep l=>{exact o.rp f l}|nm hσ g d=>{cases f with|ps _ _ _ _ h=>refine .ps _ _ _ d λe _=>?_;obtain⟨a,b⟩:=g e;unfold vS;grind}|unk=>{exact .unk _}|nil hσ d=>cases f;exact .ps _ _ _ d λ_ _=>by unfold vS;grind
def Tell.heap(d:Tell ids H H2 σ)(B:HRel P W H V w)(M:∀i,Fl (W.G i))(x:∀k,FlB (H k)):HRel P W H2 (vS σ V) w:=by
 refine HRel.ren B (λk=>(σ k).getD k) rfl rfl (λi=>d.rp (B.ghost i) (M i)) (λk o n=>?_) λk C g m a p I e=>?_
 .by_cases b:Of ids k
  .rcases d.body k o b n with⟨e,m,a⟩|⟨j,l,e,_,m,a,p⟩
   {exact .inl ⟨by unfold vS;rw[e],m _ _,a⟩};.refine .inr ⟨l,X,by simp[e,wdx];unfold vS;rw[e],λQ s t=>?_⟩;simp[e,wdx]at s⊢;refine⟨a _ _ _ _ s,by rw[<- p.1];exact t.1,λi q v D F=>?_⟩;have r:i<l.cs.length:=by{rw[p.1];grind};exact d.cell (p.2 i _ q (wch r) D) (t.2 i _ v (wch r) F)
  .obtain⟨m,a⟩:=d.out k b;rw[m]at n;refine .inr ⟨o,X,by simp[a,wdx];unfold vS;grind,λQ s t=>?_⟩;simp[a,wdx]at s⊢;exact⟨s,wal t λc L v O=>d.rp O (x k o n c L)⟩
 .have f:∀{k:Nm},(H2 k).body.isSome=true->qc (vS σ V k)=some g->∃j,σ k=some j/\(Of ids k->Of ids j)/\(¬Of ids k->j=k):=λ{k}N n=>by
   by_cases b:Of ids k
   .obtain⟨o,u⟩:=wdh.1 N;rcases d.body k o b u with⟨e,_⟩|⟨j,l,e,Y,_⟩
    {unfold vS at n;rw[e]at n;cases n};grind
   .exact⟨k,(d.out k b).2,λh=>absurd h b,λ_=>rfl⟩
  obtain⟨j,z,R,S⟩:=f m p;obtain⟨Z,A,b1,T⟩:=f a I;simp[z,A,wdx]at e;subst e;by_cases b:Of ids k;{by_cases y:Of ids C;{exact d.inj k C j b y m a z A};grind};grind
def wam(h:PE P W n o F H λp j=>p=p0/\j=H1)(c:FlW W F H)(d:∀k,FlB (H1 k))(x:Zc n o)(l:Tell ids H1 H2 σ)(s:CR H1 H2 σ p0 p1):PE P W n o F H λp j=>p=p1/\j=H2:=λV a w u=>
 Oper.wp_mono (λv y⟨p,j,m,⟨q,r⟩,b⟩=>by
  subst q;subst r;refine⟨p1,H2,vS σ m,⟨rfl,rfl⟩,l.heap b.heap c.g d,b.size,b.defers,λt=>?_⟩;have i:=b.slot t;unfold PFrame.put at i⊢;split
  ·rename_i e;rw[if_pos e]at i;exact l.cell s i
  ·rename_i e;rw[if_neg e]at i;exact l.rp i (c.f t)) (h V a w u)
end
def SPk(P:Program)(o:Oper)(E:EF)(G:EG)(q:SR):Prop:=
 (∀x,(q.w x).map Prod.fst=q.tc)/\∀x,q.o=some x->∀W n F H,FlW W F H->Zc n o->Agr o E G (q.rd++q.tc) F H->PE P W n o F H (λp a=>p=(q.s x).den/\a=qv H (q.w x))
def SR.kP(q:SR):SK:=⟨λk=>jbu q λx=>k (q.s x) (q.w x) ⟨q.rd,q.tc⟩⟩
def SPk.k{P:Waq}{o:Oper}{E:EF}{G:EG}{q:SR}(h:SPk P o E G q):zou P o E G q.kP:=λk r i=>by obtain⟨x,c,g⟩:=z5i i;refine⟨q.s x,q.w x,⟨q.rd,q.tc⟩,g,λj=>?_,λid a=>by rw[h.1 x]at a;omega,λW n F H b f d e=>h.2 x c W n F H b f ⟨d,λid a=>e id (by rw[h.1 x];grind)⟩⟩;show jbu q _=_;unfold jbu;rw[c];cases q.imm<;>rfl
section
variable{P:Program}{W:Env}{n:Nat}{o:Oper}{E:EF}{F:PFrame}{H:PHeap}{G:EG}
def ksetO{α:Type}(c:Option (List α))(l:List (List α))(p i:Int)(u:α):Option (List (List α)):=ja c λr=>ja (yy r i u) λa=>some (l.set p.toNat a)
def sKel(ag:Bool)(k:Nat)(G:EG)(x y:TS):Option SR:=match okT G y with
 |false=>none
 |true=>match x with
  |.kel id p w i a v=>match Nat.beq (G id).cv v with
   |true=>match (G id).b with
    |some (.rows c d t l kv h)=>match Nat.beq w (wid t) && (Nat.beq a 0 && Nat.beq k w)with
     |true=>match toT t y with
      |some u=>some ⟨List (List t.D),false,ksetO (Kids.at ⟨t,d,l,h⟩ p) l p i u,λ_=>UND,λe=>[(id,⟨(G id).ver,some (.rows c d t e kv h)⟩)],zl2 y,[id],[]⟩
      |none=>none
     |false=>none
    |_=>none
   |false=>none
  |_=>none
def jr0{id j tid it kv:Nat}{t:Ty}{l:Wam (Wam t.D)}{r:Wam t.D}{h:Hole}(g:AgN H G id)(d:(G id).b=some (.rows tid it t l kv h))(q:h.is j=false)(p:j<l.length):
  H.set (.c id j) ⟨(G id).cv,some (.row it (wid t) r.length (r.flatMap (jp t)))⟩=qv H [(id,⟨(G id).ver,some (.rows tid it t (l.set j r) kv h)⟩)]:=by
 have a:(G id).cv=(⟨(G id).ver,some (.rows tid it t (l.set j r) kv h)⟩:GB).cv:=by
  unfold GB.cv;rw[d];rfl
 funext k;simp[qv,zlp];by_cases e:k.rt=some id
 ·rw[if_pos e];cases k with
  |r _=>cases e
  |o i=>
   cases e;simp[PHeap.set,reduceCtorEq,if_false,Qx];rw[g.1];unfold vz;rw[<- a,d];simp[BD.den]
  |c i m=>
   cases e;simp[PHeap.set,Nm.c.injEq,true_and,Qx];by_cases f:m=j
   ·subst f;simp[zcc,<- a,BD.ch,q,p]
   ·rw[if_neg f,g.2];simp[zcc,<- a,d,wdv,BD.ch]
    grind
 ·rw[if_neg e];unfold PHeap.set;rw[if_neg];intro n;rw[n]at e;trivial
def jvr{t k:Nat}{ag:Bool}{x y:War}{q:SR}(C:o.op=.store t x y)(ht:asz P t=some (ag,k))(h:sKel ag k G (evE E x) (evE E y)=some q):SPk P o E G q:=by
 have L:x∈o.op.operands:=Wak C;have M:y∈o.op.operands:=Wak C;unfold sKel at h;split at h;{grind};rename_i D;split at h<;>try (cases h;done)
 rename_i id p w i a7 v hx;split at h<;>try (cases h;done)
 rename_i hv;cases ql hv;split at h<;>try (cases h;done)
 rename_i a8 Z ty l kv hh S;split at h<;>try (cases h;done)
 rename_i z;simp only[wco]at z;have B:=wcn z.1;have eo:=wcn z.2.1;have Q:=wcn z.2.2;split at h<;>cases h;rename_i u hu;subst eo;refine⟨λ_=>rfl,λl' a W n F H a1 g b=>?_⟩;obtain⟨r,Y,a⟩:=qw a;obtain⟨r',I,a⟩:=qw a;cases a;obtain⟨A,rfl⟩:=zdp I;have T:=b.hn id V;have d:=zin (by unfold zlc;rw[wet,S];rfl) Y T;obtain⟨h0,m,j⟩:=war Y;simp only at d m j A;have s:=b.ev M;have R:=(zb7 _ _ _ hu).1;have f:(r.flatMap (jp ty)).length=r.length*wid ty:=J4 _ _ _ λx _=>ju ty x;have a6:(evE E y).den.cells.length=k:=by{rw[R.1,ju,Q,B]};suffices N:PE P W n o F H λJ O=>J=UND.den/\O=H.set (.c id p.toNat) ⟨(G id).cv,some (.row Z (wid ty) (r.set i.toNat u).length ((r.set i.toNat u).flatMap (jp ty)))⟩from
  PE.mono N λJ O e=>⟨e.1,e.2.trans (jr0 T S j (wcl.1 m).1)⟩
 refine waq (by rw[<- zy2 A,wd5];exact .row (R.setMany2 _ _)) (by rw[und_den];exact Ref.refl _) g ?_;refine PE.store (cs:=r.flatMap (jp ty)) (bd :=.row Z (wid ty) r.length (r.flatMap (jp ty))) C g (by rw[b.ev L,hx];rfl) (by unfold qd;grind) ht (by rw[s];exact zf2 D λi A=>b.h i X) X ?_ X ⟨rfl,?_⟩;{rw[f,Q,B,wd9];have:(i.toNat+1)*wid ty<=r.length*wid ty:=weg _ A;grind};.rw[s,wd9,B];rfl
def jo9{cs:Wam PV}(h:∀c∈cs,NoP c){d e:Wau}{σ:Nm->Wal Nm}:CRL d e σ cs cs:=⟨rfl,λi p q a b=>by rw[a]at b;cases b;exact .keep (.noP (h p (wcq a)))⟩
def zlh{t:Ty}{r:Wam t.D}:∀c∈r.flatMap (jp t),NoP c:=λc a=>by obtain⟨x,_,b⟩:=wdm.1 a;exact za t x c b
def kidB(it:TypeId)(t:Ty)(l:List (List t.D))(h:Hole)(j:Nat):Option PBody:=match h.is j with
 |true=>none
 |false=>(l[j]?).map λr=> .row it (wid t) r.length (r.flatMap (jp t))
def z48{d b:Wau}{σ:Nm->Wal Nm}{D:Wam Nat}{id it ver ver1 kv:Nat}{t:Ty}{l:Wam (Wam t.D)}{h:Hole}{a bd2:PBody}
  (hout:∀k,¬Of (id::D) k->b k=d k/\σ k=some k) (z:b (.o id)=⟨ver,some bd2⟩) (y:∀j,b (.c id j)=⟨ver+kv,kidB it t l h j⟩)
  (hD:∀k,Of D k->((b k).body=none/\(d k).ver<=(b k).ver)\/((d k).ver<(b k).ver/\∃x C,σ k=some x/\Of (id::D) x/\(b k).body=some C/\(d x).body=some C/\∀c∈C.cs,NoP c))
  (h1:d (.o id)=⟨ver1,some a⟩) (a0:ver1<=ver) (hσ:σ (.o id)=some (.o id)) (hv:∀j,(d (.c id j)).ver<ver+kv) (Z:a.cs.length=l.length)
  (P:∀w m v L,a.Is w m v L->bd2.Is w m v L) (N:bd2.cs=(range l.length).map (h.cell id (ver+kv)))
  (Y:∀j r,h.is j=false->l[j]?=some r->(∃x v,a.cs[j]?=some (.ps x v)/\σ (.c id j)=some x/\Of (id::D) x/\d x=⟨v,some (.row it (wid t) r.length (r.flatMap (jp t)))⟩)\/(r=[]/\a.cs[j]?=some (.u (.slice none 0 0))/\σ (.c id j)=none))
  (A:∀k I x,Of (id::D) k->Of (id::D) I->(b k).body.isSome=true->(b I).body.isSome=true->σ k=some x->σ I=some x->k=I):Tell (id::D) d b σ:=by
 have s:∀{k:Nm},Of (id::D) k->k.rt=some id\/Of D k:=λ{k}⟨i,O,e⟩=>by
  rcases wda.1 O with rfl|O
  ·grind
  ·exact .inr ⟨i,O,e⟩
 have R:Of (id::D) (.o id):=⟨id,V,rfl⟩
 refine⟨hout,λk F=>?_,λk C F f=>?_,A⟩
 ·rcases s F with e|F
  ·cases k with
   |r _=>cases e
   |o i=>
    cases e
    grind
   |c i j=>
    cases e
    grind
  grind
 ·rcases s F with e|Q
  ·cases k with
   |r _=>cases e
   |o i=>
    cases e;rw[z]at f;cases f;refine .inr ⟨.o id,a,hσ,R,X,P,X,λj p q G J=>?_⟩;rw[N,wcv]at J;obtain⟨H,hj,rfl⟩:=wct.1 J;have B:=(wcl.1 hj).1;have e:H=j:=by
     grind
    subst e;have B:H<l.length:=X;unfold Hole.cell;split
    ·exact .unk
    ·rename_i e;have a8:(b (.c id H)).ver=ver+kv:=X;rcases Y H _ U (wch B)with⟨x,v,n,g,S,c4⟩|⟨_,n,g⟩
     ·rw[n]at G;cases G;exact .nm g (λ_=>X) U
     ·rw[n]at G;cases G;exact .nil g U
   |c i j=>
    cases e;rw[y]at f;simp[kidB]at f;split at f<;>try (cases f;done)
    rename_i e;obtain⟨r,M,rfl⟩:=wct.1 f;rcases Y j r e M with⟨x,v,n,g,S,c4⟩|⟨rfl,n,g⟩
    ·exact .inr ⟨x,_,g,S,X,λw m v L h=>h,jo9 zlh⟩
    ·refine .inl ⟨g,λw m=>?_,rfl⟩;exact⟨⟨V,.inl ⟨rfl,rfl⟩⟩,λu hu=>X⟩
  ·rcases hD k Q with⟨e,_⟩|⟨_,x,a1,M,h3,T,h5,h6⟩
   ·grind
   ·rw[f]at T;cases T;exact .inr ⟨x,_,M,h3,h5,λw m v L h=>h,jo9 h6⟩
def zmo{b a:Wau}{σ:Nm->Wal Nm}{D:Wam Nat}{id tid it ver ver1 kv:Nat}{t:Ty}{l:Wam (Wam t.D)}{h:Hole}{cs:Wam PV}
  (hout:∀k,¬Of (id::D) k->a k=b k/\σ k=some k) (d:∀k,k.rt=some id->a k=Qx ⟨ver,some (.rows tid it t l kv h)⟩ k)
  (q:∀k,Of D k->((a k).body=none/\(b k).ver<=(a k).ver)\/((b k).ver<(a k).ver/\∃x n,σ k=some x/\Of (id::D) x/\(a k).body=some n/\(b x).body=some n/\∀c∈n.cs,NoP c))
  (s:id∉D) (p:b (.o id)=⟨ver1,some (.row tid 1 l.length cs)⟩) (g:ver1<=ver) (hσ:σ (.o id)=some (.o id)) (z:∀j,(b (.c id j)).ver<ver+kv) (f:cs.length=l.length)
  (y:∀j r,h.is j=false->l[j]?=some r->(∃x v,cs[j]?=some (.ps x v)/\σ (.c id j)=some x/\Of (id::D) x/\b x=⟨v,some (.row it (wid t) r.length (r.flatMap (jp t)))⟩)\/(r=[]/\cs[j]?=some (.u (.slice none 0 0))/\σ (.c id j)=none))
  (e:∀k i x,Of (id::D) k->Of (id::D) i->(a k).body.isSome=true->(a i).body.isSome=true->σ k=some x->σ i=some x->k=i):Tell (id::D) b a σ:=
 z48 hout (d (.o id) rfl) (λj=>d (.c id j) rfl) q p g hσ z f (λw m v A h=>h) rfl y e
def zt4(G:EG)(it:TypeId)(t:Ty):TS->Option (Nat×List t.D)
 |.own c e=>match Nat.beq (G c).ver e with
  |true=>match (G c).b with
   |some (.row a d r)=>match Nat.beq a it with
    |true=>match Dyn.as ⟨.sl d,r⟩ (.sl t)with
     |some r=>some (c,r)
     |none=>none
    |false=>none
   |_=>none
  |false=>none
 |_=>none
def zhq{it:Wap}{t:Ty}{y:TS}{c:Nat}{r:Wam t.D}(h:zt4 G it t y=some (c,r)):y=.own c (G c).ver/\(G c).b=some (.row it t r):=by
 unfold zt4 at h;split at h<;>try (cases h;done)
 split at h<;>try (cases h;done)
 rename_i f;split at h<;>try (cases h;done)
 rename_i d;split at h<;>try (cases h;done)
 rename_i e;split at h<;>cases h;rename_i a;cases wag a;simp_all
def zj7{d:Nm}{v tid m j:Nat}{cs:Wam PV}(h:∀k,FlB (H k))(b:∀c∈cs,Fl c):∀k,FlB ((H.set d ⟨v,some (.row tid m j cs)⟩) k):=λk=>by unfold PHeap.set;split;{intro e a;cases a;exact b};grind
def zrg{id v:Nat}{h:Hole}{m:Nat}:∀c∈(range m).map (h.cell id v),Fl c:=λc a=>by obtain⟨j,_,rfl⟩:=wc6.1 a;unfold Hole.cell;split;{exact .unk};.exact .ps trivial
def zat{id v:Nat}{h:Hole}{m j:Nat}(a:j<m):((range m).map (h.cell id v))[j]?=some (h.cell id v j):=by grind
def jfy{id tid it kv:Nat}{t:Ty}{l:Wam (Wam t.D)}{h:Hole}(d:AgN H G id)(a:(G id).b=some (.rows tid it t l kv h)):H (.o id)=⟨(G id).ver,some (.row tid 1 l.length ((range l.length).map (h.cell id (G id).cv)))⟩/\(G id).cv=(G id).ver+kv/\(∀j,(H (.c id j)).ver=(G id).cv)/\∀j r,h.is j=false->l[j]?=some r->H (.c id j)=⟨(G id).cv,some (.row it (wid t) r.length (r.flatMap (jp t)))⟩:=by refine⟨?_,by unfold GB.cv;rw[a];rfl,λj=>by rw[d.2];rfl,λj r e f=>?_⟩;{rw[d.1];unfold vz;rw[a];rfl};.rw[d.2];unfold zcc;rw[a];simp[BD.ch,e,f]
def z9k{c it:Nat}{t:Ty}{r:Wam t.D}(d:AgN H G c)(a:(G c).b=some (.row it t r)):H (.o c)=⟨(G c).ver,some (.row it (wid t) r.length (r.flatMap (jp t)))⟩:=by rw[d.1];unfold vz;rw[a];rfl
def zsk{c:Nat}{a:Wau}(e:AgN H G c)(d:∀k,k.rt=some c->a k=Qx ⟨(G c).cv+1,none⟩ k){k:Nm}(b:k.rt=some c):(a k).body=none/\(H k).ver<=(a k).ver:=by rw[d k b,e.at b];cases k<;>cases b;{exact⟨rfl,Nat.le_succ_of_le (GB.ver_le _)⟩};.exact⟨rfl,Nat.le_succ _⟩
def z3k{α:Type}(h:Hole)(l:List (List α))(p:Int)(r:List α):Option (List (List α)):=match h with
 |none=>yy l p r
 |some x=>match Nat.beq p.toNat x with
  |true=>yy l p r
  |false=>none
def jdx{α:Type}{h:Hole}{l b:Wam (Wam α)}{p:Int}{r:Wam α}(a:z3k h l p r=some b):p.toNat<l.length/\b=l.set p.toNat r/\∀j,j≠p.toNat->h.is j=false:=by unfold z3k at a;split at a;{exact⟨(zdp a).1,(zdp a).2,λj _=>rfl⟩};{(split at a<;>try (cases a;done));rename_i e;refine⟨(zdp a).1,(zdp a).2,λj c=>?_⟩;simp[Hole.is];cases h:Nat.beq j _;{rfl};simp_all}
def sRst(ag:Bool)(k:Nat)(G:EG)(x y:TS):Option SR:=match x with
 |.elt id w p a d=>match Nat.beq (G id).ver d && (Nat.beq w 1 && (Nat.beq a 0 && (Nat.beq k 1 && !ag)))with
  |true=>match (G id).b with
   |some (.rows c e t l kv h)=>match zt4 G e t y with
    |some r=>match Nat.beq r.1 id with
     |false=>some ⟨List (List t.D),false,z3k h l p r.2,λ_=>UND,λf=>[(id,⟨(G id).ver,some (.rows c e t f (kv+1) none)⟩),(r.1,⟨(G r.1).cv+1,none⟩)],[],[id,r.1],[]⟩
     |true=>none
    |none=>none
   |_=>none
  |false=>none
 |_=>none
def jt9{t k:Nat}{ag:Bool}{x y:War}{q:SR}(S:o.op=.store t x y)(ht:asz P t=some (ag,k))(h:sRst ag k G (evE E x) (evE E y)=some q):SPk P o E G q:=by
 have Y:x∈o.op.operands:=Wak S;have Z:y∈o.op.operands:=Wak S;unfold sRst at h;split at h<;>try (cases h;done)
 rename_i id w p b7 ver T;split at h<;>try (cases h;done)
 rename_i hc;simp only[wco,wd6]at hc;obtain⟨c1,c2,c3,c4,rfl⟩:=hc;cases ql c1;cases ql c2;cases ql c3;cases ql c4;split at h<;>try (cases h;done)
 rename_i tid it ty l kv g hb;split at h<;>try (cases h;done)
 rename_i r hr;obtain⟨c,r⟩:=r;obtain⟨hy,M⟩:=zhq hr;split at h<;>cases h;rename_i R;have R:c≠id:=λe=>X;refine⟨λ_=>rfl,λl' O W n F H A z b=>?_⟩;obtain⟨Q,rfl,m⟩:=jdx O;have hn:=b.hn id V;have s:=b.hn c V;obtain⟨r1,r2,r3,r4⟩:=jfy hn hb;have ro:=z9k s M;have u:evP F y=.ps (.o c) (G c).ver:=by{rw[b.ev Z,hy];rfl};have N:((range l.length).map (g.cell id (G id).cv)).length=l.length:=V;have J:PE P W n o F H λp' I=>p'=UND.den/\I=H.set (.o id) ⟨(G id).ver,some (.row tid 1 l.length (setMany ((range l.length).map (g.cell id (G id).cv)) (p.toNat*1+0) [.ps (.o c) (G c).ver]))⟩:=by{refine PE.store (cs:=(range l.length).map (g.cell id (G id).cv)) (bd :=.row tid 1 l.length ((range l.length).map (g.cell id (G id).cv))) S z (by rw[b.ev Y,T];rfl) (by unfold qd;grind) ht (by rw[u];simp[okC,V4,ro]) (by rw[u];rfl) U X ⟨Wab,?_⟩;rw[u];rfl};have B:(([(id,(⟨(G id).ver,some (.rows tid it ty (l.set p.toNat r) (kv+1) none)⟩:GB)),(c,⟨(G c).cv+1,none⟩)]:Wam (Nat×GB)).map Prod.fst).Nodup:=X;have f:∀{k:Nm},k ≠ .o id->(H.set (.o id) ⟨(G id).ver,some (.row tid 1 l.length (setMany ((range l.length).map (g.cell id (G id).cv)) (p.toNat*1+0) [.ps (.o c) (G c).ver]))⟩) k=H k:=λ{k}a=>by{unfold PHeap.set;grind};have L:∀j,(setMany ((range l.length).map (g.cell id (G id).cv)) (p.toNat*1+0) [.ps (.o c) (G c).ver])[j]?=if j=p.toNat then some (.ps (.o c) (G c).ver)else((range l.length).map (g.cell id (G id).cv))[j]?:=λj=>by{rw[Zr _ _ _ X];by_cases e:j=p.toNat;{simp_all};grind};have v:∀k,k.rt=some c->qv H [(id,⟨(G id).ver,some (.rows tid it ty (l.set p.toNat r) (kv+1) none)⟩),(c,⟨(G c).cv+1,none⟩)] k=Qx ⟨(G c).cv+1,none⟩ k:=λk a=>Jk B V a;show PE P W n o F H λp' I=>p'=UND.den/\I=qv H [(id,⟨(G id).ver,some (.rows tid it ty (l.set p.toNat r) (kv+1) none)⟩),(c,⟨(G c).cv+1,none⟩)];refine wam J A (zj7 A.h λx T=>?_) z (zmo (id:=id) (D:=[c]) (ver:=(G id).ver) (kv:=kv+1) (tid:=tid) (it:=it) (l:=l.set p.toNat r) (h:=none) (σ:=λk=>if k=.c id p.toNat then some (.o c)else some k) (λk a=>?_) (λk a=>Jk B V a) (λk a=> .inl ?_) X (by unfold PHeap.set;rw[if_pos rfl,wd5]) (wcs _) V (λj=>?_) ?_ (λj r' hj d=> .inl ?_) λk k' x a a9 b0 b1 e1 e2=>?_) (.keep (zap _));{rcases zhw T with h|h;{exact zrg _ h};.simp[wcr]at h;subst h;exact .ps trivial};{rw[f λe=>a ⟨id,V,by rw[e];rfl⟩,if_neg λe=>a ⟨id,V,by rw[e];rfl⟩];exact⟨Q3 λi C e=>a ⟨i,C,e⟩,rfl⟩};{obtain⟨i,C,e⟩:=a;simp[wcr]at C;subst C;rw[f λe2=>by rw[e2]at e;cases e;omega];exact zsk s v e};{grind};{rw[Qt _ _ _ X,N,wd5]};{rw[L];by_cases e:j=p.toNat;{subst e;rw[wen Q]at d;cases d;refine⟨.o c,_,by rw[if_pos rfl],V,⟨c,V,rfl⟩,?_⟩;grind};.rw[wev (Ne.symm e)]at d;have hj:=m j e;refine⟨.c id j,(G id).cv,?_,X,⟨id,V,rfl⟩,?_⟩;{rw[if_neg e,zat (wcl.1 d).1];unfold Hole.cell;grind};grind};.have b3:∀{k:Nm},(qv H [(id,⟨(G id).ver,some (.rows tid it ty (l.set p.toNat r) (kv+1) none)⟩),(c,⟨(G c).cv+1,none⟩)] k).body.isSome=true->k ≠ .o c:=λ{k}a e=>by{subst e;rw[(zsk s v rfl).1]at a;grind};grind
def Qf{a k:Nm}{b:zm8}(h:k≠a):(H.set a b) k=H k:=by unfold PHeap.set;grind
def kapO{α:Type}(b:Nat)(c:Option (List α))(xs:List α):Option (List α):=ja c λr=>apO b r xs
def sKap(g:SE)(o:Oper)(G:EG)(a:Nat)(s x:TS):Option SR:=match Jq o with
 |false=>none
 |true=>match g with
  |none=>none
  |some (e,k,b,_)=>match s with
   |.kid id p v=>match Nat.beq (G id).cv v && !(Nat.beq a id)with
    |true=>match (G id).b with
     |some (.rows d c t l kv none)=>match Nat.beq c e && (Nat.beq (wid t) k && zhz t)with
      |true=>match jc9 t G x with
       |some r=>some ⟨List t.D,false,kapO b (Kids.at ⟨t,c,l,none⟩ p) r.1,λ_=> .own a ((G a).cv+1),λf=>[(id,⟨(G id).ver,some (.rows d c t l (kv+2) (some p.toNat))⟩),(a,⟨(G a).cv+1,some (.row c t f)⟩)],r.2,[id,a],[]⟩
       |none=>none
      |false=>none
     |_=>none
    |false=>none
   |_=>none
def jwp{t:Nat}{s x:War}{a:Nat}{q:SR}(Z:o.op=.call { callee :=.builtin .append,args:=#[s,x],argTypes:=#[t,t] })(h:sKap (yz P t) o G a (evE E s) (evE E x)=some q):SPk P o E G q:=by
 have a0:s∈o.op.operands:=by{rw[Z];simp[Op.operands,Call.operands]};have a2:x∈o.op.operands:=by{rw[Z];simp[Op.operands,Call.operands]};unfold sKap at h;split at h;{grind};rename_i S;obtain⟨d,S⟩:=yk S;split at h;{grind};rename_i e k b z a1;split at h<;>try (cases h;done)
 rename_i id p v hs;split at h<;>try (cases h;done)
 rename_i hv;simp only[wco,wd6]at hv;cases ql hv.1;have b7:a≠id:=λe=>by{simp_all};split at h<;>try (cases h;done)
 rename_i m g ty l kv hb;split at h<;>try (cases h;done)
 rename_i B;simp only[wco]at B;have e1:=wcn B.1;have R:=wcn B.2.1;subst e1;subst R;split at h<;>cases h;rename_i w hr;refine⟨λ_=>rfl,λl' A W n F H M L u=>?_⟩;obtain⟨r,J,A⟩:=qw A;obtain⟨b1,b2,rfl⟩:=za1 A;have hn:=u.hn id V;have Y:=u.hn a V;obtain⟨r1,r2,r3,r4⟩:=jfy hn hb;have y:=zin (by unfold zlc;rw[wet,hb];rfl) J hn;simp only at y;have a8:=zms hr rfl λi N=>u.h i X;have a3:PE P W n o F H λp' T=>p'=.ps (.c id p.toNat) ((G id).cv+1)/\T=H.set (.c id p.toNat) ⟨(G id).cv+1,some (.row g (wid ty) (r.length+w.1.length) (r.flatMap (jp ty)++w.1.flatMap (jp ty)))⟩:=
  PE.append Z S (L d S) a1 (by rw[u.ev a0,hs];rfl) (by unfold J6;grind) (by rw[u.ev a2];omega) (zf9 B.2.2 _) b1 b2 ⟨rfl,rfl⟩
 have O:(([(id,(⟨(G id).ver,some (.rows m g ty l (kv+2) (some p.toNat))⟩:GB)),(a,⟨(G a).cv+1,some (.row g ty (r++w.1))⟩)]:Wam (Nat×GB)).map Prod.fst).Nodup:=X;have I:∀k,k.rt=some a->qv H [(id,⟨(G id).ver,some (.rows m g ty l (kv+2) (some p.toNat))⟩),(a,⟨(G a).cv+1,some (.row g ty (r++w.1))⟩)] k=Qx ⟨(G a).cv+1,some (.row g ty (r++w.1))⟩ k:=λk f=>Jk O V f;have C:∀k,k.rt=some id->qv H [(id,⟨(G id).ver,some (.rows m g ty l (kv+2) (some p.toNat))⟩),(a,⟨(G a).cv+1,some (.row g ty (r++w.1))⟩)] k=Qx ⟨(G id).ver,some (.rows m g ty l (kv+2) (some p.toNat))⟩ k:=λk f=>Jk O V f;show PE P W n o F H λp' T=>p'=(TS.own a ((G a).cv+1)).den/\T=qv H [(id,⟨(G id).ver,some (.rows m g ty l (kv+2) (some p.toNat))⟩),(a,⟨(G a).cv+1,some (.row g ty (r++w.1))⟩)];refine wam (σ:=λk=>if k=.o a then some (.c id p.toNat)else some k) a3 M (zj7 M.h λx hx=>?_) L (zmo (D:=[a]) (λk f=>?_) C (λk f=>?_) X (by assumption) (wcs _) X (λj=>?_) V (λj r' hj Q=> .inl ?_) λk k' x f b4 b5 b6 e1 R=>?_) ?_;{rcases wcu.1 hx with h|h<;>exact .noP (zlh _ h)};{rw[Qf λe=>f ⟨id,V,by rw[e];rfl⟩,if_neg λe=>f ⟨a,V,by rw[e];rfl⟩];exact⟨Q3 λi N e=>f ⟨i,N,e⟩,rfl⟩};{obtain⟨i,N,e⟩:=f;simp[wcr]at N;subst N;rw[Qf λR=>by rw[R]at e;cases e;omega,I k e,Y.at e];cases k with|r _=>{cases e}|c i j=>{cases e;exact .inl ⟨rfl,Nat.le_succ _⟩}|o i=>cases e;refine .inr ⟨Nat.lt_succ_of_le (GB.ver_le _),.c id p.toNat,_,V,⟨id,V,rfl⟩,rfl,?_,λc B=>zlh c B⟩;unfold PHeap.set;rw[if_pos rfl];simp[BD.den]};{by_cases e:j=p.toNat;{subst e;unfold PHeap.set;grind};.rw[Qf X,r3];omega};{have e:j≠p.toNat:=λe=>by{subst e;simp[Hole.is]at hj};refine⟨.c id j,(G id).cv,?_,Wab,⟨id,V,rfl⟩,?_⟩;{rw[zat (wcl.1 Q).1];rfl};.rw[Qf X];exact r4 j r' rfl Q};{have b8:∀{k:Nm},(qv H [(id,⟨(G id).ver,some (.rows m g ty l (kv+2) (some p.toNat))⟩),(a,⟨(G a).cv+1,some (.row g ty (r++w.1))⟩)] k).body.isSome=true->k ≠ .c id p.toNat:=λ{k}f e=>by{subst e;rw[C _ rfl]at f;simp[Qx,zcc,BD.ch,Hole.is]at f};grind};.simp[TS.den];refine .nm (if_pos rfl) (λ_=>?_) (by rw[I _ rfl];exact wcs _);unfold PHeap.set;simp
def jb3{id c tid it ver kv:Nat}{t:Ty}{l:Wam (Wam t.D)}{r:Wam t.D}{cs:Wam PV}(B:c≠id)(f:AgN H G c)(p:(G c).b=some (.row it t r))(O:∀j,(H (.c id j)).ver<ver+kv)(N:cs.length=l.length)
  (w:∀j r,l[j]?=some r->∃v,cs[j]?=some (.ps (.c id j) v)/\H (.c id j)=⟨v,some (.row it (wid t) r.length (r.flatMap (jp t)))⟩) :
  Tell [id,c] (H.set (.o id) ⟨ver,some (.row tid 1 (l.length+1) (cs++[.ps (.o c) (G c).ver]))⟩) (qv H [(id,⟨ver,some (.rows tid it t (l++[r]) kv none)⟩),(c,⟨(G c).cv+1,none⟩)]) λk=>if k=.c id l.length then some (.o c)else some k:=by
 have m:(([(id,(⟨ver,some (.rows tid it t (l++[r]) kv none)⟩:GB)),(c,⟨(G c).cv+1,none⟩)]:Wam (Nat×GB)).map Prod.fst).Nodup:=X;have g:∀k,k.rt=some c->qv H [(id,⟨ver,some (.rows tid it t (l++[r]) kv none)⟩),(c,⟨(G c).cv+1,none⟩)] k=Qx ⟨(G c).cv+1,none⟩ k:=λk a=>Jk m V a;refine zmo (ver1:=ver) (kv:=kv) (tid:=tid) (it:=it) (l:=l++[r]) (h:=none) (cs:=cs++[.ps (.o c) (G c).ver]) (λk a=>?_) (λk a=>Jk m V a) (λk a=> .inl ?_) X (by unfold PHeap.set;simp) (wcs _) V (λj=>by rw[Qf V];grind) X (λj F _ d=> .inl ?_) λk P x a y z A M s=>?_
 ·rw[Qf λe=>a ⟨id,V,by rw[e];rfl⟩,if_neg λe=>a ⟨id,V,by rw[e];rfl⟩];exact⟨Q3 λi n e=>a ⟨i,n,e⟩,rfl⟩
 ·obtain⟨i,n,e⟩:=a;simp[wcr]at n;subst n;rw[Qf λs=>by rw[s]at e;cases e;omega];exact zsk f g e
 ·rcases Nat.lt_or_ge j l.length with u|u
  ·rw[wcx u]at d;obtain⟨v,I,L⟩:=w j F d;refine⟨.c id j,v,X,X,⟨id,V,rfl⟩,?_⟩
   assumption
  ·have q:=(wcl.1 d).1;rw[wc4,wdc]at q;have:j=l.length:=U;subst this;simp at d;subst d;refine⟨.o c,(G c).ver,X,V,⟨c,V,rfl⟩,?_⟩;rw[Qf X,z9k f p]
 ·have C:∀{k:Nm},(qv H [(id,⟨ver,some (.rows tid it t (l++[r]) kv none)⟩),(c,⟨(G c).cv+1,none⟩)] k).body.isSome=true->k ≠ .o c:=λ{k}a e=>by
   subst e;rw[(zsk f g rfl).1]at a;grind
  grind
def jft(G:EG):TS->Option (Nat×TS)
 |.own a vx=>match Nat.beq (G a).ver vx with
  |true=>match (G a).b with
   |some (.rowx _ 1 [y])=>some (a,y)
   |_=>none
  |false=>none
 |_=>none
def z9w{x y:TS}{a:Nat}(h:jft G x=some (a,y)):x=.own a (G a).ver/\∃c,(G a).b=some (.rowx c 1 [y]):=by
 unfold jft at h;split at h<;>try (cases h;done)
 split at h<;>try (cases h;done)
 rename_i d;split at h<;>cases h;simp_all
def kv0(G:EG)(id:Nat):Nat:=(G id).cv-(G id).ver
def sRap(j:SE)(o:Oper)(G:EG)(a:Nat)(s x:TS):Option SR:=match Jq o with
 |false=>none
 |true=>match j with
  |none=>none
  |some (e,k,b,_)=>match jft G x with
   |none=>none
   |some (i,y)=>match s with
    |.own id d=>match Nat.beq (G id).ver d && Nat.beq k 1 with
     |true=>match (G id).b with
      |some (.rows g f t l kv none)=>match Nat.beq g e with
       |true=>match zt4 G f t y with
        |some r=>match Nat.beq r.1 id with
         |false=>some ⟨List (List t.D),false,apO b l [r.2],λ_=> .own id (d+1),λh=>[(id,⟨d+1,some (.rows g f t h kv none)⟩),(r.1,⟨(G r.1).cv+1,none⟩)],[i],[id,r.1],[]⟩
         |true=>none
        |none=>none
       |false=>none
      |_=>none
     |false=>none
    |.c (.slice none 0 0)=>match y with
     |.own c m=>match (G c).b with
      |some (.row f t _)=>match zt4 G f t y with
       |some r=>match Nat.beq r.1 a || !(Nat.beq k 1)with
        |false=>some ⟨List (List t.D),false,apO b [] [r.2],λ_=> .own a (nv G a),λh=>[(a,⟨nv G a,some (.rows e f t h (kv0 G a) none)⟩),(r.1,⟨(G r.1).cv+1,none⟩)],[i],[a,r.1],[]⟩
        |true=>none
       |none=>none
      |_=>none
     |_=>none
    |_=>none
def jv6{t:Nat}{s x:War}{f:Nat}{q:SR}(R:o.op=.call { callee :=.builtin .append,args:=#[s,x],argTypes:=#[t,t] })(h:sRap (yz P t) o G f (evE E s) (evE E x)=some q):SPk P o E G q:=by
 have L:s∈o.op.operands:=by{rw[R];simp[Op.operands,Call.operands]};have a2:x∈o.op.operands:=by{rw[R];simp[Op.operands,Call.operands]};unfold sRap at h;split at h;{grind};rename_i B;obtain⟨d,B⟩:=yk B;split at h;{grind};rename_i e k b z M;split at h<;>try (cases h;done)
 rename_i xi y I;obtain⟨C,tx,a3⟩:=z9w I;have O:∀{rd F H}{c:Nat},Agr o E G rd F H->xi∈rd->y=.own c (G c).ver->k=1->zxu H k (evP F x)=some (1,[.ps (.o c) (G c).ver]):=λ{rd F H c}a a4 N hk=>by{rw[a.ev a2,C];simp[TS.den];unfold zxu;simp only;rw[Js (t:=tx) (k:=1) (n:=1) (cs:=[.ps (.o c) (G c).ver]) (a.h xi a4) a3 (by simp[BD.den,qb,N,TS.den,PV.cells]) rfl];grind};split at h
 .rename_i id b8 hs;(split at h<;>try (cases h;done));rename_i hv;simp only[wco]at hv;cases ql hv.1;have Y:=ql hv.2;(split at h<;>try (cases h;done));rename_i b6 it ty l kv hb;(split at h<;>try (cases h;done));rename_i he;cases ql he;(split at h<;>try (cases h;done));rename_i r J;obtain⟨c,r⟩:=r;obtain⟨N,i⟩:=zhq J;split at h<;>cases h;rename_i g;have g:c≠id:=λe=>X;refine⟨λ_=>rfl,λl' v W n F H p m a=>?_⟩;obtain⟨b1,T,rfl⟩:=za1 v;have Q:=a.hn id V;have u:=a.hn c V;obtain⟨r1,r2,r3,r4⟩:=jfy Q hb;have A:PE P W n o F H λp' S=>p'=(TS.own id ((G id).ver+1)).den/\S=H.set (.o id) ⟨(G id).ver+1,some (.row e 1 (l.length+1) ((range l.length).map (Hole.cell id (G id).cv none)++[.ps (.o c) (G c).ver]))⟩:=
   PE.append (cs:=(range l.length).map (Hole.cell id (G id).cv none)) R B (m d B) M (by rw[a.ev L,hs];rfl) (by unfold J6;grind) (O a V N Y) (by simp[V4,z9k u i]) b1 T ⟨Wab,X⟩
  refine wam A p (zj7 p.h λx C=>?_) m (jb3 g u i (λj=>X) V λj r' w=>⟨(G id).cv,by rw[zat (wcl.1 w).1];rfl,r4 j r' rfl w⟩) (.keep (zap _));rcases wcu.1 C with h|h;{exact zrg _ h};.simp[wcr]at h;subst h;exact .ps trivial
 .rename_i hs;(split at h<;>try (cases h;done));(split at h<;>try (cases h;done));rename_i it ty l0 a6;(split at h<;>try (cases h;done));rename_i r J;obtain⟨c,r⟩:=r;obtain⟨N,i⟩:=zhq J;split at h<;>cases h;rename_i g;simp only[Bool.or_eq_false_iff,Bool.not_eq_false']at g;have Y:=ql g.2;have g:c≠f:=λe=>by{simp_all};refine⟨λ_=>rfl,λl' v W n F H p m a=>?_⟩;obtain⟨b1,T,rfl⟩:=za1 v;have Q:=a.hn f V;have u:=a.hn c V;have Z:(H (.o f)).ver+1=nv G f:=by{rw[Q.1];rfl};have A:PE P W n o F H λp' S=>p'=(TS.own f (nv G f)).den/\S=H.set (.o f) ⟨nv G f,some (.row e 1 (([]:Wam (Wam ty.D)).length+1) ([]++[.ps (.o c) (G c).ver]))⟩:=
   way R B (m d B) M (by rw[a.ev L,hs];rfl) (O a V N Y) (by simp[V4,z9k u i]) b1 T ⟨by rw[Z];rfl,X⟩
  refine wam A p (zj7 p.h λx C=>?_) m (jb3 g u i (λj=>?_) rfl λj r' w=>X) (.keep (zap _));{simp[web,wcr]at C;subst C;exact .ps trivial};.rw[Q.2];have:=(G f).ver_le;simp[zcc,nv,kv0];omega
 grind
def nilS(id:Nat):Nm->Option Nm
 |.c i j=>if i=id then none else some (.c i j)
 |k=>some k
def z5z{id:Nat}{k x:Nm}(h:nilS id k=some x):x=k:=by cases k with|c i j=>{simp[nilS]at h;grind}|_=>cases h;rfl
def ja9{id tid it ver kv m:Nat}{t:Ty}(s:∀j,(H (.c id j)).ver<ver+kv):Tell [id] (H.set (.o id) ⟨ver,some (.row tid 1 m (replicate m (.u (.slice none 0 0))))⟩) (qv H [(id,⟨ver,some (.rows tid it t (replicate m []) kv none)⟩)]) (nilS id):=by refine zmo (ver1:=ver) (kv:=kv) (tid:=tid) (it:=it) (t:=t) (l:=replicate m []) (h:=none) (cs:=replicate m (.u (.slice none 0 0))) (λk a=>?_) (λk a=>Jk V V a) (λk⟨i,d,_⟩=>X) V (by unfold PHeap.set;simp) (wcs _) rfl (λj=>by rw[Qf V];grind) V (λj w _ b=> .inr ?_) λk v x a p q r f g=>by{rw[<- z5z f,<- z5z g]};{rw[Qf λe=>a ⟨id,V,by rw[e];rfl⟩];refine⟨Q3 λi d e=>a ⟨i,d,e⟩,?_⟩;cases k with|c i j=>{simp only[nilS];rw[if_neg];intro e;exact a ⟨id,V,by rw[e];rfl⟩}|_=>rfl};.have n:j<m:=X;rw[wee,if_pos n]at b;cases b;exact⟨rfl,X,by simp[nilS]⟩
def sRmk(fl:Option (TypeId×Ty))(f:SE)(o:Oper)(G:EG)(c:Nat)(same:Bool)(x:TS):Option SR:=match Jq o && same with
 |false=>none
 |true=>match fl with
  |none=>none
  |some (d,t)=>match f with
   |some (e,1,b,z)=>match jl5 z with
    |true=>match zgy x with
     |some a=>some ⟨Nat,false,mkO b a,λ_=> .own c (nv G c),λm=>[(c,⟨nv G c,some (.rows e d t (replicate m []) (kv0 G c) none)⟩)],[],[c],[]⟩
     |none=>none
    |false=>none
   |_=>none
def jvt{fl:Wal (Wap×Ty)}{t:Nat}{x y:War}{c:Nat}{q:SR}(C:o.op=.makeSlice t x y)(h:sRmk fl (yz P t) o G c (ztn x y) (evE E x)=some q):SPk P o E G q:=by
 have s:x∈o.op.operands:=Wak C;unfold sRmk at h;split at h;{grind};rename_i f;simp[wco]at f;obtain⟨d,A⟩:=yk f.1;split at h<;>try (cases h;done)
 split at h<;>try (cases h;done)
 rename_i e b z r;split at h<;>try (cases h;done)
 rename_i hz;cases zxo hz;split at h<;>cases h;rename_i a M;obtain⟨D,N⟩:=Zp M;refine⟨λ_=>rfl,λ(m:Nat)O W n F H l k i=>?_⟩;obtain⟨rfl,R,S⟩:=z90 O;have g:evP F x=.u (.int D m):=by{rw[i.ev s,N]};obtain⟨Y,J,w,Z,L⟩:=z3r f.2 ⟨D,m,g⟩;rw[g]at w;cases w;have B:=i.hn c V;have p:(H (.o c)).ver+1=nv G c:=by{rw[B.1];rfl};have v:PE P W n o F H λT I=>T=(TS.own c (nv G c)).den/\I=H.set (.o c) ⟨nv G c,some (.row e 1 m (replicate m (.u (.slice none 0 0))))⟩:=
  PE.makeSlice C A (k d A) r rfl g L R S ⟨by rw[p];rfl,X⟩
 refine wam v l (zj7 l.h λx Q=>?_) k (ja9 λj=>?_) (.keep (zap _));{rw[(List.mem_replicate.1 Q).2];exact .noP (.u _)};.rw[B.2];have:=(G c).ver_le;simp[zcc,nv,kv0];omega
def sRlt(fl:Option (TypeId×Ty))(d:SE)(o:Oper)(G:EG)(a len:Nat)(ps:List (Nat×Operand)):Option SR:=match Jq o with
 |false=>none
 |true=>match fl with
  |none=>none
  |some (c,t)=>match d with
   |some (e,1,b,z)=>match z.cells.toList.all Value.oneCell' with
    |true=>match len,ps with
     |0,[]=>some ⟨Unit,true,some (),λ_=> .own a (nv G a),λ_=>[(a,⟨nv G a,some (.rows e c t [] (kv0 G a) none)⟩)],[],[a],[]⟩
     |_,_=>none
    |false=>none
   |_=>none
def jt5{fl:Wal (Wap×Ty)}{t len a:Nat}{c:Array (Nat×War)}{q:SR}(y:o.op=.buildSlice t len c)(h:sRlt fl (yz P t) o G a len c.toList=some q):SPk P o E G q:=by
 unfold sRlt at h;split at h;{grind};rename_i k;obtain⟨d,s⟩:=yk k;split at h<;>try (cases h;done)
 split at h<;>try (cases h;done)
 rename_i e b z p;split at h<;>try (cases h;done)
 rename_i hz;split at h<;>try (cases h;done)
 rename_i m;cases h;refine⟨λ_=>rfl,λ_ _ W n F H g f i=>?_⟩;have v:=i.hn a V;have l:(H (.o a)).ver+1=nv G a:=by{rw[v.1];rfl};have r:PE P W n o F H λA w=>A=(TS.own a (nv G a)).den/\w=H.set (.o a) ⟨nv G a,some (.row e 1 0 (replicate 0 (.u (.slice none 0 0))))⟩:=
  PE.buildSlice y s (f d s) p hz V V (by rw[m];rfl) ⟨by rw[l];rfl,X⟩
 refine wam r g (zj7 g.h λx B=>X) f (ja9 λj=>?_) (.keep (zap _));rw[v.2];have:=(G a).ver_le;simp[zcc,nv,kv0];omega
end
def jjh(P:Program)(fl:Option (TypeId×Ty))(a:Nat)(o:Oper)(E:EF)(G:EG):Option SK:=match o.op with
 |.store t x y=>match asz P t with
  |some (c,k)=>match sKel c k G (evE E x) (evE E y)with
   |some q=>some q.kP
   |none=>match sRst c k G (evE E x) (evE E y)with
    |some q=>some q.kP
    |none=>none
  |none=>none
 |.makeSlice t x y=>match sRmk fl (yz P t) o G a (ztn x y) (evE E x)with
  |some q=>some q.kP
  |none=>none
 |.buildSlice t len b=>match sRlt fl (yz P t) o G a len b.toList with
  |some q=>some q.kP
  |none=>none
 |.call ⟨.builtin .append,⟨[s,x]⟩,⟨[t,d]⟩⟩=>match Nat.beq t d with
  |true=>match sKap (yz P t) o G a (evE E s) (evE E x)with
   |some q=>some q.kP
   |none=>match sRap (yz P t) o G a (evE E s) (evE E x)with
    |some q=>some q.kP
    |none=>none
  |false=>none
 |_=>none
def jb2{P:Waq}{fl:Wal (Wap×Ty)}{d:Nat}{o:Oper}{E:EF}{G:EG}{r:SK}(h:jjh P fl d o E G=some r):zou P o E G r:=by unfold jjh at h;split at h;{rename_i t x y b;(split at h<;>try (cases h;done));rename_i f k c;split at h;{rename_i q a;cases h;exact(jvr b c a).k};.split at h<;>cases h;rename_i q a;exact(jt9 b c a).k};{rename_i t x y b;split at h<;>cases h;rename_i q a;exact(jvt b a).k};{rename_i t len e b;split at h<;>cases h;rename_i q a;exact(jt5 b a).k};{rename_i s x t g b;(split at h<;>try (cases h;done));rename_i c;cases ql c;split at h;{rename_i q a;cases h;exact(jwp b a).k};.split at h<;>cases h;rename_i q a;exact(jv6 b a).k};grind
section
variable{P:Program}{W:Env}{n:Nat}{o:Oper}{E:EF}{F:PFrame}{H:PHeap}{G:EG}
def jo8{w:Wao}{t ty e:Wap}{i:TypeInfo}(y:P.underlying t=some (.slice e))(hi:P.info? e=some i)
  {g off m cap:Nat}{d:Array Wan}(v:w.heap[g]?=some (.cells d e (0,0))) (q:off<=m)
  {a:Addr}{k c:Nat}{b:Wam Wan}(x:b.length=k*i.size) (h:∀j u,b[j]?=some u->w.cell? (a.add j)=some u) (r:∀u∈b,u.oneCell'=true)
  (o:m+k<=cap) (p:m*i.size+b.length<=d.size) :
  (Builtin.append_ #[t,t] ty #[.slice (some ⟨g,off*i.size,none⟩) (m-off) (cap-off),.slice (some a) k c]).run P w =
   .ok (.slice (some ⟨g,off*i.size,none⟩) (m-off+k) (cap-off)) (w.setRow g (d.toList.take (m*i.size)++b++d.toList.drop (m*i.size+b.length)).toArray):=by
 have s:=run_firstCells_some (P:=P) w i.size k a k c b x h;have n:=run_storeCells_at P g (m*i.size) e b 0 d w v U r;simp[wd9]at n;have l:off*i.size+(m-off)*i.size=m*i.size:=by rw[<- we4];grind
 have f:m-off+k<=cap-off:=U;simp[Builtin.append_,run_underlying y,sizeOf,typeInfo,hi,Builtin.lenOf,f,s,Jr,l,n]
def jk7{w:Wao}{base:Nat}{e:Wap}{i:TypeInfo}{z:Wan}(j:z.cells.size=i.size){n m old:Nat}(p:old<n+m){xs a:Wam Wan}(h:xs.length=n*i.size)(o:a.length=m*i.size)(d:n+m<=maxLen)(b:base<=w.heap.size)(row:Wal Nat):
  (w.drew.alloc (.cells (xs.toArray++a.toArray++Builtin.zeroCells z.cells (grownCap w (n+m) old e-(n+m))) e)).ownsRow base e i.size
    (.slice (some ⟨w.heap.size,0,none⟩) (n+m) (grownCap w (n+m) old e)) (n+m) (xs++a) /\
   w.grownBy (w.drew.alloc (.cells (xs.toArray++a.toArray++Builtin.zeroCells z.cells (grownCap w (n+m) old e-(n+m))) e)) row:=by
 have g:=grownCap_ge w (n+m) old e;have f:=grownCap_le_maxLen w (n+m) old e d;have c:(xs++a).length=(n+m)*i.size:=X;refine⟨⟨c,.inr ⟨w.heap.size,_,_,rfl,b,heap_alloc_new w.drew _,g,f,?_,?_⟩⟩,⟨rfl,rfl,rfl,V,λk l _=>by first|exact heap_alloc_old _ _ _ l|exact heap_alloc_old _ _ l⟩⟩
 ·simp[Array.size_append,wfc,size_zeroCells,j,h,o,<- we4]
  grind
 grind
def z4t{V:Nm->Wan}{w:Wao}(v:HRel P W H V w){id:Nm}{e k m:Nat}{cs:Wam PV}{bd:PBody}(s:(H id).body=some bd)(t:bd=.row e k m cs\/bd=.que e k m cs):
  ∃f a b c,w.ownsRow W.w.heap.size e k f (a+m) (b++c)/\b.length=a*k/\zum a k f (V id)/\(∀u∈b++c,u.oneCell'=true)/\RpL W.Z H V w cs c:=by
 obtain⟨c,j,l⟩:=v.body id bd s;rcases t with rfl|rfl
 ·obtain⟨g,n⟩:=j;refine⟨V id,0,[],c,X,Waf,?_,X,l⟩;rcases g.2 with⟨d,x⟩|⟨p,h,i,d,_,_,o,_⟩
  ·exact⟨none,0,0,none,d,d,wcs _,wcs _,.inl ⟨rfl,rfl⟩⟩
  ·exact⟨_,_,_,_,d,d,wdz _,o,.inr ⟨p,0,rfl,rfl,.inl Waf⟩⟩
 ·obtain⟨f,a,b,g,n,q,r⟩:=j;exact⟨f,a,b,c,g,n,q,r,l⟩
theorem wb4{lo x:Operand}{id:Nm}{t ver e k m:Nat}{T:IntKind}{z:Int}{cs:List PV}{bd:PBody}{K:PV->PHeap->Prop}(ho:o.op=.slice t x (some lo) none none)(M:Zc n o)(ht:esz P t=some k)(hx:evP F x=.ps id ver)(hH:H id=⟨ver,some bd⟩)(hq:bd=.row e k m cs\/bd=.que e k m cs)(hy:evP F lo=.u (.int T z))(h0:0<=z)(hz:z.toNat<=m)
  (hk:K (.ps id (ver+1)) (H.set id ⟨ver+1,some (.que e k (m-z.toNat) (cs.drop (z.toNat*k)))⟩)):PE P W n o F H K:=λV a w G=>by
 obtain⟨e',f,hu,S,rfl⟩:=zgx ht;have y:=Rp.eval (P:=P) x λt _=>G.slot t;have A:=Rp.eval (P:=P) lo λt _=>G.slot t;rw[hx]at y;rw[hy]at A;have B:a.eval x=V id:=by
  generalize a.eval x=q at y;cases y with
  |ps _ _ _ c0 hq=>grind
 have e2:a.eval lo=.int T z:=by generalize a.eval lo=q at A;cases A;rfl
 obtain⟨v0,c,Y,Z,l,R,D,h1,hR⟩:=z4t G.heap (by rw[hH]) hq;have r:=Zh D;obtain⟨ad,mm,cap,d,hV,I,a3,O,s⟩:=D;have Q:mm=c+m:=by
  rcases l.2 with⟨B,e0⟩|⟨g,cap,a9,B,_⟩<;>rw[hV]at B<;>cases B
  ·omega
  rfl
 subst Q;rw[Nat.add_sub_cancel_left]at I;have L:=Jn (P:=P) (w:=w) (isS:=true) (cap:=cap-c) (.inr ⟨T,z,rfl,h0,rfl⟩) (.inl ⟨rfl,rfl⟩) (by omega) (by omega);have N:(execOp a.eval o).run P w=.ok (.value (.slice (if cap-c=z.toNat then d else d.map (·.add (z.toNat*f.size))) (m-z.toNat) (cap-c-z.toNat))) w:=by
  simp[execOp,ho];simp[B,I,e2,Instr.sliceAt,Instr.slice,run_underlying hu,L,sizeOf,typeInfo,S]
 have j:zum (c+z.toNat) f.size v0 (.slice (if cap-c=z.toNat then d else d.map (·.add (z.toNat*f.size))) (m-z.toNat) (cap-c-z.toNat)):=by
  refine⟨ad,c+m,cap,_,hV,by rw[show m-z.toNat=c+m-(c+z.toNat) by omega,show cap-c-z.toNat=cap-(c+z.toNat) by omega],by omega,O,?_⟩;rcases s with⟨r1,r2⟩|⟨b,oo,r1,rfl,r3⟩
  ·grind
  ·right;by_cases hc:cap-c=z.toNat
   ·grind
   ·refine⟨b,oo+z.toNat*f.size,r1,by rw[if_neg hc];simp[Jr],?_⟩
    grind
 have hl:=l.1;rw[wc4,R,we4]at hl;have b6:Z.length=m*f.size:=by omega
 have b5:z.toNat*f.size<=m*f.size:=weg _ hz;have h:Turn W H V w id ⟨ver+1,some (.que e f.size (m-z.toNat) (cs.drop (z.toNat*f.size)))⟩ (.slice (if cap-c=z.toNat then d else d.map (·.add (z.toNat*f.size))) (m-z.toNat) (cap-c-z.toNat)) w:=
  ⟨G.heap.below,wcs _,λb _ _=>rfl,λg hg=> .inr ⟨by grind,by rw[r,<- Zh j];omega⟩,.inl (by grind)⟩
 refine zh N ⟨_,_,zo V id _,hk,G.turn h (λa8 C=>?_) o.dst M ?_⟩
 ·cases C;refine⟨Z.drop (z.toNat*f.size),⟨v0,c+z.toNat,Y++Z.take (z.toNat*f.size),?_,?_,j,?_⟩,?_⟩
  ·rw[wc2,wd2,show c+z.toNat+(m-z.toNat)=c+m by omega];omega
  ·grind
  ·grind
  ·refine⟨by simp[hR.1],λi p v J h4=>?_⟩;rw[List.getElem?_drop]at J h4;exact h.rp (hR.2 _ p v J h4)
 ·refine .ps _ _ _ ?_ λ_ _=>?_
  ·simp[PHeap.set]
  ·simp[zo]
def wbu{s x:War}{t e:Wap}{k b d ver m B:Nat}{id:Nm}{z:Wan}{cs G:Wam PV}{K:PV->Wau->Prop}(ho:o.op=.call { callee :=.builtin .append,args:=#[s,x],argTypes:=#[t,t] })(hd:o.dst=some d)(k2:d<n)(ht:yz P t=some (e,k,b,z))
  (hs:evP F s=.ps id ver) (hH:H id=⟨ver,some (.que e k m cs)⟩) (hx:zxu H k (evP F x)=some (B,G)) (c1:∀p∈G,V4 H p=true) (d5:m+B<=maxLen) (a5:(m+B)*b<=140737488355328)
  (hk:K (.ps id (ver+1)) (H.set id ⟨ver+1,some (.que e k (m+B) (cs++G))⟩)):PE P W n o F H K:=λV a w hr=>by
 obtain⟨i,M,hi,c8,c6,rfl,c7,b4⟩:=Qr ht;have i4:a.eval s=V id:=by
  have:=Rp.eval (P:=P) (F:=F) (a:=a) (Z:=W.Z) (H:=H) (V:=V) (w:=w) s λt _=>hr.slot t;rw[hs]at this;generalize a.eval s=q at this;cases this with
  |ps _ _ _ k9 hh=>grind
 obtain⟨v0,l,a1,vs,y,a6,b8,h1,hR⟩:=z4t hr.heap (bd :=.que e k m cs) (by rw[hH]) (.inr rfl);obtain⟨ad,c,i7,f4⟩:=zlg hr.heap (Rp.eval (P:=P) (F:=F) (a:=a) x λt _=>hr.slot t) hx;have c5:∃f,RpL W.Z H V w G f/\(∀u∈f,u.oneCell'=true)/\((B=0/\f=[])\/∃b,ad=some b/\f.length=B*k/\(∀j u,f[j]?=some u->w.cell? (b.add j)=some u)/\∀u∈f,u.oneCell'=true):=by
  rcases f4 with⟨rfl,rfl⟩|⟨b,f,A,e2,a4,e4⟩
  ·exact⟨[],⟨rfl,λi p v h=>Waf⟩,(λu M=>X),.inl ⟨rfl,rfl⟩⟩
  ·have f2:∀u∈f,u.oneCell'=true:=λu M=>by
    obtain⟨j,hj,rfl⟩:=wei M;have e8:j<G.length:=by rw[a4.1];omega
    exact(a4.2 j _ _ (wch e8) (wch hj)).leaf hr.heap (c1 _ (wcm e8))
   grind
 obtain⟨f,a4,f2,i3⟩:=c5;have k6:=zac y;have g6:=Zh b8;have f1:vs.length=m*k:=by
  have:=y.1
  grind
 have Q:RpL W.Z H V w (cs++G) (vs++f):=RpL.append hR a4;have fin:∀(C:Nat)(N vf:Wan)(w':Wao)(D:Wam Wan),
   (execOp a.eval o).run P w=.ok (.value N) w'->w'.ownsRow W.w.heap.size e k vf (C+(m+B)) (D++(vs++f))->D.length=C*k->w.grownBy w' v0.ownBlock ->
   (∀g,qc vf=some g->w.heap.size<=g\/qc v0=some g)->zum C k vf N->(∀u∈D,u.oneCell'=true) ->
   o.wp P a w (λa' w'=>∃p H' V',K p H'/\Rel P W n (F.put o.dst p) H' V' a' w') (λ_ _ _=>False):=by
  intro C N vf w' D g9 c4 f3 b9 d7 b1 k0;refine zh g9 ⟨_,_,zo V id N,hk,?_⟩;have a0:Turn W H V w id ⟨ver+1,some (.que e k (m+B) (cs++G))⟩ N w':=by
   refine⟨hr.heap.below.grown b9 hr.heap.below.size λkk hk=>((y.lt kk hk).1),b9.size,λbb h7 hn=>b9.block bb h7 λe'=>hn ⟨X,X⟩,λg hg=>?_,.inl X⟩
   ·rcases d7 g (by rw[<- Zh b1];omega)with h|h
    ·omega
    grind
  rw[hd];refine hr.turn a0 (λbd g4=>?_) (some d) (λt ht=>X) ?_
  ·cases g4;refine⟨vs++f,⟨vf,C,D,c4,f3,b1,λu M=>?_⟩,⟨Q.1,λi p v h3 h4=>a0.rp (Q.2 i p v h3 h4)⟩⟩
   grind
  ·refine .ps _ _ _ ?_ λ_ _=>?_
   ·simp[PHeap.set]
   ·simp[zo]
 have I:∀u∈a1,u.oneCell'=true:=λu M=>h1 u (wem _ M);obtain⟨j4,mm,r,O,hV,f5,b3,i0,R⟩:=b8;have i1:mm=l+m:=by
  rcases y.2 with⟨A,e0⟩|⟨g,r,b6,A,_⟩<;>rw[hV]at A<;>cases A
  ·omega
  rfl
 subst i1;rw[Nat.add_sub_cancel_left]at f5;have L:∀{N w'},(Builtin.append_ #[t,t] o.type #[.slice O m (r-l),.slice ad B c]).run P w=.ok N w'->(execOp a.eval o).run P w=.ok (.value N) w':=λY=>by
  unfold execOp;simp only[ho,resolve,invoke,builtin,Sem.run_bind,Sem.run_pure,Result.andThen_ok,wfh,wc7,wea,i4,f5,i7,Y]
 have b2:zum l k v0 (.slice O m (r-l)):=⟨_,_,_,_,hV,Waf,b3,i0,R⟩
 rcases i3 with⟨rfl,rfl⟩|⟨bb,rfl,hl,hc,b7⟩
 ·-- nothing is appended
  refine fin l (.slice O m (r-l)) v0 w a1 (L ?_) X a6 ⟨rfl,rfl,rfl,wcs _,λ_ _ _=>rfl⟩ (λg hg=> .inr hg) b2 I;rcases R with⟨rfl,rfl⟩|⟨bk,oo,rfl,rfl,_⟩
  ·rcases y.2 with⟨A,h0⟩|⟨g',a9,d2,A,_⟩<;>rw[hV]at A<;>injection A with e2 e3 e4<;>try (cases e2;done)
   have h0:m=0:=U;subst h0;subst e4;cases ad<;>simp[Builtin.append_,run_underlying M,sizeOf,typeInfo,hi,Builtin.lenOf,Builtin.firstCells,loadCells,loadCellsFrom]
  ·have:m<=r-l:=U;cases ad<;>simp[Builtin.append_,run_underlying M,sizeOf,typeInfo,hi,Builtin.lenOf,Builtin.firstCells,loadCells,loadCellsFrom,this,storeCells]
 ·rcases y.2 with⟨A,h0⟩|⟨g,a9,b6,A,g5,e7,i9,g7,g8,i5⟩
  ·-- nil
   rw[hV]at A;injection A with e2 e3 e4
   subst e2;subst e4;have h8:m=0:=U;have c2:l=0:=U;subst h8;subst c2;have g3:O=none:=by
    grind
   subst g3;have i6:vs=[]:=wdp U;subst i6;obtain⟨N,w',Y,h4,h5,h6⟩:=run_append_own (P:=P) w W.w.heap.size t o.type e i z k i.bytes M hi c8 c6 rfl c7 b4 (.slice none 0 0) 0 [] (World.ownsRow_nil _ _ _ _) bb B c f hl hc b7 U U hr.heap.below.size;obtain⟨l3,l4,J,d4,_⟩:=run_append_own (P:=P) w w.heap.size t o.type e i z k i.bytes M hi c8 c6 rfl c7 b4 (.slice none 0 0) 0 [] (World.ownsRow_nil _ _ _ _) bb B c f hl hc b7 U U (wcs _);rw[Y]at J;cases J;have g1:∀g,qc N=some g->w.heap.size<=g:=λg hg=>by
    refine(d4.lt g ?_).1;rw[zac d4];omega
   have b8:zum 0 k N N:=by
    rcases h4.2 with⟨A,e2⟩|⟨g',a9,d2,A,_,_,e5,_⟩
    ·grind
    ·exact⟨_,_,_,_,A,A,wdz _,e5,.inr ⟨g',0,rfl,rfl,.inl Waf⟩⟩
   grind
  ·rw[hV]at A;cases A;obtain⟨oo,rfl,k7⟩:∃oo,O=some ⟨g,oo,none⟩/\(oo=l*k\/r=l):=by
    grind
   subst c6;by_cases T:l+m+B<=r
   ·by_cases h9:B=0
    ·subst h9;have i2:f=[]:=wdp U;subst i2;refine fin l (.slice (some ⟨g,oo,none⟩) m (r-l)) v0 w a1 (L ?_) X a6 ⟨rfl,rfl,rfl,wcs _,λ_ _ _=>rfl⟩ (λg hg=> .inr hg) b2 I;have:m<=r-l:=U;simp[Builtin.append_,run_underlying M,sizeOf,typeInfo,hi,Builtin.lenOf,Builtin.firstCells,loadCells,loadCellsFrom,this,storeCells]
    ·have S:oo=l*i.size:=U;subst S;have d8:(l+m)*i.size+f.length<=b6.size:=by rw[hl,g8,<- we4];exact weg _ T
     have a7:=jo8 (P:=P) (c:=c) (ty:=o.type) M hi e7 b3 hl hc b7 T d8;rw[Nat.add_sub_cancel_left]at a7;have f0:(a1++(vs++f)).length=(l+(m+B))*i.size:=X;refine fin l _ (.slice (some ⟨g,0,none⟩) (l+(m+B)) r) _ a1 (L a7) ⟨f0,.inr ⟨g,r,_,rfl,g5,setRow_heap w g b6 _ e _ e7,U,g7,?_,?_⟩⟩ a6 ⟨rfl,rfl,rfl,Waf,λk _ hk=>setRow_other w g k _ (λe=>hk (by rw[hV];simp[Value.ownBlock,e]))⟩ (λg' e6=> .inr (by rw[hV];trivial)) ⟨_,_,_,_,rfl,Waf,U,U,.inr ⟨g,_,rfl,rfl,.inl rfl⟩⟩ I
     ·grind
     grind
   ·have c3:∀j u,vs[j]?=some u->w.cell? ((⟨g,oo,none⟩:Addr).add j)=some u:=λj u hj=>by
     by_cases he:r=l
     ·grind
     ·have S:oo=l*i.size:=U;subst S;have:=y.cells (g:=g) (by rw[hV];rfl) (l*i.size+j) u (by rw[wcz U,a6,Nat.add_sub_cancel_left];omega);rw[Jr]at this;rw[Jr]
      grind
    have d6:((m+B:Nat):Int)<=9223372036854775807:=by simp only[maxLen]at d5;omega
    have a7:=run_append_grow (P:=P) w t o.type e i z M hi c8 ⟨g,oo,none⟩ m (r-l) vs f1 c3 bb B c f hl hc U d6 (growslice_fits U a5);obtain⟨k3,h2⟩:=jk7 (w:=w) (base:=W.w.heap.size) (e:=e) c7 (old:=r-l) U f1 hl d5 hr.heap.below.size v0.ownBlock;exact fin 0 _ _ _ [] (L a7) (by rw[wd0,web];trivial) Waf h2 (λg' e6=> .inl (by cases e6;simp)) ⟨_,_,_,_,rfl,rfl,wdz _,grownCap_ge w _ _ e,.inr ⟨_,0,rfl,rfl,.inl Waf⟩⟩ (λu M=>X)
def quel(G:EG)(id:Nat):Option (TypeId×(t:Ty)×List t.D):=match (G id).b with
 |some (.row a t l)=>some (a,⟨t,l⟩)
 |some (.que a t l)=>some (a,⟨t,l⟩)
 |_=>none
def jlu{id:Nat}{r:Wap×(t:Ty)×Wam t.D}(h:quel G id=some r)(c:AgN H G id):∃a,H (.o id)=⟨(G id).ver,some a⟩/\(a=.row r.1 (wid r.2.1) r.2.2.length (r.2.2.flatMap (jp r.2.1))\/a=.que r.1 (wid r.2.1) r.2.2.length (r.2.2.flatMap (jp r.2.1))):=by unfold quel at h;rw[c.1];unfold vz;split at h<;>cases h;{rename_i b;rw[b];exact⟨_,rfl,.inl rfl⟩};.rename_i b;rw[b];exact⟨_,rfl,.inr rfl⟩
def sQsl(es:Option Nat)(G:EG)(x y:TS):Option SR:=match x with
 |.own id a=>match Nat.beq (G id).ver a with
  |true=>match quel G id with
   |some r=>match oeq es (some (wid r.2.1))with
    |true=>match zgy y with
     |some z=>some (.memO Nat (zrh r.2.2 z) (.own id (a+1)) id (λj=>⟨a+1,some (.que r.1 r.2.1 (r.2.2.drop j))⟩) [])
     |none=>none
    |false=>none
   |none=>none
  |false=>none
 |_=>none
def z4x{t:Ty}:∀(l:Wam t.D)j,(l.drop j).flatMap (jp t)=(l.flatMap (jp t)).drop (j*wid t)
 |l,0=>V
 |[],j+1=>V
 |x::l,j+1=>by rw[List.drop_succ_cons,z4x l j,wdj,Nat.succ_mul,Nat.add_comm,<- List.drop_drop,wfa (ju t x)]
def juu{t:Wap}{x y:War}{q:SR}(g:o.op=.slice t x (some y) none none)(h:sQsl (esz P t) G (evE E x) (evE E y)=some q):SOk P o E G q:=by
 have i:x∈o.op.operands:=Wak g;have k:y∈o.op.operands:=Wak g;unfold sQsl at h;split at h<;>try (cases h;done)
 rename_i id v u;split at h<;>try (cases h;done)
 rename_i s;cases ql s;split at h<;>try (cases h;done)
 rename_i r p;split at h<;>try (cases h;done)
 rename_i b;have b:=zjt b;split at h<;>cases h;rename_i z hz;obtain⟨A,f⟩:=Zp hz;refine SOk.memO λj e W n F H d a=>?_;unfold zrh at e;split at e<;>cases e;rename_i c;simp[wco,wc9]at c;obtain⟨w,l,m⟩:=jlu p (a.hn id V);refine wb4 g d b (by rw[a.ev i,u];rfl) l m (by rw[a.ev k,f]) c.1 U ⟨Wab,?_⟩;unfold vz;simp[wc5,BD.den,List.length_drop,z4x]
def sQap(f:SE)(o:Oper)(G:EG)(s x:TS):Option SR:=match Jq o with
 |false=>none
 |true=>match f with
  |none=>none
  |some (e,k,b,_)=>match s with
   |.own id a=>match Nat.beq (G id).ver a with
    |true=>match (G id).b with
     |some (.que c ty l)=>match Nat.beq c e && (Nat.beq (wid ty) k && zhz ty)with
      |true=>match jc9 ty G x with
       |some r=>some (.memO (List ty.D) (apO b l r.1) (.own id (a+1)) id (λd=>⟨a+1,some (.que c ty d)⟩) r.2)
       |none=>none
      |false=>none
     |_=>none
    |false=>none
   |_=>none
def ju8{t:Nat}{s x:War}{q:SR}(m:o.op=.call { callee :=.builtin .append,args:=#[s,x],argTypes:=#[t,t] })(h:sQap (yz P t) o G (evE E s) (evE E x)=some q):SOk P o E G q:=by
 have p:s∈o.op.operands:=by{rw[m];simp[Op.operands,Call.operands]};have v:x∈o.op.operands:=by{rw[m];simp[Op.operands,Call.operands]};unfold sQap at h;split at h;{grind};rename_i f;obtain⟨d,f⟩:=yk f;split at h;{grind};rename_i e k b z u;split at h<;>try (cases h;done)
 rename_i id N I;split at h<;>try (cases h;done)
 rename_i L;cases ql L;split at h<;>try (cases h;done)
 rename_i M ty l C;split at h<;>try (cases h;done)
 rename_i c;simp only[wco]at c;have A:=wcn c.1;have B:=wcn c.2.1;subst A;subst B;split at h<;>cases h;rename_i r D;refine SOk.memO λQ j W n F H g a=>?_;obtain⟨b1,y,rfl⟩:=za1 j;have w:=zms D rfl λi O=>a.h i X;refine wbu m f (g d f) u (by rw[a.ev p,I];rfl) (by rw[a.h id V];unfold vz;rw[C];rfl) (by rw[a.ev v];omega) (zf9 c.2.2 _) b1 y ⟨Wab,?_⟩;simp[vz,wc5,BD.den,wc4,wer]
end
def jtl(P:Program)(o:Oper)(E:EF)(G:EG):Option SK:=match o.op with
 |.slice t x (some y) none none=>match sQsl (esz P t) G (evE E x) (evE E y)with
  |some q=>some (q.k G)
  |none=>none
 |.call ⟨.builtin .append,⟨[s,x]⟩,⟨[t,a]⟩⟩=>match Nat.beq t a with
  |true=>match sQap (yz P t) o G (evE E s) (evE E x)with
   |some q=>some (q.k G)
   |none=>none
  |false=>none
 |_=>none
def jjc{P:Waq}{o:Oper}{E:EF}{G:EG}{r:SK}(h:jtl P o E G=some r):zou P o E G r:=by unfold jtl at h;split at h;{rename_i t x y a;split at h<;>cases h;rename_i q b;exact(juu a b).k};{rename_i s x t d a;(split at h<;>try (cases h;done));rename_i c;cases ql c;split at h<;>cases h;rename_i q b;exact(ju8 a b).k};grind
section
variable{P:Program}{W:Env}{n:Nat}{o:Oper}{E:EF}{F:PFrame}{H:PHeap}{G:EG}
def z43{kt t:Ty}{it kv i v:Nat}{es:Wam (kt.D×Wam t.D×Unit)}{h:Hole}:(BD.mrows kt it t es kv h).den i v=V3 (es.map λe=>oV kt e.1) (range es.length) es.length ((range es.length).map (h.cell i v)):=rfl
def zmt{id it kv:Nat}{kt t:Ty}{es:Wam (kt.D×Wam t.D×Unit)}{h:Hole}(a:AgN H G id)(f:(G id).b=some (.mrows kt it t es kv h)):
  H (.o id)=⟨(G id).ver,some (V3 (es.map λe=>oV kt e.1) (range es.length) es.length ((range es.length).map (h.cell id (G id).cv)))⟩/\(G id).cv=(G id).ver+kv/\(∀j,(H (.c id j)).ver=(G id).cv)/\∀j r,h.is j=false->(es.map λe=>e.2.1)[j]?=some r->H (.c id j)=⟨(G id).cv,some (.row it (wid t) r.length (r.flatMap (jp t)))⟩:=by
 refine⟨?_,by unfold GB.cv;rw[f];rfl,λj=>by rw[a.2];rfl,λj r g d=>?_⟩
 ·rw[a.1,<- z43 (it:=it) (kv:=kv)];unfold vz;grind
 ·rw[wcv]at d;obtain⟨e,i,rfl⟩:=wct.1 d;rw[a.2];unfold zcc;rw[f];simp[BD.ch,g,i]
def zg1{b a:Wau}{σ:Nm->Wal Nm}{D:Wam Nat}{id it ver ver1 kv:Nat}{kt t:Ty}{es:Wam (kt.D×Wam t.D×Unit)}{h:Hole}{cs:Wam PV}
  (hout:∀k,¬Of (id::D) k->a k=b k/\σ k=some k) (d:∀k,k.rt=some id->a k=Qx ⟨ver,some (.mrows kt it t es kv h)⟩ k)
  (q:∀k,Of D k->((a k).body=none/\(b k).ver<=(a k).ver)\/((b k).ver<(a k).ver/\∃x n,σ k=some x/\Of (id::D) x/\(a k).body=some n/\(b x).body=some n/\∀c∈n.cs,NoP c))
  (p:b (.o id)=⟨ver1,some (V3 (es.map λe=>oV kt e.1) (range es.length) es.length cs)⟩) (i:ver1<=ver) (hσ:σ (.o id)=some (.o id)) (y:∀j,(b (.c id j)).ver<ver+kv) (g:cs.length=es.length)
  (s:∀j r,h.is j=false->(es.map λe=>e.2.1)[j]?=some r->(∃x v,cs[j]?=some (.ps x v)/\σ (.c id j)=some x/\Of (id::D) x/\b x=⟨v,some (.row it (wid t) r.length (r.flatMap (jp t)))⟩)\/(r=[]/\cs[j]?=some (.u (.slice none 0 0))/\σ (.c id j)=none))
  (f:∀k l x,Of (id::D) k->Of (id::D) l->(a k).body.isSome=true->(a l).body.isSome=true->σ k=some x->σ l=some x->k=l):Tell (id::D) b a σ:=by
 refine z48 (bd2:=(BD.mrows kt it t es kv h).den id (ver+kv)) hout (d (.o id) rfl) (λj=>?_) q p i hσ y (by simpa [V3,PBody.cs]using g) (λw m v z h=>?_) (by rw[z43];simp[V3,PBody.cs]) s f
 ·rw[d _ rfl];simp only[Qx,zcc,wdv,BD.ch,kidB,wcv,Option.map_map];rfl
 assumption
structure MR(kt:Ty)where
 id:Nat
 it:TypeId
 t:Ty
 es:List (kt.D×List t.D×Unit)
 kv:Nat
def jtb(G:EG)(kt:Ty):TS->Option (MR kt)
 |.own id d=>match Nat.beq (G id).ver d with
  |true=>match (G id).b with
   |some (.mrows c e t a kv none)=>match Dyn.as ⟨mty c t,a⟩ (mty kt t)with
    |some a=>some ⟨id,e,t,a,kv⟩
    |none=>none
   |_=>none
  |false=>none
 |_=>none
def z5l{kt:Ty}{x:TS}{r:MR kt}(h:jtb G kt x=some r):x=.own r.id (G r.id).ver/\(G r.id).b=some (.mrows kt r.it r.t r.es r.kv none):=by
 unfold jtb at h;split at h<;>try (cases h;done)
 split at h<;>try (cases h;done)
 rename_i d;split at h<;>try (cases h;done)
 rename_i c;split at h<;>cases h;rename_i a;have:=wag a;simp_all
def z9z{κ α:Type}(eqb:κ->κ->Bool)(k:κ)(es:List (κ×List α×Unit)):Option (Nat×List (κ×List α×Unit)):=match kIx eqb k (es.map λe=>e.1)with
 |some j=>some (j,es)
 |none=>some (es.length,es++[(k,[],())])
def nilZ(P:Program)(e:TypeId):Bool:=match (P.info? e).bind (·.zero)with
 |some z=>jl5 z
 |none=>false
def jtm{e:Wap}(h:nilZ P e=true):∀w,(zeroValue e).run P w=.ok (.slice none 0 0) w:=by unfold nilZ at h;split at h;{rename_i z hz;cases zxo h;obtain⟨i,a,b⟩:=wdi.1 hz;intro w;unfold zeroValue;rw[Sem.run_bind,run_typeInfo w a];simp_all};grind
def sMen(P:Program)(b:TypeId->Option KY)(t:TypeId)(G:EG)(x y:TS):Option SR:=match zpj P t with
 |none=>none
 |some a=>match b a.1 with
  |none=>none
  |some q=>match jtb G q.kt x with
   |none=>none
   |some m=>match nilZ P a.2 with
    |false=>none
    |true=>match toT q.kt y with
     |none=>none
     |some k=>some ⟨Nat×List (q.kt.D×List m.t.D×Unit),false,z9z q.eqb k m.es,λy=> .tup [.kid m.id (y.1:Int) ((G m.id).cv+1),.v ⟨.int .i64,(y.1:Int)⟩],λy=>[(m.id,⟨(G m.id).ver,some (.mrows q.kt m.it m.t y.2 (m.kv+1) none)⟩)],[],[m.id],[]⟩
def jt4{ky:Wap->Wal KY}(a4:z24 P ky){t:Wap}{x y:War}{q:SR}(ho:o.op=.mapEntry t x y)(h:sMen P ky t G (evE E x) (evE E y)=some q):SPk P o E G q:=by
 have a7:x∈o.op.operands:=Wak ho;have a8:y∈o.op.operands:=Wak ho;unfold sMen at h;split at h<;>try (cases h;done)
 rename_i ke a3;split at h<;>try (cases h;done)
 rename_i C hq;split at h<;>try (cases h;done)
 rename_i m hm;split at h<;>try (cases h;done)
 rename_i hz;split at h<;>cases h;rename_i k Q;obtain⟨a6,hK⟩:=a4 _ _ hq;have hz:=jtm hz;have ht:=zid a3;obtain⟨S,T⟩:=z5l hm;obtain⟨id,it,ty,a,kv⟩:=m;simp only at S T;refine⟨λ_=>rfl,λ(r:Nat×Wam (C.kt.D×Wam ty.D×Unit))(g:z9z C.eqb k a=some r)W n F H A z M=>?_⟩;have hn:=M.hn id Waf;obtain⟨r1,r2,r3,r4⟩:=zmt hn T;have I:∀Z V w v,Rp Z H V w (evP F y) v->v=oV C.kt k:=λZ V w v hv=>by{rw[M.ev a8]at hv;exact zpi Q a6 hv};have a0:evP F x=.ps (.o id) (G id).ver:=by{rw[M.ev a7,S];rfl};have hH:H (.o id)=⟨(G id).ver,some (V3 ((a.map λe=>e.1).map (oV C.kt)) (range a.length) a.length ((range a.length).map (Hole.cell id (G id).cv none)))⟩:=by{rw[r1,wd3];rfl};show PE P W n o F H λp' Y=>p'=(TS.tup [.kid id (r.1:Int) ((G id).cv+1),.v ⟨.int .i64,(r.1:Int)⟩]).den/\Y=qv H [(id,⟨(G id).ver,some (.mrows C.kt it ty r.2 (kv+1) none)⟩)];have b:∀k(L:Wam (C.kt.D×Wam ty.D×Unit)),k.rt=some id->qv H [(id,⟨(G id).ver,some (.mrows C.kt it ty L (kv+1) none)⟩)] k=Qx ⟨(G id).ver,some (.mrows C.kt it ty L (kv+1) none)⟩ k:=λk L Q=>Jk Waf Waf Q;unfold z9z at g;split at g<;>cases g
 .rename_i j J;have O:j<a.length:=by{obtain⟨_,f,_⟩:=zck J;simpa using(wcl.1 f).1};have R:PE P W n o F H λp' Y=>p'=.tup [.ps (.c id j) (G id).cv,.u (.int .i64 (j:Nat))]/\Y=H:=
   waw z (wbj hK ho ht hH a0 I J (by rw[zat O];rfl) (by simp[O])) ⟨rfl,rfl⟩
  refine wam R A A.h z (zg1 (D:=[]) (λk Q=>⟨Q3 λi N e=>Q ⟨i,N,e⟩,rfl⟩) (λk Q=>b k a Q) (λk⟨i,N,_⟩=>by cases N) r1 (wcs _) rfl (λj=>X) Waf (λj r J g=> .inl ⟨.c id j,(G id).cv,?_,rfl,⟨id,Waf,rfl⟩,r4 j r rfl g⟩) λk d x _ _ _ _ S T=>by cases S;cases T;rfl) ?_;{rw[zat (by simpa using(wcl.1 g).1)];rfl}
  .simp only[TS.den,zq];refine .tup rfl λi p q f l=>?_;match i,f,l with
   |0,f,l=>
    cases f;cases l;refine .nm rfl (λ_=>by rw[r4 j _ rfl (by rw[wcv,wch O];rfl)];simp) ?_;rw[b _ _ rfl];show(G id).cv+1<=(G id).ver+(kv+1);omega
   |1,f,l=>cases f;cases l;exact .keep (.noP (.u _))
 .rename_i J;have R:PE P W n o F H λp' Y=>p'=.tup [.u (.slice none 0 0),.u (.int .i64 (a.length:Nat))]/\Y=H.set (.o id) ⟨(G id).ver,some (V3 ((a.map (λe=>e.1)++[k]).map (oV C.kt)) (range a.length++[a.length]) (a.length+1) ((range a.length).map (Hole.cell id (G id).cv none)++[.u (.slice none 0 0)]))⟩:=
   wbd hK ho z ht hz hH a0 I J ⟨rfl,rfl⟩
  have hs:∀{d x:Nm},(if d=.c id a.length then none else some d)=some x->x=d:=λ{d x}h=>by{split at h<;>cases h;rfl};refine wam (σ:=λd=>if d=.c id a.length then none else some d) R A (λd=>?_) z (zg1 (D:=[]) (cs:=(range a.length).map (Hole.cell id (G id).cv none)++[.u (.slice none 0 0)]) (λd s=>?_) (λd s=>b d _ s) (λk⟨i,N,_⟩=>by cases N) ?_ (wcs _) Wab (λj=>by rw[Qf Waf,r3,r2];omega) Waf (λj r _ g=>?_) λk d x _ _ _ _ S T=>by rw[<- hs S,<- hs T]) ?_;{unfold PHeap.set;split;{intro bd hb c hc;cases hb;rcases wcu.1 (show c∈(range a.length).map (Hole.cell id (G id).cv none)++[.u (.slice none 0 0)]from hc)with h|h;{exact zrg _ h};.simp[wcr]at h;subst h;exact .noP (.u _)};.exact A.h d};{rw[Qf λe=>s ⟨id,Waf,by rw[e];rfl⟩,if_neg λe=>s ⟨id,Waf,by rw[e];rfl⟩];exact⟨Q3 λi N e=>s ⟨i,N,e⟩,rfl⟩};{unfold PHeap.set;rw[if_pos rfl];simp[List.range_succ,Function.comp_def]};{rcases Nat.lt_or_ge j a.length with B|B;{rw[wdb,wcx (by simpa using B)]at g;refine .inl ⟨.c id j,(G id).cv,?_,by rw[if_neg Wag],⟨id,Waf,rfl⟩,by rw[Qf Waf];exact r4 j r rfl g⟩;rw[wcx (by simpa using B),zat B];rfl};.have a5:=(wcl.1 g).1;simp at a5;have:j=a.length:=U;subst this;simp at g;exact .inr ⟨g,Waf,by rw[if_pos rfl]⟩}
  .simp only[TS.den,zq];refine .tup rfl λi p q f l=>?_;match i,f,l with
   |0,f,l=>
    cases f;cases l;refine .nil Waf ?_;rw[b _ _ rfl];show(G id).cv+1<=(G id).ver+(kv+1);omega
   |1,f,l=>cases f;cases l;exact .keep (.noP (.u _))
def z29{κ α:Type}(es:List (κ×List α×Unit))(p:Nat)(z:Int)(r:List α):Option (List (κ×List α×Unit)):=match decide (z=(p:Int))with
 |true=>match es[p]? with
  |some e=>some (es.set p (e.1,r,()))
  |none=>none
 |false=>none
def jl9{κ α:Type}{es es':Wam (κ×Wam α×Unit)}{p:Nat}{z:Int}{r:Wam α}(h:z29 es p z r=some es'):z=(p:Int)/\∃e,es[p]?=some e/\es'=es.set p (e.1,r,()):=by unfold z29 at h;grind
def sMes(G:EG)(x s y:TS):Option SR:=match x with
 |.own id c=>match Nat.beq (G id).ver c with
  |true=>match (G id).b with
   |some (.mrows e d t f kv (some p))=>match zt4 G d t y with
    |some r=>match s with
     |.v ⟨.int .i64,z⟩=>match Nat.beq r.1 id with
      |false=>some ⟨List (e.D×List t.D×Unit),false,z29 f p z r.2,λ_=>UND,λa=>[(id,⟨(G id).ver,some (.mrows e d t a (kv+1) none)⟩),(r.1,⟨(G r.1).cv+1,none⟩)],[],[id,r.1],[]⟩
      |true=>none
     |_=>none
    |none=>none
   |_=>none
  |false=>none
 |_=>none
def z7t{α β:Type}{f:α->β}{l:Wam α}{p:Nat}{e e':α}(h:l[p]?=some e)(a:f e'=f e):(l.set p e').map f=l.map f:=by apply wd1;grind
def jwb{t:Wap}{x s y:War}{q:SR}(A:o.op=.entryStore t x s y)(h:sMes G (evE E x) (evE E s) (evE E y)=some q):SPk P o E G q:=by
 have T:x∈o.op.operands:=Wak A;have S:s∈o.op.operands:=Wak A;have Y:y∈o.op.operands:=Wak A;unfold sMes at h;split at h<;>try (cases h;done)
 rename_i id c0 hx;split at h<;>try (cases h;done)
 rename_i hv;cases ql hv;split at h<;>try (cases h;done)
 rename_i g it ty es kv p hb;split at h<;>try (cases h;done)
 rename_i r hr;obtain⟨c,r⟩:=r;obtain⟨hy,N⟩:=zhq hr;split at h<;>try (cases h;done)
 rename_i z hz;split at h<;>cases h;rename_i R;have R:c≠id:=λe=>X;refine⟨λ_=>rfl,λ(I:Wam (g.D×Wam ty.D×Unit))(O:z29 es p z r=some I)W n F H u m b=>?_⟩;obtain⟨rfl,e,he,rfl⟩:=jl9 O;have Q:=(wcl.1 he).1;have hn:=b.hn id V;have f:=b.hn c V;obtain⟨r1,r2,r3,r4⟩:=zmt hn hb;have ro:=z9k f N;have Z:evP F y=.ps (.o c) (G c).ver:=by{rw[b.ev Y,hy];rfl};have J:PE P W n o F H λp' B=>p'=UND.den/\B=H.set (.o id) ⟨(G id).ver,some (V3 (es.map λe=>oV g e.1) (range es.length) es.length (((range es.length).map (Hole.cell id (G id).cv (some p))).set p (.ps (.o c) (G c).ver)))⟩:=
  PE.entryStore A m r1 (by rw[b.ev T,hx];rfl) (by rw[b.ev S,hz];rfl) X Z ⟨Wab,rfl⟩
 have v:(([(id,(⟨(G id).ver,some (.mrows g it ty (es.set p (e.1,r,())) (kv+1) none)⟩:GB)),(c,⟨(G c).cv+1,none⟩)]:Wam (Nat×GB)).map Prod.fst).Nodup:=X;have l:∀k,k.rt=some c->qv H [(id,⟨(G id).ver,some (.mrows g it ty (es.set p (e.1,r,())) (kv+1) none)⟩),(c,⟨(G c).cv+1,none⟩)] k=Qx ⟨(G c).cv+1,none⟩ k:=λk a=>Jk v V a;show PE P W n o F H λp' B=>p'=UND.den/\B=qv H [(id,⟨(G id).ver,some (.mrows g it ty (es.set p (e.1,r,())) (kv+1) none)⟩),(c,⟨(G c).cv+1,none⟩)];refine wam (ids:=[id,c]) (σ:=λk=>if k=.c id p then some (.o c)else some k) J u (λk'=>?_) m (zg1 (ver1:=(G id).ver) (kv:=kv+1) (it:=it) (es:=es.set p (e.1,r,())) (h:=none) (cs:=((range es.length).map (Hole.cell id (G id).cv (some p))).set p (.ps (.o c) (G c).ver)) (λk a=>?_) (λk a=>Jk v V a) (λk a=> .inl ?_) ?_ (wcs _) V (λj=>by rw[Qf V,r3,r2];omega) V (λj r' _ d=> .inl ?_) λk k' x a a6 a7 a8 e1 e2=>?_) (.keep (zap _));{unfold PHeap.set;split;{intro bd L c2 M;cases L;rcases weh (show c2∈((range es.length).map (Hole.cell id (G id).cv (some p))).set p (.ps (.o c) (G c).ver)from M)with h|h;{exact zrg _ h};.subst h;exact .ps trivial};.exact u.h k'};{rw[Qf λe=>a ⟨id,V,by rw[e];rfl⟩,if_neg λe=>a ⟨id,V,by rw[e];rfl⟩];exact⟨Q3 λi w e=>a ⟨i,w,e⟩,rfl⟩};{obtain⟨i,w,e⟩:=a;simp[wcr]at w;subst w;rw[Qf λe2=>by rw[e2]at e;cases e;omega];exact zsk f l e};{unfold PHeap.set;rw[if_pos rfl,z7t (e':=(e.1,r,())) he rfl,wd5]};{by_cases C:j=p;{subst C;rw[wcv,wen Q]at d;cases d;refine⟨.o c,_,by rw[wen X],V,⟨c,V,rfl⟩,?_⟩;rw[Qf X,ro]};.rw[wcv,wev (Ne.symm C)]at d;have d:(es.map λe=>e.2.1)[j]?=some r':=X;have hh:Hole.is (some p) j=false:=by{simp[Hole.is];cases h:Nat.beq j p;{rfl};simp_all};refine⟨.c id j,(G id).cv,?_,X,⟨id,V,rfl⟩,?_⟩;{rw[wev (Ne.symm C),zat X];unfold Hole.cell;grind};.rw[Qf V];grind};.have b0:∀{k:Nm},(qv H [(id,⟨(G id).ver,some (.mrows g it ty (es.set p (e.1,r,())) (kv+1) none)⟩),(c,⟨(G c).cv+1,none⟩)] k).body.isSome=true->k ≠ .o c:=λ{k}a e=>by{subst e;rw[(zsk f l rfl).1]at a;cases a};grind
def sMmk(fl:Option (Ty×TypeId×Ty))(o:Oper)(G:EG)(a:Nat):Option SR:=match fl with
 |none=>none
 |some (c,b,t)=>match Jq o with
  |true=>some ⟨Unit,true,some (),λ_=> .own a (nv G a),λ_=>[(a,⟨nv G a,some (.mrows c b t [] (kv0 G a) none)⟩)],[],[a],[]⟩
  |false=>none
def js8{fl:Wal (Ty×Wap×Ty)}{t:Wap}{d:Nat}{q:SR}(T:o.op=.makeMap t none)(h:sMmk fl o G d=some q):SPk P o E G q:=by unfold sMmk at h;(split at h<;>try (cases h;done));rename_i kt it ty;split at h<;>cases h;rename_i B;obtain⟨J,R⟩:=yk B;refine⟨λ_=>rfl,λ_ _ W n F H l f z=>?_⟩;have L:=z.hn d Waf;have m:(H (.o d)).ver+1=nv G d:=by{rw[L.1];rfl};have D:PE P W n o F H λZ N=>Z=(TS.own d (nv G d)).den/\N=H.set (.o d) ⟨nv G d,some (V3 [] [] 0 [])⟩:=λV a w y=>by{have C:(execOp a.eval o).run P w=.ok (.value (.map (some w.heap.size))) (w.alloc (.map #[] 0)):=by{simp[execOp,T];rfl};refine zh C ⟨.ps (.o d) (nv G d),H.set (.o d) ⟨(H (.o d)).ver+1,some (V3 [] [] 0 [])⟩,zo V (.o d) (.map (some w.heap.size)),⟨Wab,X⟩,?_⟩;have s:Below w.heap.size w (w.alloc (.map #[] 0)):=(Below.refl _ _).alloc (wcs _) _;refine y.turn (Turn.new y.heap s rfl λg S=>by cases S;simp) (λO A=>?_) o.dst (λt Y=>by exact f t Y) ?_;{cases A;exact⟨w.heap.size,_,[],rfl,y.heap.below.size,heap_alloc_new w _,⟨#[],rfl,rfl,rfl,rfl,List.nodup_nil,λb s=>X⟩,rfl,λi p v h=>Waf⟩};.refine .ps _ _ _ ?_ λ_ _=>?_;{simp[PHeap.set,m]};.simp[zo]};refine wam (ids:=[d]) D l (λM=>?_) f (zg1 (ver1:=nv G d) (kv:=kv0 G d) (it:=it) (kt:=kt) (t:=ty) (es:=[]) (h:=none) (cs:=[]) (λk u=>?_) (λk u=>Jk Waf Waf u) (λk⟨i,I,_⟩=>X) (by unfold PHeap.set;simp) (wcs _) rfl (λj=>?_) rfl (λj r _ y=>X) λk M x _ _ _ _ e1 e2=>X) (.keep (zap _));{unfold PHeap.set;split;{intro O s c Q;cases s;cases Q};.exact l.h M};{rw[Qf λe=>u ⟨d,Waf,by rw[e];rfl⟩];exact⟨Q3 λi I e=>u ⟨i,I,e⟩,rfl⟩};.rw[Qf Waf,L.2];have:=(G d).ver_le;simp[zcc,nv,kv0];omega
def sMka(h:SE)(o:Oper)(G:EG)(a:Nat)(s x:TS):Option SR:=match Jq o with
 |false=>none
 |true=>match h with
  |none=>none
  |some (e,k,b,_)=>match s with
   |.kid id p v=>match Nat.beq (G id).cv v && !(Nat.beq a id)with
    |true=>match (G id).b with
     |some (.mrows f c t d kv none)=>match Nat.beq c e && (Nat.beq (wid t) k && zhz t)with
      |true=>match jc9 t G x with
       |some r=>some ⟨List t.D,false,kapO b (Kids.at ⟨t,c,d.map λe=>e.2.1,none⟩ p) r.1,λ_=> .own a ((G a).cv+1),λg=>[(id,⟨(G id).ver,some (.mrows f c t d (kv+2) (some p.toNat))⟩),(a,⟨(G a).cv+1,some (.row c t g)⟩)],r.2,[id,a],[]⟩
       |none=>none
      |false=>none
     |_=>none
    |false=>none
   |_=>none
def jtk{t:Nat}{s x:War}{a:Nat}{q:SR}(Y:o.op=.call { callee :=.builtin .append,args:=#[s,x],argTypes:=#[t,t] })(h:sMka (yz P t) o G a (evE E s) (evE E x)=some q):SPk P o E G q:=by
 have a0:s∈o.op.operands:=by{rw[Y];simp[Op.operands,Call.operands]};have a2:x∈o.op.operands:=by{rw[Y];simp[Op.operands,Call.operands]};unfold sMka at h;split at h;{grind};rename_i R;obtain⟨d,R⟩:=yk R;split at h;{grind};rename_i e k b z a1;split at h<;>try (cases h;done)
 rename_i id p v hs;split at h<;>try (cases h;done)
 rename_i hv;simp only[wco,wd6]at hv;cases ql hv.1;have b7:a≠id:=λe=>by{simp_all};split at h<;>try (cases h;done)
 rename_i B g ty y kv hb;split at h<;>try (cases h;done)
 rename_i A;simp only[wco]at A;have e1:=wcn A.1;have Q:=wcn A.2.1;subst e1;subst Q;split at h<;>cases h;rename_i m hr;refine⟨λ_=>rfl,λl' w W n F H M L l=>?_⟩;obtain⟨r,J,w⟩:=qw w;obtain⟨b1,b2,rfl⟩:=za1 w;have hn:=l.hn id V;have T:=l.hn a V;obtain⟨r1,r2,r3,r4⟩:=zmt hn hb;have u:=zin (by unfold zlc;rw[wet,hb];rfl) J hn;simp only at u;have a8:=zms hr rfl λi N=>l.h i X;have a3:PE P W n o F H λp' S=>p'=.ps (.c id p.toNat) ((G id).cv+1)/\S=H.set (.c id p.toNat) ⟨(G id).cv+1,some (.row g (wid ty) (r.length+m.1.length) (r.flatMap (jp ty)++m.1.flatMap (jp ty)))⟩:=
  PE.append Y R (L d R) a1 (by rw[l.ev a0,hs];rfl) (by unfold J6;grind) (by rw[l.ev a2];omega) (zf9 A.2.2 _) b1 b2 ⟨rfl,rfl⟩
 have O:(([(id,(⟨(G id).ver,some (.mrows B g ty y (kv+2) (some p.toNat))⟩:GB)),(a,⟨(G a).cv+1,some (.row g ty (r++m.1))⟩)]:Wam (Nat×GB)).map Prod.fst).Nodup:=X;have I:∀k,k.rt=some a->qv H [(id,⟨(G id).ver,some (.mrows B g ty y (kv+2) (some p.toNat))⟩),(a,⟨(G a).cv+1,some (.row g ty (r++m.1))⟩)] k=Qx ⟨(G a).cv+1,some (.row g ty (r++m.1))⟩ k:=λk f=>Jk O V f;have C:∀k,k.rt=some id->qv H [(id,⟨(G id).ver,some (.mrows B g ty y (kv+2) (some p.toNat))⟩),(a,⟨(G a).cv+1,some (.row g ty (r++m.1))⟩)] k=Qx ⟨(G id).ver,some (.mrows B g ty y (kv+2) (some p.toNat))⟩ k:=λk f=>Jk O V f;show PE P W n o F H λp' S=>p'=(TS.own a ((G a).cv+1)).den/\S=qv H [(id,⟨(G id).ver,some (.mrows B g ty y (kv+2) (some p.toNat))⟩),(a,⟨(G a).cv+1,some (.row g ty (r++m.1))⟩)];refine wam (σ:=λk=>if k=.o a then some (.c id p.toNat)else some k) a3 M (zj7 M.h λx hx=>?_) L (zg1 (D:=[a]) (λk f=>?_) C (λk f=>?_) (by assumption) (wcs _) X (λj=>?_) V (λj r' hj Z=> .inl ?_) λk k' x f b4 b5 b6 e1 Q=>?_) ?_;{rcases wcu.1 hx with h|h<;>exact .noP (zlh _ h)};{rw[Qf λe=>f ⟨id,V,by rw[e];rfl⟩,if_neg λe=>f ⟨a,V,by rw[e];rfl⟩];exact⟨Q3 λi N e=>f ⟨i,N,e⟩,rfl⟩};{obtain⟨i,N,e⟩:=f;simp[wcr]at N;subst N;rw[Qf λQ=>by rw[Q]at e;cases e;omega,I k e,T.at e];cases k with|r _=>{cases e}|c i j=>{cases e;exact .inl ⟨rfl,Nat.le_succ _⟩}|o i=>cases e;refine .inr ⟨Nat.lt_succ_of_le (GB.ver_le _),.c id p.toNat,_,V,⟨id,V,rfl⟩,rfl,?_,λc A=>zlh c A⟩;unfold PHeap.set;rw[if_pos rfl];simp[BD.den]};{by_cases e:j=p.toNat;{subst e;unfold PHeap.set;grind};.rw[Qf X,r3];omega};{have e:j≠p.toNat:=λe=>by{subst e;simp[Hole.is]at hj};refine⟨.c id j,(G id).cv,?_,Wab,⟨id,V,rfl⟩,?_⟩;{rw[zat X];rfl};.rw[Qf X];exact r4 j r' rfl Z};{have b8:∀{k:Nm},(qv H [(id,⟨(G id).ver,some (.mrows B g ty y (kv+2) (some p.toNat))⟩),(a,⟨(G a).cv+1,some (.row g ty (r++m.1))⟩)] k).body.isSome=true->k ≠ .c id p.toNat:=λ{k}f e=>by{subst e;rw[C _ rfl]at f;simp[Qx,zcc,BD.ch,Hole.is]at f};grind};.simp[TS.den];refine .nm (if_pos rfl) (λ_=>?_) (by rw[I _ rfl];exact wcs _);unfold PHeap.set;simp
def jhg(G:EG):TS->Option (Nat×MS)
 |.own id a=>match Nat.beq (G id).ver a with
  |true=>match (G id).b with
   |some (.mrows c e t d kv none)=>match plT c with
    |true=>some (id,⟨0,0,id,a,c,e,t,d,kv,[]⟩)
    |false=>none
   |_=>none
  |false=>none
 |_=>none
def zzd{x:TS}{id:Nat}{m:MS}(h:jhg G x=some (id,m)):x=.own id m.mver/\G id=⟨m.mver,some (.mrows m.kt m.lt m.t m.es m.kv none)⟩/\plT m.kt=true:=by
 unfold jhg at h;split at h<;>try (cases h;done)
 split at h<;>try (cases h;done)
 rename_i b;split at h<;>try (cases h;done)
 rename_i a;split at h<;>cases h;exact⟨rfl,by rw[<- a,<- ql b],U⟩
def sMrg(P:Program)(t:TypeId)(o:Oper)(a:Nat)(G:EG)(x:TS):Option SR:=match zpj P t with
 |none=>none
 |some _=>match Jq o with
  |false=>none
  |true=>match jhg G x with
   |none=>none
   |some (id,m)=>match Nat.beq id a with
    |true=>none
    |false=>some (.mem (.own a (nv G a)) a ⟨nv G a,some (.iter id m.mver (replicate m.es.length false) none)⟩ [id])
def jvv{t:Wap}{c:Nat}{x:War}{q:SR}(k:o.op=.range t x)(h:sMrg P t o c G (evE E x)=some q):SOk P o E G q:=by
 have j:x∈o.op.operands:=Wak k;unfold sMrg at h;split at h<;>try (cases h;done)
 rename_i w i;split at h<;>try (cases h;done)
 rename_i g;split at h<;>try (cases h;done)
 rename_i id m s;split at h<;>cases h;rename_i u;obtain⟨p,d,_⟩:=zzd s;obtain⟨l,b⟩:=yk g;refine SOk.mem λW n F H f a=>?_;obtain⟨v,_,_,_⟩:=zmt (a.hn id V) (by rw[d]);refine wb5 (r :=.o c) k b (f l b) (zid i) (λe=>by simp_all) v (by rw[a.ev j,p,d];rfl) ?_;rw[zuj a];exact⟨Wab,by rw[d];rfl⟩
def zxt{α:Type}(a:List Bool)(es:List α)(j:Nat):Option α:=match Nat.beq a.length es.length with
 |true=>zsb es j
 |false=>none
def sMnt(G:EG)(x:TS):Option SR:=match x with
 |.own f g=>match Nat.beq (G f).ver g with
  |true=>match (G f).b with
   |some (.iter a d c (some j))=>match jhg G (.own a d)with
    |some (_,m)=>some (.dat (m.kt.D×List m.t.D×Unit) (zxt c m.es j) (λe=> .tup [.v ⟨m.kt,e.1⟩,.kid a (j:Int) (m.mver+m.kv)]) [f,a])
    |none=>none
   |_=>none
  |false=>none
 |_=>none
def ju2{x:War}{q:SR}(n:o.op=.entry x)(h:sMnt G (evE E x)=some q):SOk P o E G q:=by
 have i:x∈o.op.operands:=Wak n;unfold sMnt at h;split at h<;>try (cases h;done)
 rename_i p k A;split at h<;>try (cases h;done)
 rename_i z;split at h<;>try (cases h;done)
 rename_i f r d j v;split at h<;>cases h;rename_i id m w;obtain⟨t,l,u⟩:=zzd w;cases t;refine SOk.dat λe b W F H a=>?_;unfold zxt at b;split at b<;>try (cases b;done)
 rename_i g;have g:=ql g;have c:=(wcl.1 b).1;obtain⟨s,_,_,_⟩:=zmt (a.hn f V) (by rw[l]);have y:H (.o p)=⟨k,some (itB (.o f) m.mver d (some j))⟩:=by{rw[a.h p V];unfold vz;rw[v,ql z];rfl};rw[l]at s;have:=wb3 (P:=P) (W:=W) n s y g (by rw[a.ev i,A];rfl) c (by rw[zat c]) (by rw[wcv];rw[show m.es[j]?=some e from b];rfl);simp[TS.den,zq,zz2 _ _ u];trivial
def sMlk(P:Program)(b:TypeId->Option KY)(t:TypeId)(G:EG)(x y:TS):Option SR:=match zpj P t with
 |none=>none
 |some a=>match b a.1 with
  |none=>none
  |some q=>match jtb G q.kt x with
   |none=>none
   |some m=>match toT q.kt y with
    |none=>none
    |some k=>some (.dat Nat (kIx q.eqb k (m.es.map λe=>e.1)) (λj=> .kid m.id (j:Int) (G m.id).cv) [m.id])
def jwg{r:Wap->Wal KY}(d:z24 P r){t:Wap}{x y:War}{q:SR}(f:o.op=.lookup t x y false)(h:sMlk P r t G (evE E x) (evE E y)=some q):SOk P o E G q:=by
 have i:x∈o.op.operands:=Wak f;have l:y∈o.op.operands:=Wak f;unfold sMlk at h;split at h<;>try (cases h;done)
 rename_i N c;split at h<;>try (cases h;done)
 rename_i I D;split at h<;>try (cases h;done)
 rename_i m C;split at h<;>cases h;rename_i k B;obtain⟨g,A⟩:=d _ _ D;obtain⟨s,u⟩:=z5l C;refine SOk.dat λj n W F H a=>?_;obtain⟨L,_,_,_⟩:=zmt (a.hn m.id Waf) u;have b:j<m.es.length:=by{obtain⟨_,M,_⟩:=zck n;grind};have z:H (.o m.id)=⟨(G m.id).ver,some (V3 ((m.es.map λe=>e.1).map (oV I.kt)) (range m.es.length) m.es.length ((range m.es.length).map (Hole.cell m.id (G m.id).cv none)))⟩:=by{rw[L,wd3];rfl};have:=wb2 (W:=W) A f (zid c) z (by rw[a.ev i,s];rfl) (λZ V w v p=>by rw[a.ev l]at p;exact zpi B g p) n (by rw[zat b]);assumption
end
def z9f(P:Program)(b:TypeId->Option KY)(fl:Option (Ty×TypeId×Ty))(a:Nat)(o:Oper)(E:EF)(G:EG):Option SK:=match o.op with
 |.makeMap t none=>match sMmk fl o G a with
  |some q=>some q.kP
  |none=>none
 |.mapEntry t x y=>match sMen P b t G (evE E x) (evE E y)with
  |some q=>some q.kP
  |none=>none
 |.entryStore t x s y=>match sMes G (evE E x) (evE E s) (evE E y)with
  |some q=>some q.kP
  |none=>none
 |.call ⟨.builtin .append,⟨[s,x]⟩,⟨[t,c]⟩⟩=>match Nat.beq t c with
  |true=>match sMka (yz P t) o G a (evE E s) (evE E x)with
   |some q=>some q.kP
   |none=>none
  |false=>none
 |.range t x=>match sMrg P t o a G (evE E x)with
  |some q=>some (q.k G)
  |none=>none
 |.entry x=>match sMnt G (evE E x)with
  |some q=>some (q.k G)
  |none=>none
 |.lookup t x y false=>match sMlk P b t G (evE E x) (evE E y)with
  |some q=>some (q.k G)
  |none=>none
 |_=>none
def z5c{P:Waq}{e:Wap->Wal KY}(c:z24 P e){fl:Wal (Ty×Wap×Ty)}{d:Nat}{o:Oper}{E:EF}{G:EG}{r:SK}(h:z9f P e fl d o E G=some r):zou P o E G r:=by unfold z9f at h;split at h;{rename_i a;split at h<;>cases h;rename_i q b;exact(js8 a b).k};{rename_i a;split at h<;>cases h;rename_i q b;exact(jt4 c a b).k};{rename_i a;split at h<;>cases h;rename_i q b;exact(jwb a b).k};{rename_i s x t g a;(split at h<;>try (cases h;done));rename_i f;cases ql f;split at h<;>cases h;rename_i q b;exact(jtk a b).k};{rename_i a;split at h<;>cases h;rename_i q b;exact(jvv a b).k};{rename_i a;split at h<;>cases h;rename_i q b;exact(ju2 a b).k};{rename_i a;split at h<;>cases h;rename_i q b;exact(jwg c a b).k};grind
def stR(P:Program)(c:TypeId->Option KY)(lk:Option LK)(q:Option SR)(a:Nat)(o:Oper)(E:EF)(G:EG):Option SK:=match lk with
 |some (.rows b t)=>jjh P (some (b,t)) a o E G
 |some .que=>jtl P o E G
 |some (.mrows d b t)=>z9f P c (some (d,b,t)) a o E G
 |_=>match stK P q a o E G with
  |some r=>some r
  |none=>match jtl P o E G with
   |some r=>some r
   |none=>match jjh P none a o E G with
    |some r=>some r
    |none=>z9f P c none a o E G
def jsr{P:Waq}{d:Wap->Wal KY}(a:z24 P d){lk:Wal LK}{q:Wal SR}{c:Nat}{o:Oper}{E:EF}{G:EG}(e:∀x,q=some x->SOk P o E G x){r:SK}(h:stR P d lk q c o E G=some r):zou P o E G r:=by unfold stR at h;split at h;{exact jb2 h};{exact jjc h};{exact z5c a h};.split at h;{rename_i b;cases h;exact stK_ok e b};.split at h;{rename_i b;cases h;exact jjc b};.split at h;{rename_i b;cases h;exact jb2 b};.exact z5c a h
def z8t{P:Waq}{W:Env}{H:Wau}{V:Nm->Wan}{w:Wao}(l:HRel P W H V w){id:Nm}{t:Wap}{cs:Wam PV}(d:(H id).body=some (.box t cs)){off:Nat}{v:Wan}(r:off<cs.length)(n:v.oneCell'=true):
  ∃g,V id=.pointer (some ⟨g,0,none⟩)/\HRel P W (H.set id ⟨(H id).ver,some (.box t (setMany cs off [.u v]))⟩) V (w.setCell ⟨g,off,none⟩ v)/\∀p u,Rp W.Z H V w p u->Rp W.Z (H.set id ⟨(H id).ver,some (.box t (setMany cs off [.u v]))⟩) V (w.setCell ⟨g,off,none⟩ v) p u:=by
 obtain⟨g,arr,e,z,q,o,x⟩:=l.box id t cs d;refine⟨g,e,?_⟩;have L:cs.length=arr.size:=by have:=o.1;omega
 rw[setCell_eq_setRow w g off arr t (0,0) v q];have m:(H id).body.isSome=true:=X;have a:Turn W H V w id ⟨(H id).ver,some (.box t (setMany cs off [.u v]))⟩ (V id) (w.setRow g (arr.setIfInBounds off v)):=by
  have c:∀b,b≠g->(w.setRow g (arr.setIfInBounds off v)).heap[b]?=w.heap[b]?:=λb d=>setRow_other w g b _ d;exact⟨l.below.trans ⟨rfl,rfl,rfl,Waf,λb d=>c b U⟩,Waf,λb d B=>c b λs=>B ⟨m,by rw[s,e];rfl⟩,λF k=> .inr ⟨m,k⟩,.inr ⟨rfl,rfl,m⟩⟩
 have f:RpL W.Z H V w [.u v] [v]:=⟨rfl,λi p u n y=>by
  cases i with
  |zero=>cases n;cases y;exact .u _
  |succ i=>grind⟩
 have A:setMany arr.toList off [v]=(arr.setIfInBounds off v).toList:=by
  unfold setMany;rw[Array.toList_setIfInBounds,List.set_eq_take_append_cons_drop,if_pos X];simp
 have:=a.heap l (λD j=>by
  cases j;refine⟨g,_,e,z,setRow_heap w g arr _ t (0,0) q,?_,?_⟩
  ·rw[<- A];exact(RpL.setMany o f X).mono λp v C=>a.rp C
  grind)
 have I:zo V id (V id)=V:=by funext i;unfold zo;grind
 have G:=λp u(h:Rp W.Z H V w p u)=>a.rp h
 grind
def zmp{P:Waq}{W:Env}{H:Wau}{V:Nm->Wan}{w:Wao}(h:HRel P W H V w){id:Nm}{t:Wap}{cs:Wam PV}(d:(H id).body=some (.box t cs)){g:Nat}(f:V id=.pointer (some ⟨g,0,none⟩)){off:Nat}(l:off<cs.length):
  (∃v,w.cell? ⟨g,off,none⟩=some v)/\w.frozen? ⟨g,off,none⟩=false/\∀u,cs[off]?=some (.u u)->w.cell? ⟨g,off,none⟩=some u:=by
 obtain⟨j,arr,e,_,c,a,_⟩:=h.box id t cs d;rw[f]at e;cases e;have k:cs.length=arr.size:=by have:=a.1;omega
 have b:w.cell? ⟨g,off,none⟩=some arr[off]:=by
  simp[World.cell?,c,wdf (show off<arr.size by omega)]
 refine⟨⟨_,b⟩,by simp[World.frozen?,c],λu i=>?_⟩;rw[b];have:=a.2 off _ arr[off] i Waf;cases this;rfl
def z1h(P:Program)(f:FuncId):Prop:=Qi P f=true/\∀{b a:Nat}{g:FuncId}{d vb:Array Value}{w:World}{K:World->Prop},w.cell? ⟨b,a,none⟩=some (.int .u32 0)->w.cell? ⟨b,a+1,none⟩=some (.int .i32 0)->w.frozen? ⟨b,a,none⟩=false->w.frozen? ⟨b,a+1,none⟩=false ->
 (∀w,(callFunc g (d++vb)).run P w=.ok (.enter g (d++vb)) w) ->
 Calls P g (d++vb) (w.setCell ⟨b,a+1,none⟩ (.int .i32 1)) (λe c=>(∃v,e=.returned v)/\(∃x,c.cell? ⟨b,a,none⟩=some x)/\c.cell? ⟨b,a+1,none⟩=some (.int .i32 1)/\c.frozen? ⟨b,a,none⟩=false/\c.frozen? ⟨b,a+1,none⟩=false/\K c) ->
 Calls P f #[.pointer (some ⟨b,a,none⟩),.func (.func g) d vb] w λe h=>e=.returned (.tuple #[])/\∃c,K c/\h=(c.drew.setCell ⟨b,a,none⟩ (.int .u32 1)).setCell ⟨b,a+1,none⟩ (.int .i32 0)
def jch{P:Waq}{f:Wat}(a:Qi P f=true)(args:Array Wan)(w:Wao):(callFunc f args).run P w=.ok (.enter f args) w:=by unfold Qi at a;split at a;{rename_i fn b;simp only[wco,wd6]at a;have c:fn.body.isNone=false:=by{simp_all};simp only[callFunc,Sem.run_bind,run_program,Result.andThen_ok,b,a.2,c];simp};grind
def z3c(h:LetsOut λ_ _ _=>False):False:=by obtain⟨_,_,h⟩:=h;omega
def z9n : Oper := { dst := none, op := .call ⟨.value (.tmp 0), #[], #[]⟩, type := 0, pos := "", after := #[], guard := none }
def jvn(q p:PV):PFrame:=λt=>match t with
 |0=>q
 |1=>p
 |_ => .unk
section
variable{P:Program}{W:Env}{n:Nat}{H:PHeap}{F:PFrame}
theorem PE.once{o:Oper}{cl:Call}{f:FuncId}{id:Nm}{off ver:Nat}{t C:TypeId}{cs b:List PV}{g:FuncId}{ca cb:List PV}{p1:PV}{z:PHeap}(a5:z1h P f)(hd:Zc n o)(ho:o.op=.call cl)(ht:zc0 F cl=some (f,[.pp id off ver,.fn (.func g) ca cb]))(T:FlW W F H)
  (hb:(H id).body=some (.box t cs)) (hv:(H id).ver=ver) (h0:cs[off]?=some (.u (.int .u32 0))) (h1:cs[off+1]?=some (.u (.int .i32 0))) (hg:Qi P g=true)
  (hc:∀m,(∀i,Fl (m.G i))->PE P m 2 z9n (jvn (.fn (.func g) ca cb) (.pp id off ver)) (H.set id ⟨ver,some (.box t (setMany cs (off+1) [.u (.int .i32 1)]))⟩) λp Q=>p=p1/\Q=z)
  (I:(z id).body=some (.box C b)) (b1:(z id).ver=ver) (h3:off<b.length) (h4:b[off+1]?=some (.u (.int .i32 1))) :
  PE P W n o F H λp Q=>p=.tup []/\Q=z.set id ⟨ver,some (.box C (setMany (setMany b off [.u (.int .u32 1)]) (off+1) [.u (.int .i32 0)]))⟩:=λV a w y=>by
 obtain⟨vs,c4,s⟩:=zbq ho ht a5.1 λx f4=>Rp.eval (P:=P) x λt ht=>y.slot t
 let m:Env:={ W.push F a with ds:=[] }
 have c9:∀i,Fl (m.G i):=λi=>by
  simp[m,Env.push];split
  ·exact T.f _
  ·exact T.g _
 have d:HRel P m H V w:=⟨y.heap.below,y.heap.body,λi=>by
  simp only[m,Env.push];split
  ·exact y.slot _
  ·exact y.heap.ghost _,y.heap.apart,y.heap.zlt,y.heap.nz⟩
 have hs:(H id).body.isSome=true:=by rw[hb];rfl
 have D:=(wcl.1 h1).1;obtain⟨A,hV,a6,N⟩:=z8t d hb (v :=.int .i32 1) D rfl;obtain⟨_,z0,c0⟩:=zmp d hb hV (off:=off) (by omega);obtain⟨_,z1,c1⟩:=zmp d hb hV D;rw[hv]at a6 N
 -- the arguments
 match vs,s with
 |[v0,v1],s=>
  have r0:=s.2 0 _ v0 rfl rfl;have r1:=s.2 1 _ v1 rfl rfl;have e0:v0=.pointer (some ⟨A,off,none⟩):=by
   cases r0 with
   |pp _ _ _ _ _ hh=>
    obtain⟨g',Y,rfl⟩:=hh hs hv;rw[hV]at Y⊢;cases Y;simp[zbd]
  subst e0;cases r1 with
  |fn _ _ _ va vb c7 c8 ha c2=>
   let a1:Act:={ tmps:=#[.func (.func g) va vb,.pointer (some ⟨A,off,none⟩)],defers:=[] }
   have a8:Rel P m 2 (jvn (.fn (.func g) ca cb) (.pp id off ver)) (H.set id ⟨ver,some (.box t (setMany cs (off+1) [.u (.int .i32 1)]))⟩) V a1 (w.setCell ⟨A,off+1,none⟩ (.int .i32 1)):=⟨a6,rfl,rfl,λt=>by
    match t with
    |0=>exact N _ _ (.fn _ _ _ va vb c7 c8 ha c2)
    |1=>exact N _ _ r0
    |_+2=>exact .unk _⟩
   have L:=hc m c9 V a1 _ a8;have a9:(execOp a1.eval z9n).run P (w.setCell ⟨A,off+1,none⟩ (.int .i32 1))=.ok (.enter g (va++vb)) (w.setCell ⟨A,off+1,none⟩ (.int .i32 1)):=by
    have I:=jch hg (va++vb) (w.setCell ⟨A,off+1,none⟩ (.int .i32 1));have h3:a1.eval (.tmp 0)=.func (.func g) va vb:=rfl;simp[execOp,z9n,resolve,h3,Deferred.ofValue,Sem.run_bind,Sem.run_pure,Result.andThen_ok,invoke];simpa using I
   unfold Oper.wp at L;rw[a9]at L;have d3:=a5.2 (K:=λw'=>∃r,HRel P m z r w'/\r id=.pointer (some ⟨A,0,none⟩)) (c0 _ h0) (c1 _ h1) z0 z1 (λw=>jch hg _ w) (Calls.mono L λe w' R=>by
    cases e with
    |returned v=>
     obtain⟨p,Q,r,⟨rfl,rfl⟩,j⟩:=R;have M:=j.slot 1;have d1:(Q id).body.isSome=true:=by rw[I];rfl
     obtain⟨g',arr,e3,_⟩:=j.heap.box id C b I;have q:r id=.pointer (some ⟨A,0,none⟩):=by
      have d2:Rp m.Z Q r w' (.pp id off ver) (.pointer (some ⟨A,off,none⟩)):=M;cases d2 with
      |pp _ _ _ _ _ hh=>
       obtain⟨g2,J,h5⟩:=hh d1 b1;rw[e3]at J h5⊢;cases J;simp[zbd]at h5;rw[h5]
     obtain⟨x0,y0,_⟩:=zmp j.heap I q h3;obtain⟨_,y1,z1⟩:=zmp j.heap I q (wcl.1 h4).1;exact⟨⟨v,rfl⟩,x0,z1 _ h4,y0,y1,r,j.heap,q⟩
    |panicked c=>exact R.elim
    |outgrown=>exact(z3c R).elim)
   refine zjb c4 (d3.mono λe O⟨R,w',⟨r,j,q⟩,hw⟩=>?_);have d0:=j.grow (w':=w'.drew) ⟨rfl,rfl,rfl,wcs _,λ_ _=>rfl⟩;obtain⟨g3,a0,a7,_⟩:=z8t d0 I (v :=.int .u32 1) h3 rfl;rw[q]at a0;cases a0;rw[b1]at a7;have c3:(z.set id ⟨ver,some (.box C (setMany b off [.u (.int .u32 1)]))⟩ id).body=some (.box C (setMany b off [.u (.int .u32 1)])):=by simp[PHeap.set]
   have a4:off+1<(setMany b off [.u (.int .u32 1)]).length:=by
    have:=(wcl.1 h4).1;rw[Qt _ _ _ (by grind)];omega
   obtain⟨g4,a2,l,_⟩:=z8t a7 c3 (v :=.int .i32 0) a4 rfl;rw[q]at a2;cases a2;have b0:(z.set id ⟨ver,some (.box C (setMany b off [.u (.int .u32 1)]))⟩).set id ⟨(z.set id ⟨ver,some (.box C (setMany b off [.u (.int .u32 1)]))⟩ id).ver,some (.box C (setMany (setMany b off [.u (.int .u32 1)]) (off+1) [.u (.int .i32 0)]))⟩=z.set id ⟨ver,some (.box C (setMany (setMany b off [.u (.int .u32 1)]) (off+1) [.u (.int .i32 0)]))⟩:=by
    funext k;unfold PHeap.set
    grind
   rw[b0,<- hw]at l;have a3:=l.ghost;have B:∀t,Rp W.Z _ r O (F t) (a.tmps.getD t undef):=λt=>by
    have:=a3 (2*t);simp only[m,Env.push,Nat.mul_mod_right,if_true]at this;rwa [show 2*t / 2=t by omega]at this
   have c5:∀i,Rp W.Z _ r O (W.G i) (W.gv i):=λi=>by
    have:=a3 (2*i+1);simp[m,Env.push,show ¬((2*i+1) % 2=0) by omega,if_false]at this;rwa [show(2*i+1) / 2=i by omega]at this
   have S:Rel P W n F _ r a O:=⟨⟨l.below,l.body,c5,l.apart,l.zlt,l.nz⟩,y.size,y.defers,B⟩
   exact⟨.tuple #[],R,.tup [],_,r,⟨rfl,rfl⟩,S.put (Below.refl _ _) o.dst hd (.tup [] #[] rfl λi p v h=>by simp)⟩
 |[],s=>exact absurd s.1 (by simp)
 |[_],s=>exact absurd s.1 (by simp)
 |_::_::_::_,s=>exact absurd s.1 (by simp)
end
inductive AtK where
 |ld (k:IntKind)
 |add
def jwe(P:Program)(T:FuncId->Option AtK):Prop:=∀f k,T f=some k->match k with
 |.ld k=>∀(a:Addr)(x:Int)(w:World),w.cell? a=some (.int k x)->(callFunc f #[.pointer (some a)]).run P w=.ok (.value (.int k x)) w
 |.add=>∀(a:Addr)(x y:Int)(w:World),w.cell? a=some (.int .i64 x)->w.frozen? a=false->(callFunc f #[.pointer (some a),.int .i64 y]).run P w=.ok (.value (.int .i64 (w64 (x+y)))) (w.setCell a (.int .i64 (w64 (x+y))))
def jnj(T:FuncId->Option AtK)(c:Call)(E:EF)(G:EG):Option SR:=match c with
 |⟨.value (.func f),⟨[x]⟩,_⟩=>match T f with
  |some (.ld k)=>match evE E x with
   |.rd _=>some (.dat Int none (λz=> .v ⟨.int k,z⟩) [])
   |.pt id a e=>match Nat.beq (G id).ver e with
    |true=>match (G id).b with
     |some (.box _ g)=>match ldT false 1 a g with
      |some s=>match Ys (.int k) s with
       |some _=>some (.now s [id])
       |none=>none
      |none=>none
     |_=>none
    |false=>none
   |_=>none
  |_=>none
 |⟨.value (.func f),⟨[x,y]⟩,_⟩=>match T f with
  |some .add=>match evE E x with
   |.pt id a e=>match Nat.beq (G id).ver e with
    |true=>match (G id).b with
     |some (.box t g)=>match ldT false 1 a g with
      |some s=>match Ys (.int .i64) s with
       |some m=>match Ys (.int .i64) (evE E y)with
        |some d=>match z1y a 1 (.v ⟨.int .i64,w64 (m+d)⟩) g with
         |some h=>some (.mem (.v ⟨.int .i64,w64 (m+d)⟩) id ⟨e,some (.box t h)⟩ [])
         |none=>none
        |none=>none
       |none=>none
      |none=>none
     |_=>none
    |false=>none
   |_=>none
  |_=>none
 |_=>none
def jjg{off:Nat}{xs:Wam TS}{s:TS}{k:Was}{m:Int}(h:ldT false 1 off xs=some s)(c:Ys (.int k) s=some m):(qb xs)[off]?=some (.u (.int k m)):=by obtain⟨_,b,a⟩:=zj0 h;rw[zx c]at a;have:((qb xs).drop off)[0]?=some (.u (.int k m)):=by{rw[a];rfl};grind
def jm9{P:Waq}{a:Act}{w w':Wao}{o:Oper}{f:Wat}{args:Array War}{ts:Array Wap}{r:Next}(c:o.op=.call ⟨.value (.func f),args,ts⟩)(h:(callFunc f (args.map a.eval)).run P w=.ok r w'):(execOp a.eval o).run P w=.ok r w':=by have b:a.eval (.func f)=.func (.func f) #[] #[]:=rfl;simp[execOp,c,resolve,b,Deferred.ofValue,Sem.run_bind,Sem.run_pure,Result.andThen_ok,invoke];grind
def jna{P:Waq}{T:Wat->Wal AtK}(hT:jwe P T){o:Oper}{c:Call}{E:EF}{G:EG}{q:SR}(Q:o.op=.call c)(h:jnj T c E G=some q):SOk P o E G q:=by
 unfold jnj at h;split at h;{rename_i f x ts;have C:x∈o.op.operands:=by{rw[Q];simp[Op.operands,Call.operands]};(split at h<;>try (cases h;done));rename_i k hk;(split at h<;>try (cases h;done));{cases h;exact SOk.dat λy hy=>by cases hy};rename_i id A B hx;(split at h<;>try (cases h;done));rename_i S;have S:=wcn S;(split at h<;>try (cases h;done));rename_i t J hb;(split at h<;>try (cases h;done));rename_i s hs;split at h<;>cases h;rename_i m Z;refine SOk.now λW F H l V a w p a7=>?_;have i:=Rp.eval (P:=P) x λt ht=>a7 t X;rw[l.ev C,hx]at i;simp[TS.den]at i;have I:=l.h id Waf;have b:(H (.o id)).body=some (.box t (qb J)):=by{rw[I];simp[vz,hb,BD.den]};have j:(H (.o id)).ver=B:=by{rw[I];assumption};have L:=jjg hs Z;generalize z:a.eval x=v at i;cases i with|pp _ _ _ _ _ hh=>obtain⟨g,M,rfl⟩:=hh X j;obtain⟨Y,arr,e,_⟩:=p.box _ t _ b;rw[e]at M z;cases M;simp[zbd,wd0]at z;obtain⟨_,_,c1⟩:=zmp p b e (wcl.1 L).1;refine zh (jm9 Q (r :=.value (.int k m)) ?_) ⟨_,rfl,?_,Below.refl _ _⟩;{have:=hT f _ hk ⟨Y,A,none⟩ m w (c1 _ L);grind};.rw[zx Z];exact .u _}
 .rename_i f x y ts;have C:x∈o.op.operands:=by{rw[Q];simp[Op.operands,Call.operands]};have b0:y∈o.op.operands:=by{rw[Q];simp[Op.operands,Call.operands]};(split at h<;>try (cases h;done));rename_i hk;(split at h<;>try (cases h;done));rename_i id A B hx;(split at h<;>try (cases h;done));rename_i S;have S:=wcn S;(split at h<;>try (cases h;done));rename_i t J hb;(split at h<;>try (cases h;done));rename_i s hs;(split at h<;>try (cases h;done));rename_i m Z;(split at h<;>try (cases h;done));rename_i d hd;split at h<;>cases h;rename_i ys b1;obtain⟨e1,e2,e3⟩:=zhs b1;have L:=jjg hs Z;refine SOk.mem λW n F H a2 l V a w p=>?_;have i:=Rp.eval (P:=P) x λt _=>p.slot t;rw[l.ev C,hx]at i;simp[TS.den]at i;have D:=Rp.eval (P:=P) y λt _=>p.slot t;rw[l.ev b0,zx hd]at D;have I:=l.h id Waf;have b:(H (.o id)).body=some (.box t (qb J)):=by{rw[I];simp[vz,hb,BD.den]};have j:(H (.o id)).ver=B:=by{rw[I];assumption};generalize z:a.eval x=v at i;generalize b7:a.eval y=u at D;cases i with
  |pp _ _ _ _ _ hh=>
   obtain⟨g,M,rfl⟩:=hh X j;obtain⟨Y,arr,e,_⟩:=p.heap.box _ t _ b;rw[e]at M z;cases M;simp[zbd,wd0]at z;have hu:u=.int .i64 d:=by{cases D;rfl};subst hu;have O:=(wcl.1 L).1;obtain⟨_,z1,c1⟩:=zmp p.heap b e O;obtain⟨g2,N,a5,a8⟩:=z8t p.heap b (v :=.int .i64 (w64 (m+d))) O rfl;rw[e]at N;cases N;refine zh (jm9 Q (w':=w.setCell ⟨Y,A,none⟩ (.int .i64 (w64 (m+d)))) (r :=.value (.int .i64 (w64 (m+d)))) ?_) ⟨.u (.int .i64 (w64 (m+d))),_,V,⟨Wab,rfl⟩,?_⟩;{have:=hT f _ hk ⟨Y,A,none⟩ m d w (c1 _ L) z1;grind}
   .have he:vz id ⟨B,some (.box t ys)⟩=⟨(H (.o id)).ver,some (.box t (setMany (qb J) A [.u (.int .i64 (w64 (m+d)))]))⟩:=by{rw[j];simp[vz,wc5,BD.den,e1];rfl};rw[he];have R:Rel P W n F _ V a _:=⟨a5,p.size,p.defers,λt=>a8 _ _ (p.slot t)⟩
    exact R.put (Below.refl _ _) o.dst a2 (.u _)
 .cases h
def jh3(G:EG)(id ver:Nat):Option (TypeId×List TS):=match Nat.beq (G id).ver ver with
 |true=>match (G id).b with
  |some (.box t a)=>some (t,a)
  |_=>none
 |false=>none
def zxy{G:EG}{id ver:Nat}{t:Wap}{xs:Wam TS}(h:jh3 G id ver=some (t,xs)):G id=⟨ver,some (.box t xs)⟩:=by unfold jh3 at h;(split at h<;>try (cases h;done));rename_i a;split at h<;>cases h;rename_i d;have a:=wcn a;cases c:G id with|mk v b=>grind
def isI(k:IntKind)(n:Int)(s:TS):Bool:=match s with
 |.c (.int a m)=>decide (a=k) && decide (m=n)
 |_=>false
def isI_ok{k:Was}{n:Int}{off:Nat}{xs:Wam TS}{s:TS}(h:ldT false 1 off xs=some s)(hi:isI k n s=true):(qb xs)[off]?=some (.u (.int k n)):=by unfold isI at hi;split at hi;{rename_i e m;simp[wco,wc9]at hi;obtain⟨c,d⟩:=hi;obtain⟨_,b,a⟩:=zj0 h;simp[TS.den,c,d]at a;have:((qb xs).drop off)[0]?=some (.u (.int k n)):=by{rw[a];rfl};grind};grind
def z99(off:Nat)(k:IntKind)(n:Int)(xs:List TS):Bool:=match ldT false 1 off xs with
 |some s=>isI k n s
 |none=>false
def zzr{off:Nat}{k:Was}{n:Int}{xs:Wam TS}(h:z99 off k n xs=true):(qb xs)[off]?=some (.u (.int k n)):=by unfold z99 at h;split at h;{exact isI_ok U h};grind
def jxe(q p:TS):EF:=λt=>match t with
 |0=>q
 |1=>p
 |_ => .c undef
def jr7(P:Program)(p:SyT)(fuel:Nat)(f:FuncId)(x:IE)(n:Call)(h:Nat)(E:EF)(G:EG):Option SK:=match zvh E n with
 |some (o,[.pt id d e,.fn (.func g) a b])=>match Nat.beq o f && Qi P g with
  |false=>none
  |true=>match jh3 G id e with
   |none=>none
   |some (t,i)=>match z99 d .u32 0 i && z99 (d+1) .i32 0 i with
    |false=>none
    |true=>match z1y (d+1) 1 (.c (.int .i32 1)) i with
     |none=>none
     |some l=>match jnz P p fuel x ⟨.value (.tmp 0),#[],#[]⟩ h (jxe (.fn (.func g) a b) (.pt id d e)) (G.set id ⟨e,some (.box t l)⟩)with
      |none=>none
      |some q=>some ⟨λk=>q.run λs j rt=>match jh3 (sets (G.set id ⟨e,some (.box t l)⟩) j) id e with
       |none=>none
       |some (r,m)=>match z99 (d+1) .i32 1 m with
        |false=>none
        |true=>match z1y d 1 (.c (.int .u32 1)) m with
         |none=>none
         |some u=>match z1y (d+1) 1 (.c (.int .i32 0)) u with
          |none=>none
          |some v=>k (.tup []) (j++[(id,⟨e,some (.box r v)⟩)]) ⟨rt.rd,id::rt.tc⟩⟩
 |_=>none
def z96:∀{ws:Wam (Nat×GB)}{H:Wau}{G:EG}{id:Nat},AgN H G id->AgN (qv H ws) (sets G ws) id
 |[],H,G,id,h=>h
 |x::r,H,G,id,h=>by simp[qv,sets];refine z96 (wbi λk a=>?_);unfold zlp EG.set;by_cases e:id=x.1;{simp_all};.have:Nat.beq id x.1=false:=by{cases b:Nat.beq id x.1;rfl;simp_all};simp[a,wdn,e,if_false,this];exact h.at a
def jpz{P:Waq}{sy:SyT}(b6:zwp P sy)(hm:P.follows .mixedOrders=true){fuel:Nat}{f:Wat}(b2:z1h P f){x:IE}(hx:ji2 P x){o:Oper}{cl:Call}(ho:o.op=.call cl){b8:Nat}{E:EF}{G:EG}{q:SK}(h:jr7 P sy fuel f x cl b8 E G=some q):zou P o E G q:=by
 unfold jr7 at h;split at h<;>try (cases h;done)
 rename_i f' id a5 d g a b L;split at h<;>try (cases h;done)
 rename_i C;simp only[wco]at C;have ef:=wcn C.1;subst ef;split at h<;>try (cases h;done)
 rename_i t xs b1;split at h<;>try (cases h;done)
 rename_i m;simp[wco]at m;split at h<;>try (cases h;done)
 rename_i ys b7;split at h<;>cases h;rename_i q' b4;have hG:=zxy b1;intro β k r I;obtain⟨s,ws,rt,v,hu,B⟩:=z71 b6 hm hx (o:=z9n) rfl b4 _ _ I;split at v<;>try (cases v;done)
 rename_i t2 zs Z;split at v<;>try (cases v;done)
 rename_i J;split at v<;>try (cases v;done)
 rename_i z1 a3;split at v<;>try (cases v;done)
 rename_i z2 a4;have Q:=zxy Z;obtain⟨e1,e2,e3⟩:=zhs b7;obtain⟨f1,f2,f3⟩:=zhs a3;obtain⟨g1,g2,g3⟩:=zhs a4;have Y:(TS.c (.int .i32 1)).den.cells=[.u (.int .i32 1)]:=Wab;have a9:(TS.c (.int .u32 1)).den.cells=[.u (.int .u32 1)]:=Wab;have a8:(TS.c (.int .i32 0)).den.cells=[.u (.int .i32 0)]:=Wab;rw[Y]at e1;rw[a9]at f1;rw[a8,f1]at g1;refine⟨_,_,_,v,λk2=>?_,⟨λi D=>?_,λW n F H a0 hd hF hH=>?_⟩⟩;{show q'.run _=_;rw[hu];simp[Z,J,a3,a4]};{rw[wdb,wcu]at D;rcases D with D|D;{exact we6 _ (B.1 i D)};.simp at D;subst D;exact List.mem_cons_self ..}
 .have b0:Agr o E G [] F H:=⟨hF,λid h=>by cases h⟩
  have O:=hH id (.inr Waf);have T:H (.o id)=⟨d,some (.box t (qb xs))⟩:=by{rw[O.1,hG];rfl};have tg:=zjd ho b0 L;simp[zq,TS.den]at tg;have a2:(⟨d,some (.box t (setMany (qb xs) (a5+1) [.u (.int .i32 1)]))⟩:zm8)=vz id ⟨d,some (.box t ys)⟩:=by{rw[<- e1];rfl};have M:∀{j:Nat},AgN H G j->AgN (H.set (.o id) (vz id ⟨d,some (.box t ys)⟩)) (G.set id ⟨d,some (.box t ys)⟩) j:=λ{j}A=>by{refine wbi λk I=>?_;unfold EG.set;by_cases e:j=id;{subst e;rw[wet];cases k with|o i=>{cases I;simp[PHeap.set,Qx]}|c i l=>{cases I;have:=A.2 l;rw[hG]at this;assumption}|r y=>cases I};.have:Nat.beq j id=false:=by{cases h2:Nat.beq j id;rfl;simp_all};rw[this];have z:¬k=.o id:=λe2=>by{subst e2;cases I;omega};simp[PHeap.set,if_neg z];exact A.at I};have N:=z96 (ws:=ws) (M O);have S:qv (H.set (.o id) (vz id ⟨d,some (.box t ys)⟩)) ws (.o id)=⟨d,some (.box t2 (qb zs))⟩:=by{rw[N.1,Q];rfl};have b3:=PE.once b2 hd ho tg a0 (by rw[T]) (by rw[T]) (zzr m.1) (zzr m.2) C.2
   (λW1 a1=>by
    rw[a2];refine B.2 W1 2 _ _ ⟨a1,λt=>?_,λk=>?_⟩ (λt L=>by cases L) (λt L=>?_) λj A=>M (hH j (by
      rcases A with A|A
      ·exact .inl A
      ·exact .inr (by rw[wdb];exact wem _ A)))
    ·have h0:Fl (TS.fn (.func g) a b).den:=zap _;have v:Fl (TS.pt id a5 d).den:=zap _;simp[TS.den]at h0 v;unfold jvn;split
     ·omega
     ·omega
     ·have:=zap (.c undef)
      first|exact Fl.unk|exact .unk|constructor
    ·unfold PHeap.set;split
     ·have:=(z8p a1 (R:=R0) (by intro i bd hb;cases hb) (λ_=>TS.c undef) (EG.empty.set id ⟨d,some (.box t ys)⟩)).h (.o id);simpa [qp,EG.set]using this
     ·exact a0.h k
    ·simp[z9n,Op.operands,Call.operands]at L;subst L;simp[jvn,jxe,TS.den])
   (by rw[S]) (by rw[S]) U (zzr J)
  refine λV aa w hr=>Oper.wp_mono (λa' w'⟨p,H',V',⟨hp,hh⟩,b5⟩=>⟨p,H',V',⟨by assumption,?_⟩,b5⟩) (b3 V aa w hr);rw[hh,zjw];simp[qv];rw[<- g1];funext k;by_cases e:k.rt=some id;{unfold zlp;rw[if_pos e];cases k with|o i=>{cases e;simp[PHeap.set,Qx,vz,BD.den]}|c i l=>{cases e;have:=N.2 l;rw[Q]at this;assumption}|r y=>cases e};.unfold zlp;rw[if_neg e];have z:¬k=.o id:=λe2=>by{subst e2;trivial};simp[PHeap.set,if_neg z];rw[zev,zev];simp[PHeap.set,if_neg z]
def jfe(oc:Option FuncId)(it:Nat->Nat->FuncId->Option IE)(b a:Nat)(o:Oper)(E:EF):Option (FuncId×IE×Call):=match oc with
 |none=>none
 |some f=>match o.op with
  |.call c=>match zvh E c with
   |some (d,[_,.fn (.func g) _ _])=>match Nat.beq d f with
    |true=>match it b a g with
     |some x=>some (f,x,c)
     |none=>none
    |false=>none
   |_=>none
  |_=>none
def jba{oc:Wal Wat}{it:Nat->Nat->Wat->Wal IE}{b a:Nat}{o:Oper}{E:EF}{x:Wat×IE×Call}(h:jfe oc it b a o E=some x):o.op=.call x.2.2/\oc=some x.1/\∃b a f,it b a f=some x.2.1:=by unfold jfe at h;(split at h<;>try (cases h;done));grind
def stA(P:Program)(T:FuncId->Option AtK)(st:Sy1):Sy1:=λb d a o E G=>match o.op with
 |.call c=>match jnj T c E G with
  |some q=>some q
  |none=>st b d a o E G
 |_=>st b d a o E G
def stA_ok{P:Waq}{T:Wat->Wal AtK}(f:jwe P T){st:Sy1}(e:∀b d a o E G q,st b d a o E G=some q->SOk P o E G q):∀b d a o E G q,stA P T st b d a o E G=some q->SOk P o E G q:=λb d a o E G q h=>by unfold stA at h;split at h;{rename_i c g;split at h;{rename_i j i;cases h;exact jna f g i};.exact e _ _ _ _ _ _ _ h};.exact e _ _ _ _ _ _ _ h
abbrev GlK:=Nat->TypeId->Option Dyn
def GlOk(P:Program)(b:GlK):Prop:=∀g t d,b g t=some d->∃cs a k p,(g,cs)∈glT/\asz P t=some (a,k)/\Y6 a k (cs.map PV.u)=some p/\Ref p (enc d.t d.x)
def PQ.glob{P:Waq}{W:Env}{F:Wav}{H:Wau}{o:Oper}{g:Nat}{t k:Nat}{cs:Wam Wan}{ag:Bool}{p:PV}(l:o.op=.load t (.global g))(h:(g,cs)∈glT)(d:asz P t=some (ag,k))(j:Y6 ag k (cs.map PV.u)=some p):PQ P W o F H p:=by
 refine waf λV a w n v=>?_;obtain⟨_,r⟩:=n.gw (g,cs) h;obtain⟨u,q,m⟩:=zm0 (H:=H) (V:=V) (w:=w) (b:=g) (o:=0) d (λi p s=>by
  obtain⟨c,f,rfl⟩:∃c,cs[i]?=some c/\PV.u c=p:=X;exact⟨c,X,.u c⟩) j
 have e:a.eval (.global g)=.pointer (some ⟨g,0,none⟩):=rfl;exact⟨u,by unfold execOp;rw[l];simp[e,Instr.loadAt,Instr.sureAddr,q],m⟩
def stG(P:Program)(e:GlK)(st:Sy1):Sy1:=λb c a o E G=>match o.op with
 |.load t (.global g)=>match e g t with
  |some d=>some (.now (.v d) [])
  |none=>st b c a o E G
 |_=>st b c a o E G
def stG_ok{P:Waq}{f:GlK}(m:GlOk P f){st:Sy1}(e:∀b c a o E G q,st b c a o E G=some q->SOk P o E G q):∀b c a o E G q,stG P f st b c a o E G=some q->SOk P o E G q:=λb c a o E G q h=>by unfold stG at h;split at h;{rename_i t g s;split at h;{rename_i d r;cases h;obtain⟨cs,u,k,p,i,j,l,v⟩:=m g t d r;exact SOk.now λW F H n=>PQ.ref (PQ.glob s i j l) (by assumption)};.exact e _ _ _ _ _ _ _ h};.exact e _ _ _ _ _ _ _ h
def nilC{α β:Type}(l:List α)(x y:Option β):Option β:=match l with
 |[]=>x
 |_=>y
def z9r(P:Program)(f:FuncId)(e:TypeId)(k:Nat):Prop:=Qi P f=true/\PCall P f [.sl k []] (· =.fr e k [])
def jge(P:Program)(a:FuncId->Option (TypeId×Nat)):Prop:=∀f x,a f=some x->z9r P f x.1 x.2
def jao{P:Waq}{f:Wat}{e:Wap}{k:Nat}(q:Qi P f=true)
  (F:∀c w,Calls P f #[.slice none 0 c] w λj d=>j=.returned (.slice none 0 0)/\d=w)
  (hz:∀a c w,Calls P f #[.slice (some a) 0 c] w λj d=>∃h,j=.returned h/\d.ownsRow w.heap.size e k h 0 []/\Below w.heap.size w d):z9r P f e k:=by
 refine⟨q,λZ w O _ C D B=>?_⟩;obtain⟨v,rfl,G⟩:=z72 B;have fin:∀{h:Wan}{d:Wao},d.ownsRow Z.m e k h 0 []->(∀g,qc h=some g->¬PZ Z PHeap.empty V0 g)->∃p,p=PV.fr e k []/\NoP p/\Rp Z PHeap.empty V0 d p h:=λn l=>
  ⟨_,rfl,.fr _ _ _ λc M=>X,.fr e k [] _ [] (λy H=>by cases H) n l (λu z=>by cases z) λi p u N=>V⟩
 have zero:∀a c,v=.slice (some a) 0 c->Calls P f [v].toArray w (λj d=>∃v p,j=.returned v/\p=PV.fr e k []/\NoP p/\Rp Z PHeap.empty V0 d p v/\Below w.heap.size w d):=λa c ev=>by
  subst ev;refine(hz a c w).mono λj d⟨h,n,l,A⟩=>?_;obtain⟨p,r,s,t⟩:=fin (Q5 l D λ_ _ _=>rfl) λg q hz=>by
   have:=(Zu l q).1;have:=C g (J9.1 hz);omega
  exact⟨h,p,n,r,s,t,A⟩
 cases G with
 |nil k a c=>
  cases a with
  |some a=>exact zero a c rfl
  |none=>
   refine(F c w).mono λj d⟨n,l⟩=>?_;subst l;obtain⟨p,r,s,t⟩:=fin ⟨V,.inl ⟨rfl,rfl⟩⟩ λg q=>by cases q
   exact⟨_,p,n,r,s,t,Below.refl _ _⟩
 |sl k Q b o c g z x I L n l=>grind
structure NilS where
 t:Ty
 l:List t.D
 q:SR
def jmy(b:FuncId->Option (TypeId×Nat))(o:Oper)(a:Nat)(E:EF)(G:EG):Option NilS:=match o.op with
 |.call c=>match Jq o with
  |false=>none
  |true=>match zvh E c with
   |some (f,[.v ⟨.sl t,l⟩])=>match b f with
    |none=>none
    |some x=>match Nat.beq x.2 (wid t)with
     |false=>none
     |true=>some ⟨t,l,⟨Unit,true,some (),λ_=> .own a ((G a).ver+1),λ_=>[(a,⟨(G a).ver+1,some (.row x.1 t [])⟩)],[],[a],[]⟩⟩
   |_=>none
 |_=>none
def joy{P:Waq}{I:Wat->Wal (Wap×Nat)}(B:jge P I){o:Oper}{a:Nat}{E:EF}{G:EG}{y:NilS}(h:jmy I o a E G=some y)(C:y.l=[]):SOk P o E G y.q:=by
 unfold jmy at h;split at h<;>try (cases h;done)
 rename_i c M;split at h<;>try (cases h;done)
 rename_i g;obtain⟨d,g⟩:=yk g;split at h<;>try (cases h;done)
 rename_i f t l Y;split at h<;>try (cases h;done)
 rename_i x J;split at h<;>cases h;rename_i u;have u:=ql u;have C:l=[]:=C;subst C;obtain⟨T,A⟩:=B f x J;refine⟨λ_=>rfl,λr hr W n F H S R O Q=>?_⟩;have z:Agr o E G [] F H:=⟨O,λid h=>X⟩
 have k:=Q a (.inr Waf);have e:(H (.o a)).ver=(G a).ver:=by{rw[k.1];rfl};have s:=zjd M z Y;have j:zq [TS.v ⟨.sl t,[]⟩]=[PV.sl x.2 []]:=by{rw[u];rfl};rw[j]at s;refine wbe (id :=.o a) g (R d g) M s T ⟨rfl,λi p q N L=>?_⟩ (λp m=>?_) A (λp m=>X) ⟨by simp[TS.den,e],?_⟩;{rw[N]at L;cases L;have m:p=PV.sl x.2 []:=by{grind};subst m;exact λP W V w u v Z=>Z.noF (.sl _ _ λc A=>X) λb _ hz D=>hz (.inl (J9.1 D))};{simp[wcr]at m;subst m;exact .sl _ _ λc A=>X};.show _=H.set (.o a) (vz a _);simp only[vz,wc5,BD.den,e,u];rfl
def clnK{α:Type}(l:List α)(a b:SK):SK:=⟨λk=>nilC l (a.run k) (b.run k)⟩
def jvq{P:Waq}{o:Oper}{E:EF}{G:EG}{α:Type}{l:Wam α}{a b:SK}(c:l=[]->zou P o E G a)(d:zou P o E G b):zou P o E G (clnK l a b):=by cases l with|nil=>{exact c rfl}|cons x l=>exact d
structure RE where
 f:FuncId
 n:Nat
 rs:List ResultVar
 b:Nat
 un:List Nat
 hin:LH
 hout:LH
 g:DL hin.tys->Option (DL hout.tys)
def zqm(P:Program)(x:RE):Prop:=∃fn c,P.funcs[x.f]?=some fn/\fn.body=some c/\fn.ntmps=x.n/\fn.results.toList=x.rs/\Qi P x.f=true/\∀t r,x.g t=some r ->
 ∃a,(a=.normal\/a=.ret)/\OutC P x.b x.n c (unE x.hin (Jc _ t)) (unG x.hin (Jc _ t)) a (unE x.hout (Jc _ r)) (unG x.hout (Jc _ r))
def juz(P:Program)(x:RE)(e:Call)(d:Nat)(E:EF)(G:EG):Option SK:=match zvh E e with
 |none=>none
 |some (f,c)=>match Nat.beq f x.f && Nat.ble c.length x.n with
  |false=>none
  |true=>match reach G 1000 (zd4 G (zkg c)) []with
   |none=>none
   |some a=>match zun x.un true a 0 with
    |L0=>match L0++zun x.un false a 0 with
     |L=>match zmj L && Nat.beq L0.length x.b with
      |false=>none
      |true=>some ⟨λk=>meet x.b x.hin (λt=>ja (x.g t) λr=>inlX P ⟨x.f,x.n,x.rs,.skip,λ_=>none,0,x.un⟩ L x.b d G k .ret 0 (unE x.hout (Jc _ r)) (unG x.hout (Jc _ r))) (jri (zak (mu1 L L.length G) c)) (inG L G)⟩
def jh7{P:Waq}{x:RE}(hx:zqm P x){o:Oper}{O:Call}(Q:o.op=.call O){p:Nat}{E:EF}{G:EG}{q:SK}(h:juz P x O p E G=some q):zou P o E G q:=by
 obtain⟨fn,c,hf,J,hn,hr,hg,T⟩:=hx;unfold juz at h;split at h<;>try (cases h;done)
 rename_i f az ht;split at h<;>try (cases h;done)
 rename_i e;simp only[wco]at e;have y:=ql e.1;have a2:=wej e.2;subst y;split at h<;>try (cases h;done)
 rename_i d L;simp only at h;split at h<;>try (cases h;done)
 rename_i j;simp only[wco]at j;cases h;intro β k r hk;obtain⟨t,hp,l,hu⟩:=Yz hk;cases a:x.g t with
 |none=>rw[a]at l;cases l
 |some N=>
  rw[a]at l;replace l:inlX P ⟨x.f,x.n,x.rs,.skip,λ_=>none,0,x.un⟩ (zun x.un true d 0++zun x.un false d 0) x.b p G k .ret 0 (unE x.hout (Jc _ N)) (unG x.hout (Jc _ N))=some r:=l;obtain⟨_,s,NL,hs,w,C,M⟩:=z5f l;obtain⟨e0,v,D⟩:=T t N a;have a5:=ql j.2;refine⟨_,_,_,C,λk2=>?_,λid B=>by rw[zf4]at B;omega,λW n F H z hd Y Z=>?_⟩;{refine(hu _).trans ?_;rw[a];exact M k2}
  .have u:Agr o E G [] F H:=⟨Y,λid h=>X⟩
   have m:=OutC.into (Z0 hp) D;refine wcg hd Q (zjd Q u ht) hg hf J U z (jac w) (ziy j.1) (λi hi=>Z i (.inr (by rw[zf4];omega))) v (λS R A I=>by rw[hn];exact m S R A I) ?_;grind
def ji6(re:FuncId->Option RE)(o:Oper)(E:EF):Option (RE×Call):=match o.op with
 |.call c=>match zvh E c with
  |some (f,_)=>match re f with
   |some x=>some (x,c)
   |none=>none
  |none=>none
 |_=>none
def zyq{re:Wat->Wal RE}{o:Oper}{E:EF}{x:RE×Call}(h:ji6 re o E=some x):o.op=.call x.2/\∃f,re f=some x.1:=by unfold ji6 at h;grind
def syR(P:Program)(oc:Option FuncId)(g:FuncId->Option (TypeId×Nat))(e:TypeId->Option KY)(f:Nat->Nat->Option LK)(st:Sy1)(it:Nat->Nat->FuncId->Option IE)(re:FuncId->Option RE)(fuel:Nat):Nat->SyT
 |0=>λc a b o E G=>match ji6 re o E with
  |some x=>juz P x.1 x.2 a E G
  |none=>stR P e (f c (z0q o)) (st c a b o E G) a o E G
 |d+1=>λc a b o E G=>match ji6 re o E with
  |some x=>juz P x.1 x.2 a E G
  |none=>match jfe oc it c b o E with
   |some x=>jr7 P (syR P oc g e f st it re fuel d) fuel x.1 x.2.1 x.2.2 a E G
   |none=>match jm2 it c b o E with
    |some x=>match jmy g o a E G with
     |none=>jnz P (syR P oc g e f st it re fuel d) fuel x.1 x.2 a E G
     |some y=>match jnz P (syR P oc g e f st it re fuel d) fuel x.1 x.2 a E G with
      |none=>none
      |some q=>some (clnK y.l (y.q.k G) q)
    |none=>stR P e (f c (z0q o)) (st c a b o E G) a o E G
def z76{P:Waq}{oc:Wal Wat}(n:∀f,oc=some f->z1h P f){w:Wat->Wal (Wap×Nat)}(m:jge P w){z:Wap->Wal KY}(g:z24 P z){C:Nat->Nat->Wal LK}{st:Sy1}{it:Nat->Nat->Wat->Wal IE}{re:Wat->Wal RE}{fuel:Nat}(hm:P.follows .mixedOrders=true)(j:∀c s a o E G q,st c s a o E G=some q->SOk P o E G q)(b:∀c a f x,it c a f=some x->ji2 P x)(i:∀f x,re f=some x->zqm P x):∀d,zwp P (syR P oc w z C st it re fuel d)
 |0=>λc s a o E G q h=>by simp[syR]at h;split at h;{rename_i x l;obtain⟨r,f,p⟩:=zyq l;exact jh7 (i _ _ p) r h};.exact jsr g (λx l=>j _ _ _ _ _ _ _ l) h
 |d+1=>λc s a o E G q h=>by simp[syR]at h;split at h;{rename_i x l;obtain⟨r,f,p⟩:=zyq l;exact jh7 (i _ _ p) r h};.split at h;{rename_i x l;obtain⟨r,A,u,t,f,p⟩:=jba l;exact jpz (z76 n m g hm j b i d) hm (n _ A) (b _ _ _ _ p) r h};.split at h;{rename_i x l;obtain⟨r,u,t,f,p⟩:=je8 l;split at h;{exact z71 (z76 n m g hm j b i d) hm (b _ _ _ _ p) r h};.rename_i y B;split at h<;>cases h;rename_i D v;exact jvq (λe=>(joy m B e).k) (z71 (z76 n m g hm j b i d) hm (b _ _ _ _ p) r v)};.exact jsr g (λx l=>j _ _ _ _ _ _ _ l) h
def funE(P:Program)(a:SyT)(hint:Nat->Option HK)(n:Nat)(c:Code)(b:Nat)(hin hout:LH)(nn:Nat)(t:DL hin.tys):Option (DL hout.tys):=
 vq a nn hint 0 b n c 1 hin.nx (unE hin (Jc _ t)) (unG hin (Jc _ t)) λe _ E G=>match e with
  |.normal=>meet b hout some E G
  |.ret=>meet b hout some E G
  |_=>none
def jtx{P:Waq}{l:SyT}(i:zwp P l)(hm:P.follows .mixedOrders=true){hint:Nat->Wal HK}{x:RE}{nn:Nat}{fn:Func}{c:Code}(o:P.funcs[x.f]?=some fn)(m:fn.body=some c)(s:fn.ntmps=x.n)(u:fn.results.toList=x.rs)(p:Qi P x.f=true)
  (q:∀t,funE P l hint x.n c x.b x.hin x.hout nn t=x.g t):zqm P x:=by
 refine⟨fn,c,o,m,s,u,p,λt r h=>?_⟩;have h:=(q t).trans h;unfold funE at h;obtain⟨e,z,w,y,j,_,k⟩:=ze hm i c 1 _ _ _ _ r h;cases e with
 |normal=>
  obtain⟨v,d,a,_⟩:=Yz j;cases a;exact⟨_,.inl rfl,k.ren (Z0 d)⟩
 |ret=>
  obtain⟨v,d,a,_⟩:=Yz j;cases a;exact⟨_,.inr rfl,k.ren (Z0 d)⟩
 |_=>grind
def lk{α:Type}(l:List (Nat×α))(k:Nat):Option α:=List.rec (motive:=λ_=>Option α) none (λe _ a=>cond (Nat.beq k e.1) (some e.2) a) l
def hsN(l:List Nat)(k:Nat):Bool:=List.rec (motive:=λ_=>Bool) false (λa _ b=>cond (Nat.beq k a) true b) l
def lkL{α:Type}(l:List (Nat×List α))(k:Nat):List α:=List.rec (motive:=λ_=>List α) [] (λe _ a=>cond (Nat.beq k e.1) e.2 a) l
def zfm{α:Type}{a:Nat}{y:α}{l:Wam (Nat×α)}{f:Nat}{x:α}(h:lk ((a,y)::l) f=some x):f=a/\y=x\/lk l f=some x:=by have h:cond (Nat.beq f a) (some y) (lk l f)=some x:=h;cases b:Nat.beq f a;{grind};simp_all
structure Cfg where
 zt:ZT
 zt2:ZT
 zy:ZY
 ky:TypeId->Option KY
 oc:Option FuncId:=none
 at_:FuncId->Option AtK:=λ_=>none
 cl:FuncId->Option (TypeId×Nat):=λ_=>none
 gl:GlK:=λ_ _=>none
structure jpm(c:Cfg):Prop where
 zt:zh8 Tryz.prog c.zt
 zt2:zh8 Tryz.prog c.zt2
 ky:z24 Tryz.prog c.ky
 oc:∀f,c.oc=some f->z1h Tryz.prog f:=by intro f h;cases h
 at_:jwe Tryz.prog c.at_:=by intro f k h;cases h
 gl:GlOk Tryz.prog c.gl:=by intro g t d h;cases h
 cl:jge Tryz.prog c.cl:=by intro f x h;cases h
def prsK(cf:Cfg)(bds:List (Nat×List Nat))(lits:List (Nat×List (Nat×LK)))(S:jec)(c:Nat):Prm:={ bd:=hsN (lkL bds c),lit:=lk (lkL lits c),zt:=cf.zt,zt2:=cf.zt2,zy:=cf.zy,S:=S }
def fzK(l:List (Nat×List (Nat×Ty)))(c t:Nat):List (Nat×Ty):=lkL l (c*1000000+t)
def frK(l:List Nat)(c t:Nat):Bool:=hsN l (c*1000000+t)
def itK(l:List (Nat×IE))(c t f:Nat):Option IE:=lk l ((c*1000000+t)*10000+f)
def syK(cf:Cfg)(bds:List (Nat×List Nat))(lits:List (Nat×List (Nat×LK)))(fz:List (Nat×List (Nat×Ty)))(frs:List Nat)(S:List (Nat×PF))(T:List (Nat×FF))(it:List (Nat×IE))(re:List (Nat×RE))(nn d:Nat):SyT:=
 syR Tryz.prog cf.oc cf.cl cf.ky (λc t=>lk (lkL lits c) t) (stG Tryz.prog cf.gl (stA Tryz.prog cf.at_ (jmq cf.ky (prsK cf bds lits (lk S)) (fzK fz) (frK frs) (lk T)))) (itK it) (lk re) nn d
def js(f:FuncId)(x:PF):Prop:=z8w Tryz.prog f x.ats x.rt x.g
def FFOk(f:FuncId)(x:FF):Prop:=zpq Tryz.prog f x.ats x.e x.rt x.g
def tn:Y4 Tryz.prog (lk []):=λf x h=>by cases h
def tc{f:Wat}{y:PF}{l:Wam (Nat×PF)}(h:js f y)(b:Y4 Tryz.prog (lk l)):Y4 Tryz.prog (lk ((f,y)::l)):=λg x a=>by rcases zfm a with⟨rfl,rfl⟩|a;{exact h};.exact b g x a
def gn:zdr Tryz.prog (lk []):=λf x h=>by cases h
def gc{f:Wat}{y:FF}{l:Wam (Nat×FF)}(h:FFOk f y)(b:zdr Tryz.prog (lk l)):zdr Tryz.prog (lk ((f,y)::l)):=λg x a=>by rcases zfm a with⟨rfl,rfl⟩|a;{exact h};.exact b g x a
def cn:jge Tryz.prog (lk []):=λf x h=>by cases h
def cc{f:Wat}{y:Wap×Nat}{l:Wam (Nat×(Wap×Nat))}(h:z9r Tryz.prog f y.1 y.2)(b:jge Tryz.prog (lk l)):jge Tryz.prog (lk ((f,y)::l)):=λg x a=>by rcases zfm a with⟨rfl,rfl⟩|a;{omega};.exact b g x a
def jap(l:List (Nat×IE)):Prop:=∀k x,lk l k=some x->ji2 Tryz.prog x
abbrev ie(f:FuncId)(fn:Func)(h:Nat->Option HK)(ctx:Nat)(un:List Nat):IE:=⟨f,fn.ntmps,fn.results.toList,fn.body.getD .skip,h,ctx,un⟩
def ckI(f:FuncId)(fn:Func):Bool:=fn.body.isSome && Qi Tryz.prog f
def itn:jap []:=λk x h=>by cases h
def zik{fn:Func}(h:fn.body.isSome=true):fn.body=some (fn.body.getD .skip):=by cases a:fn.body with|none=>{grind}|some c=>rfl
def itc(k:Nat){f:Wat}{fn:Func}(hf:Tryz.prog.funcs[f]?=some fn)(h:Nat->Wal HK)(b:Nat)(e:Wam Nat){l:Wam (Nat×IE)}(d:jap l)(a:ckI f fn=true):jap ((k,ie f fn h b e)::l):=λg x c=>by rcases zfm c with⟨rfl,rfl⟩|c;{unfold ckI at a;rw[wco]at a;exact⟨fn,hf,zik a.1,rfl,rfl,a.2⟩};.exact d g x c
def ckF(f:FuncId)(fn:Func)(ats:List Ty):Bool:=fn.body.isSome && (Nat.ble ats.length fn.ntmps && Qi Tryz.prog f)
def zrk(l:List (Nat×RE)):Prop:=∀f x,lk l f=some x->zqm Tryz.prog x
def rn:zrk []:=λk x h=>by cases h
def rc{y:RE}{l:Wam (Nat×RE)}(h:zqm Tryz.prog y)(b:zrk l):zrk ((y.f,y)::l):=λg x a=>by rcases zfm a with⟨rfl,rfl⟩|a;{omega};.exact b g x a
def jdv{cf:Cfg}(hcf:jpm cf){bds:Wam (Nat×Wam Nat)}{lits:Wam (Nat×Wam (Nat×LK))}{fz:Wam (Nat×Wam (Nat×Ty))}{frs:Wam Nat}{S:Wam (Nat×PF)}{T:Wam (Nat×FF)}{it:Wam (Nat×IE)}{re:Wam (Nat×RE)}{nn d:Nat}(b:Y4 Tryz.prog (lk S))(c:zdr Tryz.prog (lk T))(hI:jap it)(a:zrk re):zwp Tryz.prog (syK cf bds lits fz frs S T it re nn d):=
 z76 hcf.oc hcf.cl hcf.ky mixed (stG_ok hcf.gl (stA_ok hcf.at_ (jn0 hcf.ky c (λ_=>b) (λ_=>hcf.zt) (λ_=>hcf.zt2)))) (λ_ _ _ _ h=>hI _ _ h) a d
section
variable{cf:Cfg}(hcf:jpm cf){f:FuncId}{fn:Func}(hf:Tryz.prog.funcs[f]?=some fn)(nn d:Nat)(bds:List (Nat × List Nat))(lits:List (Nat × List (Nat × LK)))(fz:List (Nat × List (Nat × Ty)))(frs:List Nat){S:List (Nat × PF)}{T:List (Nat × FF)}{it:List (Nat × IE)}{re:List (Nat × RE)}(hI:jap it)(h:Nat → Option HK)
include hcf hf hI
def mkP(b:zrk re)(e:zdr Tryz.prog (lk T))(c:Y4 Tryz.prog (lk S)){x:PF}(a:ckF f fn x.ats=true)(i:∀t,funP Tryz.prog (syK cf bds lits fz frs S T it re nn d) h fn.ntmps fn.results.toList (fn.body.getD .skip) x.ats x.rt nn t=x.g t):js f x:=by unfold ckF at a;simp only[wco]at a;have h:=jsv (jdv hcf (bds:=bds) (lits:=lits) (fz:=fz) (frs:=frs) (nn:=nn) (d:=d) c e hI b) mixed (hint:=h) (rt:=x.rt) (nn:=nn) hf (zik a.1) rfl rfl a.2.1 a.2.2;exact⟨h.1,λt r j=>h.2 t r ((i t).trans j)⟩
def mkF(b:zrk re)(i:zdr Tryz.prog (lk T))(c:Y4 Tryz.prog (lk S)){x:FF}(a:ckF f fn x.ats=true)(j:∀t,funF Tryz.prog (syK cf bds lits fz frs S T it re nn d) h fn.ntmps fn.results.toList (fn.body.getD .skip) x.ats x.e x.rt nn t=x.g t):FFOk f x:=by unfold ckF at a;simp only[wco]at a;have h:=jvu (jdv hcf (bds:=bds) (lits:=lits) (fz:=fz) (frs:=frs) (nn:=nn) (d:=d) c i hI b) mixed (hint:=h) (ee:=x.e) (rt:=x.rt) (nn:=nn) hf (zik a.1) rfl rfl a.2.1 a.2.2;exact⟨h.1,λt r k=>h.2 t r ((j t).trans k)⟩
def mkR(e:zrk re)(i:zdr Tryz.prog (lk T)){ats:Wam Ty}{rt:Ty}{b:(DL ats->Wal rt.D)->DL ats->Wal rt.D}{q:Nat->DL ats->Wal rt.D}{S:(DL ats->Wal rt.D)->Wam (Nat×PF)}(g:∀rec,js f ⟨ats,rt,rec⟩->Y4 Tryz.prog (lk (S rec)))(a:ckF f fn ats=true)(j:∀rec t,funP Tryz.prog (syK cf bds lits fz frs (S rec) T it re nn d) h fn.ntmps fn.results.toList (fn.body.getD .skip) ats rt nn t=b rec t)
  (h0:∀t,q 0 t=none) (c:∀m t,q (m+1) t=b (q m) t):∀m,js f ⟨ats,rt,q m⟩
 |0=>by unfold ckF at a;simp[wco]at a;exact⟨a.2.2,λt r k=>by have:=(h0 t).symm.trans k;grind⟩
 |m+1=>by have l:=mkR e i g a j h0 c m;exact mkP hcf hf nn d bds lits fz frs hI h e i (g _ l) a λt=>(j _ t).trans (c m t).symm
def mkS(g:zrk re){ats:Wam Ty}{e:Wap}{rt:Ty}{b:(DL ats->Wal (Wam rt.D))->DL ats->Wal (Wam rt.D)}{q:Nat->DL ats->Wal (Wam rt.D)}{T:(DL ats->Wal (Wam rt.D))->Wam (Nat×FF)}{S:Wam (Nat×PF)}(j:∀rec,FFOk f ⟨ats,e,rt,rec⟩->zdr Tryz.prog (lk (T rec)))(i:Y4 Tryz.prog (lk S))(a:ckF f fn ats=true)(k:∀rec t,funF Tryz.prog (syK cf bds lits fz frs S (T rec) it re nn d) h fn.ntmps fn.results.toList (fn.body.getD .skip) ats e rt nn t=b rec t)
  (h0:∀t,q 0 t=none) (c:∀m t,q (m+1) t=b (q m) t):∀m,FFOk f ⟨ats,e,rt,q m⟩
 |0=>by unfold ckF at a;simp[wco]at a;exact⟨a.2.2,λt r l=>by have:=(h0 t).symm.trans l;grind⟩
 |m+1=>by have n:=mkS g j i a k h0 c m;exact mkF hcf hf nn d bds lits fz frs hI h g (j _ n) i a λt=>(k _ t).trans (c m t).symm
def mkE{b:Nat}{k:Wam Nat}{hin hout:LH}{bo:(DL hin.tys->Wal (DL hout.tys))->DL hin.tys->Wal (DL hout.tys)}{q:Nat->DL hin.tys->Wal (DL hout.tys)}{re:(DL hin.tys->Wal (DL hout.tys))->Wam (Nat×RE)}(e:∀rec,zqm Tryz.prog ⟨f,fn.ntmps,fn.results.toList,b,k,hin,hout,rec⟩->zrk (re rec))(i:zdr Tryz.prog (lk T))(g:Y4 Tryz.prog (lk S))(a:ckI f fn=true)(j:∀rec t,funE Tryz.prog (syK cf bds lits fz frs S T it (re rec) nn d) h fn.ntmps (fn.body.getD .skip) b hin hout nn t=bo rec t)
  (h0:∀t,q 0 t=none) (c:∀m t,q (m+1) t=bo (q m) t):∀m,zqm Tryz.prog ⟨f,fn.ntmps,fn.results.toList,b,k,hin,hout,q m⟩
 |0=>by unfold ckI at a;rw[wco]at a;exact⟨fn,_,hf,zik a.1,rfl,rfl,a.2,λt r n=>X⟩
 |m+1=>by have l:=mkE e i g a j h0 c m;unfold ckI at a;rw[wco]at a;exact jtx (jdv hcf g i hI (e _ l)) mixed hf (zik a.1) rfl rfl a.2 λt=>(j _ t).trans (c m t).symm
end
def vi(n:Nat):Nat×HS:=(n,.v (.int .i64))
def vb(n:Nat):Nat×HS:=(n,.v .bool)
def vl(n:Nat):Nat×HS:=(n,.v (.sl (.int .i64)))
def vo(n X:Nat):Nat×HS:=(n,.own X)
def vp(n X:Nat):Nat×HS:=(n,.pt X 0)
def hbz(l:List HB)(k:Nat):List (Nat×HB):=List.rec (motive:=λ_=>Nat->List (Nat×HB)) (λ_=>[]) (λb _ a k=>(k,b)::a (k+1)) l k
def cu(s:List (Nat×HS))(l:List HB)(n:Nat)(c:List (Nat×HS))(a:List HB)(b:Nat):HK :=.cut ⟨s,hbz l 0,n⟩ ⟨c,hbz a 0,b⟩
def me(s:List (Nat×HS))(l:List HB)(n:Nat):HK :=.meet ⟨s,hbz l 0,n⟩
def zn{P:Waq}:zh8 P (lk []):=λt a h=>by cases h
def zc{P:Waq}{t:Nat}{xs:Wam TS}{l:Wam (Nat×Wam TS)}(e:(zrf P t).isSome=true)(b:((zrf P t).getD []).all Value.oneCell'=true)(c:((zrf P t).getD []).map .u=qb xs)(f:zh8 P (lk l)):zh8 P (lk ((t,xs)::l)):=λg h a=>by rcases zfm a with⟨rfl,rfl⟩|a;{obtain⟨us,d⟩:=wdh.1 e;rw[d]at b c;exact⟨us,d,b,was c⟩};.exact f g h a
def FFOk.pure{f:Wat}{x:FF}(h:FFOk f x):js f ⟨x.ats,.sl x.rt,x.g⟩:=⟨h.1,λt r a=>(h.2 t r a).forget⟩
end
end Go.Proofs.YtiafpechgjopfaaGreatDoor.T
namespace Go.Proofs.YtiafpechgjopfaaGreatDoor
noncomputable section
open _root_.Go.Proofs.Tryz
set_option maxRecDepth 100000
set_option maxHeartbeats 8000000
set_option linter.unusedVariables false
set_option linter.unusedSimpArgs false
set_option linter.defProp false
open List (replicate range)
open Go.ChangeShapes Go.WideShapes Go.ChangeAt Go.RowKit
def znp{H:Type}{enc:Wap×Wan->H}{P:Waq}(l:laidOutB P=true){W j:Wao}(k:Below W.heap.size W j):
  ∀c e(ds:Wam (DataW H))(ps:Wam MemPlace),(∀t∈c,P.readableRec t=true/\t<P.types.size)->(∀x∈ps,x.block<W.heap.size) ->
   DataW.TrodAll enc P W 0 (λ_=>true) true c e ds ps->DataW.TrodAll enc P j 0 (λb=>decide (b<W.heap.size)) true c e ds ps
 |[],e,ds,ps,_,_,h=>by obtain⟨rfl,rfl,rfl⟩:=trodAll_nil h;rfl
 |t::c,e,ds,ps,m,a,h=>by
  obtain⟨v,i,d,f,p,q,rfl,rfl,rfl,h0,n⟩:=trodAll_cons h;have g:=m t V;exact trodAll_cons_mk (Below.trod l g.1 g.2 h0 k λx o=>a x X)
   (znp l k c i f q (λt g=>m t X) (λx o=>a x X) n)
def law_post{H:Type}{enc:Wap×Wan->H}{P:Waq}{f:Func}{s:ChangeSpec}{o:Wap}(w:laidOutB P=true)(z:(f.params.toList.all λt=>P.readableRec t && decide (t<P.types.size))=true)
  (b:s.vars=[]) (d:f.resultTypes = #[o]) (v:P.underlying o=some .bool) {W k:Wao}{args:Array Wan}{ds r:Wam (DataW H)}{a:Wam MemPlace}
  (m:DataW.Whole enc P f.params.toList s.vars false W args.toList ds r a) (e:s.fn H ds = { results:=[.lit (.bool true)],args:=ds }) (n:Below W.heap.size W k) :
  s.post enc P f false true false false W args (.bool true) k:=by
 have g:=m;obtain⟨p,q,u,l,c,_,_⟩:=m;rw[b]at l;obtain⟨rfl,rfl⟩:=trodVars_none l;rw[wc1]at c;subst c;have i:∀x∈a,x.block<W.heap.size:=λx y=>by simpa using g.lt x y
 have j:∀t∈f.params.toList,P.readableRec t=true/\t<P.types.size:=by
  grind
 refine⟨ds,[],a,[],a,[],g,?_,?_,?_,n.frame _,λh=>X⟩
 ·rw[wc1,e,d];exact trodAll_mk1 (shut_bool v true)
 ·rw[wc1,e];exact znp w n _ _ _ _ j i u
 ·rw[wc1,e,b];rfl
open Go Go.RowKit Go.ChangeShapes Go.WideShapes L
abbrev F0:ZM:=⟨λ_=>False,0⟩
abbrev B(b:Bool):PV :=.u (.bool b)
abbrev S(s:ByteArray):PV :=.u (.string s)
def arV{α:Type}{n:Nat}(b:α->PV)(a:{l:List α // l.length=n}):PV :=.agg (a.1.map b)
def OkI(k:IntKind)(z:Int):Prop:=(Lit.int k z).wf=true
def OkI.u64{z:Int}(h:OkI .u64 z):0<=z/\z<18446744073709551616:=by have:0<=z/\z<=18446744073709551615:=by{simpa [OkI,Lit.wf,IntKind.min,IntKind.max,IntKind.signed,IntKind.bits]using h};omega
section
variable{w:World}{Z:ZM}{H:PHeap}{V:Nm → Value}
def rl_nil:RpL Z H V w [] []:=⟨rfl,λi p v h=>by simp at h⟩
def rl_cons{p:PV}{v:Wan}{ps:Wam PV}{vs:Wam Wan}(h:Rp Z H V w p v)(c:RpL Z H V w ps vs):RpL Z H V w (p::ps) (v::vs):=⟨by simp[c.1],λi a b d e=>by
 cases i with
 |zero=>grind
 |succ i=>exact c.2 i a b X X⟩
def rl_app{ps qs:Wam PV}{vs us:Wam Wan}(h:RpL Z H V w ps vs)(f:RpL Z H V w qs us):RpL Z H V w (ps++qs) (vs++us):=by refine⟨by simp[h.1,f.1],λi a b c d=>?_⟩;by_cases e:i<ps.length;{rw[wcx e]at c;rw[wcx (h.1▸e)]at d;exact h.2 i a b c d};.rw[wcz U]at c;rw[wcz (by rw[<- h.1];omega),<- h.1]at d;exact f.2 _ a b c d
def rl_cut{ps qs:Wam PV}{cs:Wam Wan}(n:Nat)(h:RpL Z H V w ps (cs.take n))(a:RpL Z H V w qs (cs.drop n)):RpL Z H V w (ps++qs) cs:=by have:=rl_app h a;simp_all
def rl_end{cs:Wam Wan}(h:cs.length=0):RpL Z H V w [] cs:=by cases cs with|nil=>{exact rl_nil}|cons c cs=>grind
def rl_dd{ps:Wam PV}{cs:Wam Wan}{m n k:Nat}(e:m+n=k)(h:RpL Z H V w ps (cs.drop k)):RpL Z H V w ps ((cs.drop m).drop n):=by simp_all
def rl_one{p:PV}{v:Wan}(h:RpL Z H V w [p] [v]):Rp Z H V w p v:=h.2 0 p v rfl rfl
def rl_agg{ps:Wam PV}{cs:Array Wan}(h:RpL Z H V w ps (Value.agg cs).cells.toList):Rp Z H V w (.agg ps) (.agg cs):=
 .agg _ _ (by simpa [Value.cells]using h.1) λi p u a b=>h.2 i p u a (by simpa [Value.cells]using b)
end
section
variable{H:Type}{enc:TypeId × Value → H}{P:Program}{w:World}{base:Nat}{spare:Nat → Bool}{held:Bool}
def Opens(enc:TypeId×Value->H)(P:Program)(w:World)(base:Nat)(spare:Nat->Bool)(held:Bool)(t:TypeId){α:Type}(c:α->PV)(C:α->Prop):Prop:=
 ∀(b:Nat)(cs:List Value)(x:DataW H×List MemPlace),DataW.trod enc P w base spare held b t cs=some x->∃a,RpL F0 PHeap.empty V0 w (c a).cells cs/\C a
def jmb{t:Wap}{k:Was}(b:P.underlying t=some (.int k)):Opens enc P w base spare held t (λz=> .u (.int k z)) (OkI k):=λa cs x h=>by obtain⟨n,rfl,_,c⟩:=DataW.trod_int b h;exact⟨n,rl_cons (.u _) rl_nil,c⟩
def jgg{t:Wap}(b:P.underlying t=some .bool):Opens enc P w base spare held t B (λ_=>True):=λa cs x h=>by obtain⟨n,rfl,_⟩:=DataW.trod_bool b h;exact⟨n,rl_cons (.u _) rl_nil,trivial⟩
def jjs{t:Wap}(c:P.underlying t=some .string):Opens enc P w base spare held t S (λs=>s.size<=maxLen):=λa cs x h=>by obtain⟨n,rfl,_,b⟩:=DataW.trod_string c h;exact⟨n,rl_cons (.u _) rl_nil,b⟩
def jjw{α:Type}[Inhabited α]{t e:Wap}{n:Nat}{b:α->PV}{C:α->Prop}(A:P.underlying t=some (.array n e))(y:P.cellsOf e=1)(z:P.cellsOf t=n)(c:∀a,(b a).cells=[b a])
  (s:Opens enc P w base spare held e b C):Opens enc P w base spare held t (arV (n:=n) b) (λa=>∀x∈a.1,C x):=λl cs x h=>by
 obtain⟨G,m,_,_,f,B,hz⟩:=DataW.trod_array A h;rw[z]at f;have d:∀i,i<n->∃q,(∃u,cs[i]?=some u/\Rp F0 PHeap.empty V0 w (b q) u)/\C q:=λi j=>by
  have g:=hz i j;rw[y,Nat.mul_one,wch U]at g;obtain⟨q,k,o⟩:=s m _ _ g;have r:(cs.drop i).take 1=[cs[i]'U]:=by rw[wcw U];rfl
  rw[r,c]at k;exact⟨q,⟨_,wch U,rl_one k⟩,o⟩
 obtain⟨q,k⟩:=Go.Deep.choose_lt d;refine⟨⟨(range n).map q,Waf⟩,?_,λx F=>?_⟩
 ·refine⟨by simp[arV,PV.cells,f],λi p v g D=>?_⟩;have j:i<n:=X;simp[arV,PV.cells,j]at g
  grind
 grind
end
def jlv{f:Wat}{qs:Wam PV}(h:PCall Tryz.prog f qs (· = B true)){w:Wao}{vs:Wam Wan}(a:L.GW w)(k:RpL F0 PHeap.empty V0 w qs vs):Calls Tryz.prog f vs.toArray w λe d=>e=.returned (.bool true)/\Below w.heap.size w d:=
 (h F0 w vs a (λb c=>False.elim c) (wdz _) k).mono λe d⟨v,p,i,j,_,g,c⟩=>by
  subst j;rw[rpu g]at i
  grind
end
end Go.Proofs.YtiafpechgjopfaaGreatDoor
namespace Go.Proofs.YtiafpechgjopfaaGreatDoor.T
noncomputable section
open _root_.Go.Proofs.Tryz
set_option maxRecDepth 100000
set_option maxHeartbeats 8000000
set_option linter.unusedVariables false
set_option linter.unusedSimpArgs false
set_option linter.defProp false
open List (replicate range)
open Go Go.RowKit Go.ChangeShapes Go.WideShapes L
instance {n:Nat}{α:Type} [Inhabited α]:Inhabited (Arr n α):=⟨⟨replicate n default,wci⟩⟩
def OkD:(t:Ty)->t.D->Prop
 |.int k,z=>OkI k z
 |.bool,_=>True
 |.str,s=>s.length<=maxLen
 |.sl t,l=>l.length<=maxLen/\∀x∈l,OkD t x
 |.ref _,_=>True
 |.arr _ t,a=>∀x∈a.l,OkD t x
 |.nil,_=>True
 |.cons a r,x=>OkD a x.1/\OkD r x.2
 |.st r,x=>OkD r x
 |.tup r,x=>True
section
variable{H:Type}{ec:TypeId × Value → H}{P:Program}{w:World}{base:Nat}{spare:Nat → Bool}{held:Bool}
abbrev OpenT(ec:TypeId×Value->H)(P:Program)(w:World)(base:Nat)(spare:Nat->Bool)(held:Bool)(t:TypeId)(y:Ty):Prop:=Opens ec P w base spare held t (enc y) (OkD y)
def op_int{t:Wap}{k:Was}(a:P.underlying t=some (.int k)):OpenT ec P w base spare held t (.int k):=jmb a
def op_bool{t:Wap}(a:P.underlying t=some .bool):OpenT ec P w base spare held t .bool:=jgg a
def op_str{t:Wap}(d:P.underlying t=some .string):OpenT ec P w base spare held t .str:=λa cs x h=>by obtain⟨s,b,c⟩:=jjs d a cs x h;exact⟨s.data.toList,b,c⟩
def op_arr{t e:Wap}{n:Nat}{y:Ty}[Inhabited y.D](k:P.underlying t=some (.array n e))(i:P.cellsOf e=1)(j:P.cellsOf t=n)(f:∀a,jp y a=[enc y a])(g:OpenT ec P w base spare held e y):OpenT ec P w base spare held t (.arr n y):=λc cs x h=>by obtain⟨a,m,d⟩:=jjw k i j (λa=>by rw[enc_cells,f]) g c cs x h;refine⟨⟨a.1,a.2⟩,?_,d⟩;have e:(enc (.arr n y) (⟨a.1,a.2⟩:Arr n y.D)).cells=(arV (enc y) a).cells:=by{rw[enc_cells];show a.1.flatMap (jp y)=a.1.map (enc y);generalize a.1=l;induction l with|nil=>{rfl}|cons b l o=>grind};grind
end
def row_pure{f:Wat}{ats:Wam Ty}{g:DL ats->Wal Bool}(h:z8w Tryz.prog f ats .bool g){t:DL ats}(b:g t=some true){w:Wao}{vs:Wam Wan}(c:RpL F0 PHeap.empty V0 w (pvs (Jc ats t)) vs)(a:GW w:=by intro x h;cases h):Calls Tryz.prog f vs.toArray w λe d=>e=.returned (.bool true)/\Below w.heap.size w d:=
 jlv (h.2 t true b) a c
def Fit(l:List Nat):Prop:=∀n∈l,n<=reachBytes
def zxx{H:Type}{P:Waq}{e:Wap}{n:Nat}:∀{l:Wam (DataW H)}{d:DataW H},d∈l->n∈d.weights P e->n∈DataW.weightsAll P e l
 |x::l,d,a,b=>by simp[DataW.weightsAll,wcu];rcases wda.1 a with rfl|a;{grind};.exact .inr (zxx a b)
section
variable{H:Type}{enc:TypeId × Value → H}{P:Program}{w:World}{base:Nat}{spare:Nat → Bool}{held:Bool}
def OpensS(enc:TypeId×Value->H)(P:Program)(w:World)(base:Nat)(spare:Nat->Bool)(held:Bool)(t:TypeId){α:Type}(c:α->PV)(C:α->Prop):Prop:=
 ∀(b:Nat)(cs:List Value)(x:DataW H×List MemPlace),DataW.trod enc P w base spare held b t cs=some x->Fit (x.1.weights P t)->∃a,RpL F0 PHeap.empty V0 w (c a).cells cs/\C a
def jk2{α:Type}[Inhabited α]{t e:Wap}{k:Nat}{c:α->PV}{C:α->Prop}(ht:P.underlying t=some (.slice e))(hk:P.cellsOf e=k)(d:0<k)(R:∀a,(c a).cells.length=k)
  (he:OpensS enc P w base spare held e c C):OpensS enc P w base spare held t (λ(l:Wam α)=> .sl k (l.map c)) (λl=>l.length<=maxLen/\l.length*P.bytesOf e<=reachBytes/\∀a∈l,C a):=λa5 cs x h F=>by
 have g:=he
 suffices hs:∃(l:Wam α)(v:Wan),cs=[v]/\Rp F0 PHeap.empty V0 w (.sl k (l.map c)) v/\l.length<=maxLen/\l.length*P.bytesOf e<=reachBytes/\∀a∈l,C a by
  obtain⟨l,v,rfl,H,O⟩:=hs;exact⟨l,rl_cons H rl_nil,O⟩
 rcases Go.Deep.open_slice ht h with⟨f,_⟩|⟨a,len,M,m,n,D,Pl,f,hb,hl,hm,c0,a4,hx⟩
 ·exact⟨[],_,f,.nil _ _ _,wdz _,V,λa ha=>X⟩
 ·have b8:len<=m:=X;have a3:len*P.bytesOf e<=reachBytes/\∀i,i<m->Fit ((D i).weights P e):=by
   rw[a4]at F;unfold Fit at F;simp only[DataW.weights,ht]at F;refine⟨?_,λi I n hn=>?_⟩
   ·have:=F _ (List.mem_cons_self ..)
    grind
   ·refine F n (we6 _ (wcu.2 ?_));by_cases T:i<len
    ·exact .inl (zxx (wc6.2 ⟨i,weq.2 T,rfl⟩) hn)
    ·exact .inr (zxx (wc6.2 ⟨i-len,weq.2 U,X⟩) hn)
  by_cases h0:len=0
  ·subst h0;exact⟨[],_,f,.nil _ _ _,wdz _,V,λa ha=>X⟩
  have B:∀i,i<m->∃q,(∀r,r<k->∃u p,w.cell? (a.add (i*k+r))=some u/\(c q).cells[r]?=some p/\Rp F0 PHeap.empty V0 w p u)/\C q:=λi I=>by
   obtain⟨A,H,O⟩:=hx i I;rw[hk]at H;obtain⟨_,a9,S⟩:=World.cells?_some H;obtain⟨q,hq,hC⟩:=g n A _ O (a3.2 i I);refine⟨q,λr hr=>?_,hC⟩;have N:=S r hr;rw[Go.Deep.add_add]at N;have h3:r<A.length:=U;have h4:r<(c q).cells.length:=X;rw[wch h3]at N;exact⟨_,_,N,wch h4,hq.2 r _ _ (wch h4) (wch h3)⟩
  obtain⟨q,hq⟩:=Go.Deep.choose_lt B;obtain⟨b,o,G⟩:=a;obtain⟨u0,_,s,_,_⟩:=(hq 0 U).1 0 d;have j:G=none:=by simpa [Addr.add]using World.cell?_spot s
  subst j;have Q:b<w.heap.size:=by
   unfold World.cell? at s;by_cases b9:b<w.heap.size
   ·omega
   ·simp[Addr.add,Array.getElem?_eq_none (by omega:w.heap.size<=b)]at s
  refine⟨(range len).map q,_,f,?_,X,X,λz hz=>X⟩;have hu:∀y∈((range len).map q).map c,y.cells.length=k:=λy hy=>X;have Y:(((range len).map q).map c).length=len:=V;have a8:∀k,w.cell? ((⟨b,o,none⟩:Addr).add k)=w.cell? ⟨b,o+k,none⟩:=λk=>by rw[Jr]
  have c4:∀i p,((((range len).map q).map c).flatMap PV.cells)[i]?=some p->∃v,w.cell? ⟨b,o+i,none⟩=some v/\Rp F0 PHeap.empty V0 w p v:=λi p J=>by
   have I:i<len*k:=by
    have:=(wcl.1 J).1;rw[L.flat_length _ hu,Y]at this;omega
   have hj:i / k<len:=by rw[Nat.div_lt_iff_lt_mul d];omega
   have hr:i % k<k:=Nat.mod_lt _ d;have hy:(((range len).map q).map c)[i / k]?=some (c (q (i / k))):=X;have e:=zxd hu (i / k) (i % k) _ hy hr;have b5:i / k*k+i % k=i:=by rw[Nat.mul_comm];exact Nat.div_add_mod i k
   grind
  have c2:=Rp.sl (Z:=F0) k (((range len).map q).map c) b o M (λi=>(w.cell? ⟨b,o+i,none⟩).getD undef) hu U (λh=>(J9.1 h).elim) Q
   (λi p J=>X) (λi p J=>X)
  grind
end
section
variable{H:Type}{ec:TypeId × Value → H}{P:Program}{w:World}{base:Nat}{spare:Nat → Bool}{held:Bool}
def os_of{t:Wap}{y:Ty}(h:OpenT ec P w base spare held t y):OpensS ec P w base spare held t (enc y) (OkD y):=λa cs x b _=>h a cs x b
def os_sl{t e:Wap}{y:Ty}{C:y.D->Prop}[Inhabited y.D](j:P.underlying t=some (.slice e))(i:P.cellsOf e=wid y)(c:0<wid y)(g:OpensS ec P w base spare held e (enc y) C):OpensS ec P w base spare held t (enc (.sl y)) (λ(l:Wam y.D)=>l.length<=maxLen/\l.length*P.bytesOf e<=reachBytes/\∀a∈l,C a):=λb cs x h k=>by obtain⟨l,d,f⟩:=jk2 j i c (λa=>by rw[enc_cells];exact ju y a) g b cs x h k;exact⟨l,d,f⟩
def fit_part{t:Wap}{b:Array Field}{xs:Wam (DataW H×Wam MemPlace)}{x:DataW H×Wam MemPlace}(e:P.underlying t=some (.struct b))(g:x.1=.agg (xs.map (·.1)))(a:Fit (x.1.weights P t)){i:Nat}{f:Field}{y:DataW H×Wam MemPlace}(c:b[i]?=some f)(h:xs[i]?=some y):Fit (y.1.weights P f.type):=λn d=>by rw[g]at a;unfold Fit at a;simp only[DataW.weights,e]at a;refine a n (DataW.weights_mem_each (j:=i) ?_ ?_ n d);{rw[wcv,Array.getElem?_toList,c];rfl};.rw[wcv,h];rfl
end
open Go Go.RowKit Go.ChangeShapes Go.WideShapes Go.ChangeAt Go.WideElems L
def gN : Tryz.prog.globalNamed "facsimile/munch.none" = some 0 := by rfl
def tN:(Tryz.prog.globals[0]?).map (·.type)=some 182:=K
def c64:Tryz.prog.cellsOf 3=1:=K
abbrev laidN : List (String × DataW Unit) := [("facsimile/munch.none", Rows.laid_facsimile_munch_none)]
def door_met(os:Os)(args:Array Wan):laidMetH Tryz.prog laidN ((World.doorLaid Tryz.prog 14 os).forCall (λ_ _=>0) ⟨#[],args,[]⟩).memory:=
 laidMetH_of_parts3 (fuel:=8) (laidMet_of_run' 8 K K) K K
def gw_laid{W:Wao}(h:laidMetH Tryz.prog laidN W):L.GW W:=by
 rw[MakeChecks.laidMetH_plain _ _ _ Wab]at h;obtain⟨ps,⟨G,M,j,F,H,I,d,s,f,o,_,_⟩,_,_⟩:=h;obtain rfl:=wd4 (gN.symm.trans d);obtain rfl:=wd4 (tN.symm.trans s);obtain⟨A,w,_,a,u,q,e⟩:=DataW.trod_array underlying182 o;have m:=e 0 V;have n:=e 1 V;have i:=World.var?_cell d f 0;have v:=World.var?_cell d f 1;match A,q,a,m,n with
 |[y,z],_,a,m,n=>
  simp only[Rows.laid_facsimile_munch_none,DataW.agg.injEq,wc7,wea,wfk,and_true]at a;obtain⟨B,b,rfl,_⟩:=DataW.trod_int underlying3 (show DataW.trod _ Tryz.prog W 0 _ false w 3 _=some y from m);obtain⟨C,b1,rfl,_⟩:=DataW.trod_int underlying3 (show DataW.trod _ Tryz.prog W 0 _ false w 3 _=some z from n);rw[c64]at b b1;obtain⟨t,_⟩:=Prod.mk.inj a;obtain⟨rfl,rfl⟩:B=-1/\C=0:=by
   grind
  obtain⟨l⟩:=j
  match l,b,b1 with
  |[],b,_=>simp at b
  |[_],_,b1=>simp at b1
  |c0::D::r,b,b1=>
   simp at b b1;subst b;subst b1;have i:W.cell? ⟨0,0,none⟩=some (.int .i64 (-1)):=by simpa using i
   have v:W.cell? ⟨0,1,none⟩=some (.int .i64 0):=by simpa using v
   intro x t;simp[L.glT,wcr]at t;subst t;refine⟨?_,λk c g=>?_⟩
   ·unfold World.cell? at i;by_cases p:0<W.heap.size
    ·exact p
    ·simp[Array.getElem?_eq_none (by omega:W.heap.size<=0)]at i
   ·match k,g with
    |0,g=>grind
    |1,g=>grind
    |k+2,g=>grind
open Go Go.RowKit L
def jbi(w:Wao):(callFunc 213 #[]).run Tryz.prog w=.ok (.value (.tuple #[])) w:=run_call_mark0 Tryz.func213 Wab Wab Wab .disable K w
def jho(w:Wao):(callFunc 215 #[]).run Tryz.prog w=.ok (.value (.tuple #[])) w:=run_call_mark0 Tryz.func215 Wab Wab Wab .enable K w
def jny(a:Addr)(w:Wao):(callFunc 216 #[.pointer (some a)]).run Tryz.prog w=.ok (.value (.tuple #[])) w:=run_call_marked Tryz.func216 Wab Wab Wab .acquire K a w
def oMerge(a:Addr)(w:Wao):(callFunc 218 #[.pointer (some a)]).run Tryz.prog w=.ok (.value (.tuple #[])) w:=run_call_marked Tryz.func218 Wab Wab Wab .releaseMerge K a w
def oStore(a:Addr)(x:Wan)(u:FrameMode)(w:Wao)(h:w.cell? a=some x)(hz:w.frozen? a=false):
  CallsD Tryz.prog 131 #[.pointer (some a),.bool true] u w λe f g=>f=u/\(e=.returned (.tuple #[])/\g=w.drew.setCell a (.int .u32 1)):=by
 have b:w.drew.cell? a=some x:=by go_simp
 have c:w.drew.frozen? a=false:=by go_simp
 have d:=run_call_store Tryz.func173 Wab Wab Wab Wab (k :=.u32) (y:=1) b c
 go_enter_d Tryz.func131,Tryz.ntmps131
 go_wp2
 go_region_calls
 all_goals (go_end0;exact⟨rfl,rfl⟩)
def js4(a:Addr)(u:FrameMode)(w:Wao)(c:w.cell? a=some (.int .i32 1))(hz:w.frozen? a=false):
  CallsD Tryz.prog 130 #[.pointer (some a)] u w λe f g=>f=u/\(e=.returned (.tuple #[])/\g=w.setCell a (.int .i32 0)):=by
 have h:=jbi;have i:=jho;have j:=oMerge;have b:=run_call_add Tryz.func219 Wab Wab Wab .i32 Wab (y := -1) c hz Wab;have d:=run_convert_to_unsafe Tryz.underlying271 Tryz.underlying275 Wab c
 go_enter_d Tryz.func130,Tryz.ntmps130
 go_wp2
 go_end0
 go_wp2
 go_end0
 simp
def oLock(a:Addr)(w:Wao)(c:w.cell? a=some (.int .i32 0))(hz:w.frozen? a=false):
  Calls Tryz.prog 129 #[.pointer (some a)] w λe g=>e=.returned (.tuple #[])/\g=w.setCell a (.int .i32 1):=by
 have i:=jbi;have j:=jho;have h:=jny;have d:=run_call_cas_hit Tryz.func214 Wab Wab Wab .i32 Wab (y:=1) c hz;have b:(w.setCell a (.int .i32 1)).cell? a=some (.int .i32 1):=World.cell?_setCell_same w a _ c;have f:=run_convert_to_unsafe Tryz.underlying271 Tryz.underlying275 Wab b
 go_enter Tryz.func129,Tryz.ntmps129
 go_wp2
 first|go_end0|(simp[Exit.inBlock,Exit.then];refine bodyPost_ret (results_none rfl _ _ _) rfl ?_)|refine bodyPost_ret (results_none rfl _ _ _) rfl ?_
 go_wp2
 go_end0
 simp
def oSlow{b off:Nat}{g:Wat}{h vb:Array Wan}{w:Wao}{K:Wao->Prop}(h0:w.cell? ⟨b,off,none⟩=some (.int .u32 0))(t:w.cell? ⟨b,off+1,none⟩=some (.int .i32 0))(s:w.frozen? ⟨b,off,none⟩=false)(f1:w.frozen? ⟨b,off+1,none⟩=false)
  (u:∀w,(callFunc g (h++vb)).run Tryz.prog w=.ok (.enter g (h++vb)) w)
  (l:Calls Tryz.prog g (h++vb) (w.setCell ⟨b,off+1,none⟩ (.int .i32 1)) λe c=>(∃v,e=.returned v)/\(∃x,c.cell? ⟨b,off,none⟩=some x)/\c.cell? ⟨b,off+1,none⟩=some (.int .i32 1)/\c.frozen? ⟨b,off,none⟩=false/\c.frozen? ⟨b,off+1,none⟩=false/\K c) :
  Calls Tryz.prog 92 #[.pointer (some ⟨b,off,none⟩),.func (.func g) h vb] w λe d=>e=.returned (.tuple #[])/\∃c,K c/\d=(c.drew.setCell ⟨b,off,none⟩ (.int .u32 1)).setCell ⟨b,off+1,none⟩ (.int .i32 0):=by
 have y:=run_call_load (P:=Tryz.prog) Tryz.func128 Wae Wae Wae .u32 Wae (w:=w.setCell ⟨b,off+1,none⟩ (.int .i32 1)) (a:=⟨b,off,none⟩) (x:=0) ((World.cell?_setCell_other _ ⟨b,off+1,none⟩ ⟨b,off,none⟩ _ V).trans h0)
 go_enter_defers Tryz.func92,Tryz.ntmps92
 go_wp2_with (go_at_call 129;refine(oLock ⟨b,off+1,none⟩ _ (by go_simp) (by go_simp)).mono ?_;rintro e c ⟨rfl,rfl⟩)
 go_wp2
 refine l.mono ?_;rintro e c ⟨⟨v,rfl⟩,⟨x,m⟩,j,o,p,k⟩;simp only;rename_i r q i;refine i _ _ ?_
 go_wp2
 refine leaves_cons (f:=131) (args:=#[.pointer (some ⟨b,off,none⟩),.bool true]) V (by simp[go_sem]) ?_;refine(oStore ⟨b,off,none⟩ x .returning _ m o).mono ?_;rintro e n d ⟨rfl,rfl,rfl⟩;refine leaves_cons (f:=130) (args:=#[.pointer (some ⟨b,off+1,none⟩)]) (by simp[settle]) (by simp[go_sem]) ?_;refine(js4 ⟨b,off+1,none⟩ _ _ ?_ (by simp[p])).mono ?_
 ·refine(World.cell?_setCell_other _ ⟨b,off,none⟩ ⟨b,off+1,none⟩ _ V).trans ?_;rw[World.cell?_drew];exact j
 rintro e n d ⟨rfl,rfl,rfl⟩;simp[Leaves,settle,results,Tryz.results92];exact⟨_,k,rfl⟩
def oc0:Option FuncId:=some 92
def oc0_ok:∀f,oc0=some f->z1h Tryz.prog f:=λf h=>by cases h;exact⟨K,λh0 c a b e d=>oSlow h0 c a b e d⟩
def jw2:List (Nat×AtK):=[
 (72,.ld .i64),
 (128,.ld .u32),(90,.add)]
def atm0:FuncId->Option AtK:=lk jw2
def jtp:jwe Tryz.prog atm0:=λf k h=>by unfold atm0 jw2 at h;rcases zfm h with⟨rfl,rfl⟩|h;{exact λa x w b=>run_call_load Tryz.func72 Wab Wab Wab .i64 Wab b};rcases zfm h with⟨rfl,rfl⟩|h;{exact λa x w b=>run_call_load Tryz.func128 Wab Wab Wab .u32 Wab b};rcases zfm h with⟨rfl,rfl⟩|h;{exact λa x y w b hz=>run_call_add Tryz.func90 Wab Wab Wab .i64 Wab b hz Wab};trivial
end
end Go.Proofs.YtiafpechgjopfaaGreatDoor.T
namespace Go.Proofs.YtiafpechgjopfaaGreatDoor.L
noncomputable section
open _root_.Go.Proofs.Tryz
set_option maxRecDepth 100000
set_option maxHeartbeats 8000000
set_option linter.unusedVariables false
set_option linter.unusedSimpArgs false
set_option linter.defProp false
open List (replicate range)
open Go Go.RowKit Go.Shelf
attribute [local go_sem] Oper.semAt_some
abbrev WD:Fence:=Fence.wide
def Kp16(m:Nat)(A B:World):Prop:=Below m A B/\∀(b:Nat)(arr:Array Value)(t:TypeId)(fr:Nat×Nat),t=32\/t=9\/t=182->A.heap[b]?=some (.cells arr t fr)->B.heap[b]?=some (.cells arr t fr)
abbrev zk4:Type:=Int×List UInt8×Unit
def jjk(x:zk4):Array Value:=#[.agg #[.int .i64 x.1,.string ⟨⟨x.2.1⟩⟩]]
structure In16(Z:ZM)(w:World)(dcs:List PV)(arr:Array Value):Prop where
 gw:GW w
 zlt:∀b,Z b->b<w.heap.size
 zm:Z.m<=w.heap.size
 hd:RpL Z PHeap.empty V0 w dcs arr.toList
 sz:asz Tryz.prog 32=some (true,arr.size)
def z8m(b:List PV)(c:List UInt8->Int->Option (Int×Int)):Prop:=∀s a m,c s a=some m->PCall Tryz.prog 99 [.agg b,.u (.string ⟨⟨s⟩⟩),.u (.int .i64 a)] (· =.agg [.u (.int .i64 m.1),.u (.int .i64 m.2)])
def z72{Z:ZM}{H:Wau}{V:Nm->Wan}{w:Wao}{p:PV}{v:Wan}{ps:Wam PV}{vs:Wam Wan}(h:Rp Z H V w p v)(c:RpL Z H V w ps vs):RpL Z H V w (p::ps) (v::vs):=⟨by simp[c.1],λi a b d e=>by
 cases i with
 |zero=>grind
 |succ i=>exact c.2 i a b X X⟩
def rpl0{Z:ZM}{H:Wau}{V:Nm->Wan}{w:Wao}:RpL Z H V w [] []:=⟨rfl,λi a b h=>Waf⟩
def In16.next{Z:ZM}{w:Wao}{c:Wam PV}{arr:Array Wan}{k:Wam UInt8->Int->Wal (Int×Int)}(h:In16 Z w c arr)(t:z8m c k){W:Wao}(d:Below w.heap.size w W){s:Wam UInt8}{a:Int}{m:Int×Int}(hm:k s a=some m)(n:Nat):
  CallsIn WD n Tryz.prog 99 #[.agg arr,.string ⟨⟨s⟩⟩,.int .i64 a] W λe j=>e=.returned (.agg #[.int .i64 m.1,.int .i64 m.2])/\Below W.heap.size W j:=by
 refine callsIn_wide.2 ?_;have z:Rp Z PHeap.empty V0 W (.agg c) (.agg arr) :=.agg _ _ (by have:=h.hd.1;omega) λi p v q r=>(h.hd.2 i p v q (by simpa using r)).grow d;refine((t s a m hm) Z W [.agg arr,.string ⟨⟨s⟩⟩,.int .i64 a] (h.gw.below d) (λb hz=>wep (h.zlt b hz) d.size) (wdt h.zm d.size) (z72 z (z72 (.u _) (z72 (.u _) rpl0)))).mono λe j⟨v,p,A,B,_,D,g⟩=>⟨?_,g⟩
 subst A;subst B;cases D with
 |agg _ F C f=>
  obtain⟨l⟩:=F
  match l,C,f with
  |[x,y],_,f=>
   have h0:=f 0 _ x rfl rfl;have o:=f 1 _ y rfl rfl;cases h0;cases o;rfl
def zjk{F:Fence}{n:Nat}{P:Waq}{o:Oper}{a:Act}{w w':Wao}{v:Wan}{K:Act->Wao->Prop}{Q:Exit->Act->Wao->Prop}(b:∀f,F.fn f)(d:∀c,o.op ≠ .defer c)(e:(execOp a.eval o).run P w=.ok (.value v) w')(h:K (a.put o.dst v) w'):o.wpIn F n P a w K Q:=
 ⟨λf _=>b f,by rw[Oper.semAt_eq _ _ _ d,e];exact h⟩
def jrb(s:List UInt8)(a u:Int):Option (List UInt8):=if 0<=a/\a<=u/\u<=(s.length:Int)then some ((s.take u.toNat).drop a.toNat)else none
def z05(b:List UInt8->Int->Option (Int×Int))(s:List UInt8):Nat->Int->List zk4->Option (List zk4)
 |0,_,_=>none
 |k+1,a,l=>if a<(s.length:Int)then match b s a with
  |none=>none
  |some m=>match jrb s a m.2 with
   |none=>none
   |some x=>if l.length+1<=maxLen/\(l.length+1)*24<=140737488355328 then z05 b s k m.2 (l++[(m.1,x,())])else none
  else some l
def ja6{b:Wam UInt8->Int->Wal (Int×Int)}{s:Wam UInt8}:∀{k:Nat}{a:Int}{l r:Wam zk4},z05 b s k a l=some r->l.length<=r.length
 |0,_,_,_,h=>by cases h
 |k+1,a,l,r,h=>by unfold z05 at h;split at h;{(split at h<;>try (cases h;done));(split at h<;>try (cases h;done));(split at h<;>try (cases h;done));have:=ja6 h;grind};grind
def jvd{s x:Wam UInt8}{a u:Int}(h:jrb s a u=some x)(W:Wao):(Instr.slice 9 (.string ⟨⟨s⟩⟩) (some (.int .i64 a)) (some (.int .i64 u)) none).run Tryz.prog W=.ok (.string ⟨⟨x⟩⟩) W:=by unfold jrb at h;split at h<;>cases h;rename_i b;rw[run_slice_string_if (h:=underlying9),if_pos ⟨U,b.2.2⟩,if_pos ⟨b.1,b.2.1⟩];have e:(⟨⟨s⟩⟩:ByteArray).extract a.toNat u.toNat=⟨⟨(s.take u.toNat).drop a.toNat⟩⟩:=by{apply ByteArray.ext;rw[ByteArray.data_extract];grind};rw[e]
inductive YF(A B:Prop):Bool->Prop
 |t (h:A):YF A B true
 |f (h:B):YF A B false
def jgr{e:Ending}{A B:Prop}(h:(e=.returned (.bool true)/\A)\/(e=.returned (.bool false)/\B)):∃b,e=.returned (.bool b)/\YF A B b:=by
 rcases h with⟨h,a⟩|⟨h,a⟩
 {exact⟨true,h,.t a⟩};.exact⟨false,h,.f a⟩
def zjo{W:Wao}{e k:Nat}{arr:Array Wan}(hz:asz Tryz.prog 32=some (true,k))(x:arr.size=k)(h:W.heap[e]?=some (.cells arr 32)){a:Act}{d pos ty af g}(j:a.eval (.tmp 2)=.pointer (some ⟨e,0,none⟩)):(execOp a.eval ⟨d,.load 32 (.tmp 2),pos,ty,af,g⟩).run Tryz.prog W=.ok (.value (.agg arr)) W:=by
 unfold execOp;simp[];rw[j];simp[Instr.loadAt,Instr.sureAddr];obtain⟨u,r,n⟩:=zm0 (W:=jqy) (H:=PHeap.empty) (V:=V0) (w:=W) (b:=e) (o:=0) hz (cs:=arr.toList.map PV.u) (λi p v=>by
  obtain⟨c,l,rfl⟩:∃c,arr[i]?=some c/\PV.u c=p:=X;exact⟨c,by simp[World.cell?,h,l],.u c⟩) (q :=.agg (arr.toList.map PV.u)) (by
   unfold Y6;grind)
 rw[r];simp[Result.andThen_ok];cases n with|agg _ f y m=>have:f=arr:=by{refine Array.ext X λi s t=>?_;have:=m i (.u arr[i]) f[i] Waf Waf;generalize f[i]=q at this⊢;cases this;rfl};grind
def jk5{Z:ZM}{w:Wao}{F:Wam PV}{arr:Array Wan}{S:Wam UInt8->Int->Wal (Int×Int)}(h:In16 Z w F arr)(hN:z8m F S){s:Wam UInt8}{nn:Nat}{r:Wam zk4}(hr:z05 S s nn 0 []=some r)(l H B:Nat)(J T:Wam zk4->Wao->Prop)(W:Wao)
  (hJ:AbidesFrom W.heap.size J) (hY:∀b x O,J b O->b.length<r.length->YieldAt WD 8 Tryz.prog l (jjk x) O λe C=>(e=.returned (.bool true)/\J (b++[x]) C/\Kp16 w.heap.size O C)\/(e=.returned (.bool false)/\T (b++[x]) C))
  (hb:Below w.heap.size w W) (b2:W.heap[H]?=some (.cells arr 32)) (b3:W.heap[B]?=some (.cells #[.string ⟨⟨s⟩⟩] 9)) (h0:J [] W) :
  CallsIn WD 9 Tryz.prog 98 #[.func (.yield l) #[] #[],.pointer (some ⟨B,0,none⟩),.pointer (some ⟨H,0,none⟩)] W λe C=>(∃v,e=.returned v)/\((∃ys,ys=r/\J ys C)\/(∃b,True/\T b C)):=by
 refine callsIn_of_wp func98 rfl trivial ?_ rfl;simp only[ntmps98,wfc,wdq,weo,Nat.reduceAdd,Nat.reduceSub,Array.replicate_succ,Array.replicate_zero,List.push_toArray,List.append_toArray,web,wdw]
 gi_wp2
 gi_loopg [4] nn (λk p wr=>∃(a:Int)(b:Wam zk4),p=.int .i64 a/\z05 S s k a b=some r/\J b wr/\Below w.heap.size w wr/\wr.heap[H]?=some (.cells arr 32)/\wr.heap[B]?=some (.cells #[.string ⟨⟨s⟩⟩] 9))
 case atStart=>exact⟨0,[],rfl,hr,h0,hb,b2,b3⟩
 case round=>
  obtain⟨a,b,rfl,f,L,g,y,t⟩:=hrel;have Y:wr.cell? ⟨B,0,none⟩=some (.string ⟨⟨s⟩⟩):=by simp[World.cell?,t]
  match gk,f with
  |0,f=>cases f
  |k+1,f=>
  unfold z05 at f;by_cases A:a<(s.length:Int)
  ·rw[if_pos A]at f;split at f<;>try (cases f;done)
   rename_i m hm;split at f<;>try (cases f;done)
   rename_i x hx;split at f<;>try (cases f;done)
   rename_i b6
   gi_wp2_with (first|(refine zjk (v :=.agg arr) (λ_=>trivial) (λc=>V) (zjo h.sz rfl y rfl) ?_;simp only[Act.put])|(refine⟨trivial,?_⟩;gi_at_call 99;refine(h.next hN g hm _).mono ?_;rintro e M ⟨rfl,z⟩))
   have u:=z.size;obtain⟨j,o⟩:∃j,M.alloc (.cells #[.int .i64 m.1,.int .i64 m.2] 182)=j:=⟨_,rfl⟩
   have d:Below wr.heap.size wr j:=by rw[<- o];exact z.alloc u _
   have D:j.heap[M.heap.size]?=some (.cells #[.int .i64 m.1,.int .i64 m.2] 182):=by rw[<- o];exact World.alloc_heap_new M _
   rw[o];generalize M.heap.size=N at D⊢
   replace y:=(d.block H (wde.1 y).1).trans y
   replace t:=(d.block B (wde.1 t).1).trans t
   replace L:J b j:=hJ _ _ _ none L ⟨d.os,d.tape,d.output,d.size,λi hi _=>d.block i hi⟩ (λr e=>by cases e)
   replace g:=g.trans (d.mono g.size)
   clear z u o d Y;have Y:j.cell? ⟨B,0,none⟩=some (.string ⟨⟨s⟩⟩):=by simp[World.cell?,t]
   have e5:j.cell? ⟨N,0,none⟩=some (.int .i64 m.1):=by simp[World.cell?,D]
   have e6:j.cell? ⟨N,1,none⟩=some (.int .i64 m.2):=by simp[World.cell?,D]
   have G:b.length<r.length:=by have:=ja6 f;simp at this;omega
   obtain⟨fn,a4,I,body,hy,hR⟩:=hY b (m.1,x,()) j.drew (hJ _ _ _ none L ⟨rfl,rfl,rfl,wcs _,λi hi _=>rfl⟩ (λr e=>by cases e)) G;have a2:Tryz.prog.follows .mixedOrders=true:=K;have b9:=jvd hx;dsimp only[jjk]at hy
   gi_region_with_o (refine hR.mono ?_;rintro e W4 n;obtain⟨bb,rfl,R⟩:=jgr n;clear n)
   all_goals
    rcases R with⟨⟨P,q⟩⟩|⟨Q⟩
    ·replace y:=q.2 _ _ _ _ (.inl rfl) y
     replace t:=q.2 _ _ _ _ (.inr (.inl rfl)) t
     have D:=q.2 _ _ _ _ (.inr (.inr rfl)) D;have e6:W4.cell? ⟨N,1,none⟩=some (.int .i64 m.2):=by simp[World.cell?,D]
     have g:=(g.trans (show Below w.heap.size j j.drew from⟨rfl,rfl,rfl,wcs _,λ_ _=>rfl⟩)).trans q.1
     gi_wp2
     gi_roundg k
     case measure=>exact we0 k
     case rel=>exact⟨m.2,_,rfl,f,P,g,y,t⟩
    ·gi_wp2
     refine bodyPost_ret (results_none rfl _ _ _) rfl ?_;exact⟨⟨_,rfl⟩,.inr ⟨_,trivial,Q⟩⟩
  ·rw[if_neg A]at f;cases f;have A:(s.length:Int)<=a:=U
   gi_wp2
   go_end0
   exact⟨⟨_,rfl⟩,.inl L⟩
attribute [local go_sem] Oper.semAt_some
def In16.right{Z:ZM}{w:Wao}{a:Wam PV}{arr:Array Wan}(h:In16 Z w a arr){g:Bool}(l:PCall Tryz.prog 61 [.agg a] (· =.u (.bool g))){W:Wao}(c:Below w.heap.size w W)(n:Nat):
  CallsIn WD n Tryz.prog 61 #[.agg arr] W λe f=>e=.returned (.bool g)/\Below W.heap.size W f:=by
 refine callsIn_wide.2 ?_;have m:Rp Z PHeap.empty V0 W (.agg a) (.agg arr) :=.agg _ _ (by have:=h.hd.1;omega) λi p v j k=>(h.hd.2 i p v j (by simpa using k)).grow c;refine(l Z W [.agg arr] (h.gw.below c) (λb hz=>wep (h.zlt b hz) c.size) (wdt h.zm c.size) (z72 m rpl0)).mono λe f⟨v,p,o,q,_,r,d⟩=>⟨?_,d⟩
 subst o;subst q;cases r;rfl
def zhp(x:zk4):List Value:=[.int .i64 x.1,.string ⟨⟨x.2.1⟩⟩]
def infoPc:(Tryz.prog.info? 58).map (λi=>(i.zero,i.size,i.bytes))=some (some (.agg #[.int .i64 0,.string ⟨⟨[]⟩⟩]),2,24):=K
def jlp(n:Nat)(arr:Array Wan)(v:ByteArray)(W:Wao):CallsIn WD n Tryz.prog 62 #[.agg arr,.string v] W λe a=>e=.returned (.func (.func 98) #[] #[.pointer (some ⟨W.heap.size+1,0,none⟩),.pointer (some ⟨W.heap.size,0,none⟩)])/\a=(W.alloc (.cells arr 32)).alloc (.cells #[.string v] 9):=by
 refine callsIn_of_wp func62 rfl trivial ?_ rfl;simp[ntmps62,wfc,wdq,weo,Nat.reduceAdd,Nat.reduceSub,Array.replicate_succ,Array.replicate_zero,List.push_toArray,List.append_toArray,web,wdw];gi_wp2
 go_ret
 simp
def Kp16.trans{m:Nat}{A B C:Wao}(h:Kp16 m A B)(k:Kp16 m B C):Kp16 m A C:=⟨h.1.trans k.1,λb arr t fr a c=>k.2 b arr t fr a (h.2 b arr t fr a c)⟩
def Kp16.put{m:Nat}{w:Wao}(hm:m<=w.heap.size)(W:Wao)(l:Nat)(o d:Obj)(f:w.heap.size<=l)(h:W.heap[l]?=some o)(c:o.isCells=false)(g:o.isWalk=false):Kp16 m W (W.putObj l d):=
 ⟨belowK_b hm W l o d f h c g,λb arr t fr _ a=>(World.putObj_heap_other (λe=>by subst e;rw[h]at a;cases a;cases c)).trans a⟩
def Kp16.alloc{m:Nat}{W:Wao}(hm:m<=W.heap.size)(o:Obj):Kp16 m W (W.alloc o):=⟨(Below.refl m W).alloc hm o,λb arr t fr _ a=>(Below.heap_alloc W o b (wde.1 a).1).trans a⟩
def wcf{m B k:Nat}{W f:Wao}{d:Obj}{v l:Wan}{xs:Wam Wan}(hm:Below m W (f.setCell ⟨B,0,none⟩ l))(s:Boxed W B 36 v)(c:W.ownsRow m 58 2 v k xs)(a:(W.alloc d).grownBy f v.ownBlock):Kp16 m W (f.setCell ⟨B,0,none⟩ l):=by
 refine⟨hm,λb arr t fr w o=>?_⟩;have i:=(wde.1 o).1;have n:f.heap[b]?=some (.cells arr t fr):=by
  refine(a.block b Wag λe=>?_).trans ((Below.heap_alloc W d b i).trans o);rcases c.2 with⟨h,_⟩|⟨g,p,q,h,_,u,_⟩
  {rw[h]at e;cases e};.rw[h]at e;have e:=wd4 e;grind
 have j:b≠B:=λe=>by{subst e;have r:=s;unfold Boxed at r;grind};exact((grownBy_setCell' f B l).block b (wde.1 n).1 (λe=>j (wd4 e).symm.symm)).trans n
def z2x(w:Wao)(x y:Wan)(t:Wap):∀j u,[x,y][j]?=some u->(w.alloc (.cells #[x,y] t)).cell? ((⟨w.heap.size,0,none⟩:Addr).add j)=some u:=λj u a=>by
 have b:=World.alloc_heap_new w (.cells #[x,y] t);match j,a with
 |0,a=>cases a;rw[Jr];simp
 |1,a=>cases a;rw[Jr];simp
 |j+2,a=>grind
def z9t{b:Wam UInt8->Int->Wal (Int×Int)}{s:Wam UInt8}:∀{k:Nat}{a:Int}{l r:Wam zk4},z05 b s k a l=some r->l.length*24<=140737488355328->l.length<=maxLen->r.length*24<=140737488355328/\r.length<=maxLen
 |0,_,_,_,h,_,_=>by cases h
 |k+1,a,l,r,h,c,d=>by unfold z05 at h;split at h;{(split at h<;>try (cases h;done));(split at h<;>try (cases h;done));(split at h<;>try (cases h;done));rename_i e;exact z9t h X X};grind
def cut_in{Z:ZM}{w:Wao}{q:Wam PV}{arr:Array Wan}{pN:Wam UInt8->Int->Wal (Int×Int)}(h:In16 Z w q arr)(hN:z8m q pN)(hR:PCall Tryz.prog 61 [.agg q] (· =.u (.bool true))){s:Wam UInt8}{nn:Nat}{r:Wam zk4}(Q:z05 pN s nn 0 []=some r):
  CallsIn WD 10 Tryz.prog 38 #[.agg arr,.string ⟨⟨s⟩⟩] w λe R=>∃v,e=.returned v/\R.ownsRow w.heap.size 58 2 v r.length (r.flatMap zhp)/\Below w.heap.size w R:=by
 obtain⟨i0,hi,a7,a8,a9⟩:=info_parts infoPc;refine callsIn_of_wp_marks func38 rfl trivial ?_ rfl;simp only[ntmps38,wfc,wdq,weo,Nat.reduceAdd,Nat.reduceSub,Array.replicate_succ,Array.replicate_zero,List.push_toArray,List.append_toArray,web,wdw];have c2:(w.alloc (.cells arr 32)).heap[w.heap.size]?=some (.cells arr 32):=World.alloc_heap_new w _;have t:Below w.heap.size w (w.alloc (.cells arr 32)):=(Below.refl _ w).alloc (wcs _) _
 gi_wp2_with (first|(refine zjk (v :=.agg arr) (λ_=>trivial) (λc=>V) (zjo h.sz rfl c2 rfl) ?_;simp only[Act.put])|(refine⟨trivial,?_⟩;gi_at_call 61;refine(h.right hR t _).mono ?_;rintro e g ⟨rfl,n⟩))
 have z:w.heap.size<g.heap.size:=by have:=n.size;simp at this;omega
 have F:g.heap[w.heap.size]?=some (.cells arr 32):=(n.block _ V).trans c2;have I:Below w.heap.size w g:=t.trans (n.mono t.size);have P:=Boxed.new g 36 (.slice none 0 0);have y:Below w.heap.size w (g.alloc (.cells #[.slice none 0 0] 36)):=I.alloc U _;have Y:(g.alloc (.cells #[.slice none 0 0] 36)).heap[w.heap.size]?=some (.cells arr 32):=(Below.heap_alloc g _ _ z).trans F;have i:(g.alloc (.cells #[.slice none 0 0] 36)).heap.size=g.heap.size+1:=World.size_alloc ..;generalize g.alloc (.cells #[.slice none 0 0] 36)=B at P y Y i⊢;generalize g.heap.size=f at P z i⊢;clear n F I;refine zjk (v :=.agg arr) (λ_=>trivial) (λc=>V) (zjo h.sz rfl Y rfl) ?_;simp only[Act.put]
 gi_wp2_with (first|  (refine⟨trivial,?_⟩;gi_at_call 62;refine(jlp _ _ _ _).mono ?_;rintro e w4 ⟨rfl,d7⟩))
 have d:Below w.heap.size w ((B.alloc (.cells arr 32)).alloc (.cells #[.string ⟨⟨s⟩⟩] 9)):=(y.alloc U _).alloc Wag _;have C:=(P.alloc (.cells arr 32)).alloc (.cells #[.string ⟨⟨s⟩⟩] 9);have d2:((B.alloc (.cells arr 32)).alloc (.cells #[.string ⟨⟨s⟩⟩] 9)).heap[f+1]?=some (.cells arr 32):=(Below.heap_alloc _ _ _ Wag).trans (by rw[<- i];exact World.alloc_heap_new _ _);have d3:((B.alloc (.cells arr 32)).alloc (.cells #[.string ⟨⟨s⟩⟩] 9)).heap[f+1+1]?=some (.cells #[.string ⟨⟨s⟩⟩] 9):=by
  have:=World.alloc_heap_new (B.alloc (.cells arr 32)) (.cells #[.string ⟨⟨s⟩⟩] 9);rw[World.size_alloc,i]at this;exact this
 have M:((B.alloc (.cells arr 32)).alloc (.cells #[.string ⟨⟨s⟩⟩] 9)).heap.size=f+3:=Wag;generalize (B.alloc (.cells arr 32)).alloc (.cells #[.string ⟨⟨s⟩⟩] 9)=W5 at d C d2 d3 M⊢;clear P y Y i;have d6:r.length*24<=140737488355328/\r.length<=maxLen:=z9t Q V V;refine wpIn_rangeFunc_ownH (α:=zk4) rfl Wah (gf:=98) (lb:=#[.pointer (some ⟨f+1+1,0,none⟩),.pointer (some ⟨f+1,0,none⟩)]) rfl trivial (enters_of func98 Wae rfl)
  (w0:=W5) (encs:=jjk) (Kp:=Kp16 w.heap.size) (S:=λys=>ys=r) (Sp:=λ_=>True) (N:=r.length)
  (λl J Jx W hW hJ c4 hY h0=>jk5 h hN Q l (f+1) (f+1+1) J Jx W hJ hY (d.trans (hW.mono d.size)) ((hW.block _ U).trans d2) ((hW.block _ U).trans d3) h0)
  Kp16.trans (Kp16.put d.size) (Below.refl _ _) (λ_=>rfl)
  (λb W=>(∃v,Boxed W f 36 v/\W.ownsRow w.heap.size 58 2 v b.length (b.flatMap zhp)/\True)/\Below w.heap.size w W)
  (λ_ _ _=>False)
  (OwnFrom.and (Own.from (holdsRow_own w.heap.size f 36 58 2 (λb:Wam zk4=>b.length) (λb=>b.flatMap zhp) (λ_ _=>True)) _) (ownFrom_below (wcs _) d.size))
  (λ_ _ _ _ _ hs _ _=>hs)
  ⟨⟨_,C,World.ownsRow_nil _ _ _ _,trivial⟩,d⟩
  (λx T W=>∃m,W.heap[m]?=some (.cells #[.int .i64 x.1,.string ⟨⟨x.2.1⟩⟩] 58)/\T = { tmps:=#[.agg arr,.string ⟨⟨s⟩⟩,.pointer (some ⟨w.heap.size,0,none⟩),undef,.slice none 0 0,.pointer (some ⟨f,0,none⟩),.pointer (some ⟨m,0,none⟩),.agg arr,.bool true,.bool false,.agg arr,.string ⟨⟨s⟩⟩,.func (.func 98) #[] #[.pointer (some ⟨f+1+1,0,none⟩),.pointer (some ⟨f+1,0,none⟩)],.agg #[.int .i64 x.1,.string ⟨⟨x.2.1⟩⟩],undef,undef,undef,undef,undef],defers:=[] })
  (λx T s W R row hs hg Q=>by
   obtain⟨m,hx,ha⟩:=hs;exact⟨m,(hg.block m (wde.1 hx).1 (λe=>by obtain⟨_,o,ho,hc⟩:=Q m e.symm;rw[hx]at ho;cases ho;cases hc)).trans hx,ha⟩)
  ?assign ?body ?done ?stop
 case assign=>
  rintro l b x W K ⟨⟨v,A,a,_⟩,p⟩ G;dsimp only[jjk]
  gi_wp2
  have L:=p.size;refine G _ _ ((KeepsOthers.alloc _ _).from _) (Kp16.alloc L _) ⟨⟨v,A.alloc _,a.alloc _,trivial⟩,p.alloc L _⟩ ⟨W.heap.size,World.alloc_heap_new W _,rfl⟩
 case body=>
  rintro l b x T W hl ⟨rl,b6⟩ ⟨⟨v,A,a,_⟩,p⟩ ⟨m,bX,rfl⟩ d5;have hc:=A.cell;have f1:W.cell? ⟨m,0,none⟩=some (.int .i64 x.1):=by simp[World.cell?,bX]
  have f2:W.cell? ⟨m,1,none⟩=some (.string ⟨⟨x.2.1⟩⟩):=by simp[World.cell?,bX]
  gi_wp2_with (gi_at_builtin;refine wpListIn_append_own _ rfl _ _ 36 rfl w.heap.size 58 i0 (.agg #[.int .i64 0,.string ⟨⟨[]⟩⟩]) 2 24 underlying36 hi a7 a8 a9 rfl Wah _ _ _ rfl (a.alloc _) ⟨W.heap.size,0,none⟩ 1 1 (zhp x) rfl rfl (z2x _ _ _ _) (by simp[zhp,Value.oneCell']) U U (by have:=p.size;simp;omega) ?_;intro v' g k j _;obtain⟨g',b2,rfl⟩:=ownsRow_succ k;obtain⟨O,a5,a3,a2,H⟩:=A.appended Wah a p.size (Nat.le_of_lt z) k j;have c9:=O.cell;have d0:=O.frozen)
  exact⟨a2.from _,wcf H A a j,⟨_,a5,by simpa [wer]using a3,trivial⟩,p.trans H⟩
 case done=>
  rintro D ys W hD rfl ⟨⟨v,A,a,_⟩,p⟩ G;have hc:=A.cell
  gi_wp2
  refine⟨V,.inl ⟨_,_,rfl,run_takeDeferred G,?_⟩⟩;exact⟨_,results_tmp rfl _ _ _,v,rfl,ownsRow_putObj a _ G rfl,p.trans (belowK_b (w:=w) (wcs _) W D _ _ (by have:=d.size;omega) G rfl rfl)⟩
 case stop=>
  rintro D c b W _ _ h _;exact h.elim
def cut_no{Z:ZM}{w:Wao}{b:Wam PV}{arr:Array Wan}(h:In16 Z w b arr)(i:PCall Tryz.prog 61 [.agg b] (· =.u (.bool false)))(s:Wam UInt8):
  CallsIn WD 10 Tryz.prog 38 #[.agg arr,.string ⟨⟨s⟩⟩] w λe f=>e=.returned (.slice none 0 0)/\Below w.heap.size w f:=by
 refine callsIn_of_wp func38 rfl trivial ?_ rfl;simp[ntmps38,wfc,wdq,weo,Nat.reduceAdd,Nat.reduceSub,Array.replicate_succ,Array.replicate_zero,List.push_toArray,List.append_toArray,web,wdw];have g:(w.alloc (.cells arr 32)).heap[w.heap.size]?=some (.cells arr 32):=World.alloc_heap_new w _;have a:Below w.heap.size w (w.alloc (.cells arr 32)):=(Below.refl _ w).alloc (wcs _) _
 gi_wp2_with (first|(refine zjk (λ_=>trivial) (λc=>V) (zjo h.sz rfl g rfl) ?_;simp[Act.put])|(refine⟨trivial,?_⟩;gi_at_call 61;refine(h.right i a _).mono ?_;rintro e j ⟨rfl,d⟩))
 go_ret
 exact⟨rfl,a.trans (d.mono a.size)⟩
end
end Go.Proofs.YtiafpechgjopfaaGreatDoor.L
namespace Go.Proofs.YtiafpechgjopfaaGreatDoor.T
noncomputable section
open _root_.Go.Proofs.Tryz
set_option maxRecDepth 100000
set_option maxHeartbeats 8000000
set_option linter.unusedVariables false
set_option linter.unusedSimpArgs false
set_option linter.defProp false
open List (replicate range)
open Go Go.RowKit L
section
variable{yd:Ty}(pR:yd.D → Option Bool)(pN:yd.D → List UInt8 → Int → Option (Arr 2 Int))
def cutP(c:Nat)(d:yd.D)(s:List UInt8):Option (List zk4):=ja (pR d) λb=>ifB b (jm (σ:=Int×List zk4) (λ(a,l)j=>
 ifB (decide (a<(s.length:Int))) (ja (pN d s a) λm=>ja (atL m.l 0) λt=>ja (atL m.l 1) λu=>ja (zg9 s (some a) (some u)) λx=>ja (apO 24 l [(t,x,())]) λy=>j (u,y)) (some l)) c (0,[])) (some [])
abbrev yPc:Ty :=.st (.cons (.int .i64) (.cons .str .nil))
variable{pR}{pN}
def jv3{s x:Wam UInt8}{a u:Int}(h:zg9 s (some a) (some u)=some x):jrb s a u=some x:=by unfold zg9 bdN at h;simp only at h;unfold jrb;grind
def z4d{d:yd.D}{s:Wam UInt8}:∀{k:Nat}{a:Int}{l r:Wam zk4},jm (λ(a,l)j=>
 ifB (decide (a<(s.length:Int))) (ja (pN d s a) λm=>ja (atL m.l 0) λt=>ja (atL m.l 1) λu=>ja (zg9 s (some a) (some u)) λx=>ja (apO 24 l [(t,x,())]) λy=>j (u,y)) (some l)) k (a,l)=some r->z05 (λs a=>(pN d s a).map λm=>(m.l.getD 0 0,m.l.getD 1 0)) s k a l=some r
 |0,_,_,_,h=>by cases h
 |k+1,a,l,r,h=>by
  simp[jm]at h;unfold z05;by_cases b:a<(s.length:Int)
  .rw[wdg b]at h;obtain⟨m,c,i⟩:=qw h;obtain⟨t,e,n⟩:=qw i;obtain⟨u,f,o⟩:=qw n;obtain⟨x,z,v⟩:=qw o;obtain⟨y,A,w⟩:=qw v;obtain⟨C,F,rfl⟩:=za1 A;obtain⟨B,g⟩:=m;match B,g,c,e,f with
   |[p,q],g,c,e,f=>
    cases e;cases f;rw[if_pos b,c];simp only[wc5];rw[show([t,u]:Wam Int).getD 0 0=t from rfl,show([t,u]:Wam Int).getD 1 0=u from rfl,jv3 z];simp only;rw[if_pos ⟨U,U⟩];exact z4d w
  .rw[wc3 b]at h;rwa [if_neg b]
def ja8:∀r:Wam zk4,(r.map (enc yPc)).flatMap PV.cells=(r.flatMap zhp).map PV.u
 |[]=>rfl
 |x::r=>by rw[wc7,wdj,wdj,wdb,ja8 r];rfl
def cut_ok(o:Y9 yd=true)(hz:asz Tryz.prog 32=some (true,wid yd))(hR:js 61 ⟨[yd],.bool,pR⟩)(J:js 99 ⟨[yd,.str,.int .i64],.arr 2 (.int .i64),λt=>pN t.1 t.2.1 t.2.2⟩)(nn:Nat):FFOk 38 ⟨[yd,.str],58,yPc,λt=>cutP pR pN nn t.1 t.2⟩:=by
 have N:∀d,enc yd d=.agg (jp yd d):=λd=>by{cases yd<;>first|rfl|simp[Y9]at o};refine⟨K,λt r B Z w C F z A hv=>?_⟩;obtain⟨d,s⟩:=t;obtain⟨j,f⟩:=hv;have j:2=C.length:=j;match C,j,f with
 |[P,C],_,f=>
  have h0:Rp Z PHeap.empty V0 w (enc yd d) P:=f 0 _ P rfl rfl;have g:=f 1 _ C rfl rfl;cases g;rw[N]at h0;cases h0 with
  |agg _ arr hs hh=>
   have a6:arr.size=wid yd:=by rw[<- hs,ju]
   have L:In16 Z w (jp yd d) arr:=⟨F,z,A,⟨U,λi p v g k=>hh i p v g (by simpa using k)⟩,X⟩
   obtain⟨b,n,B⟩:=qw B;have h:=hR.2 d b n;have R:pvs (Jc [yd] d)=[.agg (jp yd d)]:=by
    show[enc yd d]=_
    grind
   rw[R]at h;cases b with
   |false=>
    cases B;refine(callsIn_wide.1 (cut_no L h s)).mono λe Q⟨g,k⟩=>⟨_,_,g,rfl,(.fr _ _ _ λc M=>X),?_,k⟩
    ·refine .fr _ _ _ _ [] (λy o=>by cases o) (World.ownsRow_nil _ _ _ _) (λb n=>by cases n) (λu I=>by cases I) λi p u G H=>by cases H
   |true=>
    have D:z8m (jp yd d) (λs a=>(pN d s a).map λm=>(m.l.getD 0 0,m.l.getD 1 0)):=λs a m hm=>by
     obtain⟨q,hq,rfl⟩:=wct.1 hm;have:=J.2 (d,s,a) q hq;have S:pvs (Jc [yd,.str,.int .i64] (d,s,a))=[.agg (jp yd d),.u (.string ⟨⟨s⟩⟩),.u (.int .i64 a)]:=by
      show[enc yd d,_,_]=_;rw[N];rfl
     rw[S]at this;have T:enc (.arr 2 (.int .i64)) q=.agg [.u (.int .i64 (q.l.getD 0 0)),.u (.int .i64 (q.l.getD 1 0))]:=by
      obtain⟨l,hl⟩:=q
      match l,hl with
      |[x,y],_=>rfl
     rw[T]at this;exact this
    refine(callsIn_wide.1 (cut_in L D h (z4d B))).mono λe Q⟨v,g,k,Y⟩=>⟨_,_,g,rfl,?_,?_,Y⟩
    ·exact .fr _ _ _ λc M=>by
      obtain⟨x,_,rfl⟩:=wc6.1 M;exact zcj _ _
    ·refine .fr _ _ _ _ (r.flatMap zhp) (λy o=>?_) ?_ (λb n hz=>?_) (λu I=>?_) λi p u G H=>?_
     ·obtain⟨x,_,rfl⟩:=wc6.1 o;rfl
     ·rw[wc0];exact Q5 k A λb _ _=>rfl
     ·have:=(Zu k n).1;have:=z b (J9.1 hz);omega
     ·obtain⟨x,_,O⟩:=wdm.1 I;simp[zhp]at O;rcases O with rfl|rfl<;>rfl
     ·rw[ja8,wcv,H]at G;cases G;exact .u _
end
end
end Go.Proofs.YtiafpechgjopfaaGreatDoor.T
