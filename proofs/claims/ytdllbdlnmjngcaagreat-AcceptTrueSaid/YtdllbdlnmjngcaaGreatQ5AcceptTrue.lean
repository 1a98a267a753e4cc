/-
  Texts of this proof, put together: E1, Qa, Qb, Qc, Qd, Qe, Ya, Yb, Yc, Yd, Ye, Yf, Qf, Qg, Qh.
-/
import Derived.Lib.RuneCount
import Derived.Test.YtdllbdlnmjngcaaGreatQ4AcceptTrue

namespace Go.Proofs.YtdllbdlnmjngcaaGreat.T
set_option maxRecDepth 100000
set_option maxHeartbeats 8000000
set_option linter.unusedVariables false
set_option linter.unusedSimpArgs false
open Go Go.RowKit L
abbrev I6:Ty :=.int .i64
abbrev U8:Ty :=.int .u8
abbrev L6:Ty :=.sl I6
abbrev M6:Ty :=.sl L6
abbrev LB:Ty :=.sl .bool
noncomputable def h0:=lk (α:=HK) []
set_option maxRecDepth 100000
abbrev Y_api_Rx:Ty:=(.st (.cons I6 (.cons (.arr 4 (.int .u64)) .nil)))
abbrev ji:=(Int×(Arr 4 Int)×Unit)
abbrev Y_api_Token:Ty:=(.st (.cons .str (.cons (.sl Y_api_Rx) (.cons I6 .nil))))
abbrev qg:=((List UInt8)×(List ji)×Int×Unit)
abbrev Y_api_Item:Ty:=(.st (.cons .bool (.cons I6 (.cons I6 (.cons I6 .nil)))))
abbrev je:=(Bool×Int×Int×Int×Unit)
abbrev Y_api_Prod:Ty:=(.st (.cons I6 (.cons (.sl Y_api_Item) .nil)))
abbrev jf:=(Int×(List je)×Unit)
abbrev Y_api_Grammar:Ty:=(.st (.cons (.sl Y_api_Token) (.cons (.sl .str) (.cons (.sl Y_api_Prod) (.cons I6 (.cons I6 (.cons I6 (.cons I6 (.cons I6 .nil)))))))))
abbrev ja:=((List qg)×(List (List UInt8))×(List jf)×Int×Int×Int×Int×Int×Unit)
abbrev jd:Ty:=(.st (.cons I6 (.cons I6 (.cons I6 .nil))))
abbrev jc:=(Int×Int×Int×Unit)
abbrev Y_api_Dfa:Ty:=(.st (.cons (.arr 256 U8) (.cons I6 (.cons M6 (.cons L6 .nil)))))
abbrev D_api_Dfa:=((Arr 256 Int)×Int×(List (List Int))×(List Int)×Unit)
abbrev jy:Ty:=(.st (.cons Y_api_Grammar (.cons jd .nil)))
abbrev jv:=(ja×jc×Unit)
abbrev Zw:Ty:=(.st (.cons LB (.cons M6 .nil)))
abbrev Zu:=((List Bool)×(List (List Int))×Unit)
abbrev Jj:Ty:=(.st (.cons Y_api_Grammar (.cons Y_api_Dfa (.cons M6 .nil))))
abbrev Jk:=(ja×D_api_Dfa×(List (List Int))×Unit)
abbrev jk:Ty:=(.st (.cons .bool (.cons I6 (.cons I6 (.cons .bool (.cons (.arr 4 (.int .u64)) (.cons (.arr 4 (.int .u64)) .nil)))))))
abbrev jg:=(Bool×Int×Int×Bool×(Arr 4 Int)×(Arr 4 Int)×Unit)
abbrev zz1:Ty:=(.st (.cons L6 (.cons L6 (.cons .bool .nil))))
abbrev z0b:=((List Int)×(List Int)×Bool×Unit)
abbrev qt:Ty:=(.st (.cons zz1 (.cons I6 .nil)))
abbrev jq:=(z0b×Int×Unit)
abbrev zrm:Ty:=(.st (.cons (.sl (.arr 4 (.int .u64))) (.cons M6 (.cons qt .nil))))
abbrev zr1:=((List (Arr 4 Int))×(List (List Int))×jq×Unit)
abbrev ql:Ty:=(.st (.cons (.sl (.arr 4 (.int .u64))) (.cons L6 (.cons LB (.cons M6 (.cons L6 .nil))))))
abbrev jt:=((List (Arr 4 Int))×(List Int)×(List Bool)×(List (List Int))×(List Int)×Unit)
abbrev Jx:Ty:=(.st (.cons U8 (.cons .bool .nil)))
abbrev zx:=(Int×Bool×Unit)
noncomputable def zt0:ZT:=lk (α:=List TS) [(3,[.c (.int .i64 0)]),(4,[.c (.bool false)]),(26,[.c (.slice none 0 0),.c (.slice none 0 0),.c (.slice none 0 0),.c (.int .i64 0),.c (.int .i64 0),.c (.int .i64 0),.c (.int .i64 0),.c (.int .i64 0)]),(29,[.v ⟨(.arr 256 U8),⟨List.replicate 256 0,wd6⟩⟩]),(30,[.c (.slice none 0 0)]),(31,[.c (.slice none 0 0)]),(33,[.v ⟨(.arr 256 U8),⟨List.replicate 256 0,wd6⟩⟩,.c (.int .i64 0),.c (.slice none 0 0),.c (.slice none 0 0)]),(36,[.c (.int .i64 0),.c (.int .i64 0),.c (.int .i64 0)]),(42,[.c (.slice none 0 0)]),(48,[.c (.string ⟨#[]⟩),.c (.slice none 0 0),.c (.int .i64 0)]),(54,[.c (.bool false),.c (.int .i64 0),.c (.int .i64 0),.c (.int .i64 0)]),(61,[.c (.slice none 0 0),.c (.slice none 0 0),.c (.slice none 0 0),.c (.slice none 0 0),.c (.slice none 0 0)]),(66,[.c (.int .i64 0),.c (.slice none 0 0)]),(69,[.c (.slice none 0 0),.c (.slice none 0 0),.c (.slice none 0 0),.c (.int .i64 0),.c (.int .i64 0),.c (.int .i64 0),.c (.int .i64 0),.c (.int .i64 0),.v ⟨(.arr 256 U8),⟨List.replicate 256 0,wd6⟩⟩,.c (.int .i64 0),.c (.slice none 0 0),.c (.slice none 0 0),.c (.slice none 0 0)]),(74,[.c .nilFunc]),(97,[.v ⟨(.arr 4 (.int .u64)),⟨List.replicate 4 0,wd6⟩⟩]),(126,[.c (.int .i64 0),.v ⟨(.arr 4 (.int .u64)),⟨List.replicate 4 0,wd6⟩⟩]),(134,[.c (.slice none 0 0),.c (.slice none 0 0),.c (.slice none 0 0),.c (.int .i64 0),.c (.int .i64 0),.c (.int .i64 0),.c (.int .i64 0),.c (.int .i64 0),.c (.int .i64 0),.c (.int .i64 0),.c (.int .i64 0)]),(136,[.c .nilFunc]),(167,[.v ⟨(.arr 3 I6),⟨List.replicate 3 0,wd6⟩⟩]),(173,[.c (.bool false),.c (.int .i64 0),.c (.int .i64 0),.c (.bool false),.v ⟨(.arr 4 (.int .u64)),⟨List.replicate 4 0,wd6⟩⟩,.v ⟨(.arr 4 (.int .u64)),⟨List.replicate 4 0,wd6⟩⟩]),(175,[.c (.map none)]),(183,[.c (.slice none 0 0),.c (.slice none 0 0),.c (.slice none 0 0),.c (.slice none 0 0)]),(203,[.c (.slice none 0 0),.c (.slice none 0 0),.c (.bool false)]),(205,[.c (.slice none 0 0),.c (.slice none 0 0),.c (.bool false),.c (.int .i64 0)]),(207,[.c (.slice none 0 0),.c (.slice none 0 0),.c (.slice none 0 0),.c (.slice none 0 0),.c (.bool false),.c (.int .i64 0)]),(211,[.c (.pointer none)]),(214,[.c (.slice none 0 0),.c (.slice none 0 0)]),(220,[.c .nilFunc,.c .nilFunc,.c .nilFunc]),(223,[.c (.int .u8 0),.c (.bool false)]),(230,[.c (.slice none 0 0)]),(247,[.c (.int .u64 0)])]
theorem z9j:zdi Tryz.prog zt0:=zc (by kernel_rfl) (by kernel_rfl) (by kernel_rfl)<|zc (by kernel_rfl) (by kernel_rfl) (by kernel_rfl)<|zc (by kernel_rfl) (by kernel_rfl) (by kernel_rfl)<|zc (by kernel_rfl) (by kernel_rfl) (by kernel_rfl)<|zc (by kernel_rfl) (by kernel_rfl) (by kernel_rfl)<|zc (by kernel_rfl) (by kernel_rfl) (by kernel_rfl)<|zc (by kernel_rfl) (by kernel_rfl) (by kernel_rfl)<|zc (by kernel_rfl) (by kernel_rfl) (by kernel_rfl)<|zc (by kernel_rfl) (by kernel_rfl) (by kernel_rfl)<|zc (by kernel_rfl) (by kernel_rfl) (by kernel_rfl)<|zc (by kernel_rfl) (by kernel_rfl) (by kernel_rfl)<|zc (by kernel_rfl) (by kernel_rfl) (by kernel_rfl)<|zc (by kernel_rfl) (by kernel_rfl) (by kernel_rfl)<|zc (by kernel_rfl) (by kernel_rfl) (by kernel_rfl)<|zc (by kernel_rfl) (by kernel_rfl) (by kernel_rfl)<|zc (by kernel_rfl) (by kernel_rfl) (by kernel_rfl)<|zc (by kernel_rfl) (by kernel_rfl) (by kernel_rfl)<|zc (by kernel_rfl) (by kernel_rfl) (by kernel_rfl)<|zc (by kernel_rfl) (by kernel_rfl) (by kernel_rfl)<|zc (by kernel_rfl) (by kernel_rfl) (by kernel_rfl)<|zc (by kernel_rfl) (by kernel_rfl) (by kernel_rfl)<|zc (by kernel_rfl) (by kernel_rfl) (by kernel_rfl)<|zc (by kernel_rfl) (by kernel_rfl) (by kernel_rfl)<|zc (by kernel_rfl) (by kernel_rfl) (by kernel_rfl)<|zc (by kernel_rfl) (by kernel_rfl) (by kernel_rfl)<|zc (by kernel_rfl) (by kernel_rfl) (by kernel_rfl)<|zc (by kernel_rfl) (by kernel_rfl) (by kernel_rfl)<|zc (by kernel_rfl) (by kernel_rfl) (by kernel_rfl)<|zc (by kernel_rfl) (by kernel_rfl) (by kernel_rfl)<|zc (by kernel_rfl) (by kernel_rfl) (by kernel_rfl)<|zc (by kernel_rfl) (by kernel_rfl) (by kernel_rfl)<|zc (by kernel_rfl) (by kernel_rfl) (by kernel_rfl)<|zn
noncomputable def zt2:ZT:=λt=>cond (Nat.beq t 167) (some [.c (.int .i64 0),.c (.int .i64 0),.c (.int .i64 0)]) (zt0 t)
theorem zt2_ok:zdi Tryz.prog zt2:=λt xs h=>by
 unfold zt2 at h;refine jay h (λe h=>?_) λh=>?_
 ·subst e;cases h;exact⟨(zfn Tryz.prog 167).getD [],by kernel_rfl,by kernel_rfl,wb2 (by kernel_rfl)⟩
 exact z9j t xs h
noncomputable def zy0:ZY:=λt=>cond (Nat.beq t 3) (some ⟨I6,0⟩) (cond (Nat.beq t 4) (some ⟨.bool,false⟩) (cond (Nat.beq t 5) (some ⟨U8,0⟩) (cond (Nat.beq t 31) (some ⟨L6,[]⟩) (none))))
def zzo:Ty.D .str->Ty.D .str->Bool:=λa b=>a == b
theorem jc0:zkd Tryz.prog 9 (oV .str) zzo:=klawT (by kernel_rfl)
def z9a(a:Ty.D Jx):Array Value:=#[.int .u8 a.1,.bool a.2.1]
def zyb(a b:Ty.D Jx):List Bool:=[a.1 == b.1,a.2.1 == b.2.1]
def zep(a b:Ty.D Jx):Bool:=(zyb a b).all id
theorem z7s:zkd Tryz.prog 223 (oV Jx) zep:=jfo (kc:=z9a) (eb:=zyb) (0,false,()) (λa b=>by kernel_rfl) (λa b h=>by
 simp[zyb]at h;exact Prod.ext h.1 (Prod.ext h.2 rfl)) (λa=>by simp[z9a,Instr.sameBits])
noncomputable def ky0:TypeId->Option KY:=λk=>cond (Nat.beq k 9) (some ⟨.str,zzo⟩) (cond (Nat.beq k 223) (some ⟨Jx,zep⟩) (none))
theorem ky0_ok:z8p Tryz.prog ky0:=λk x h=>by
 simp only[ky0]at h;refine jay h (λe h=>?_) λh=>?_
 ·subst e;cases h;exact⟨rfl,jc0⟩
 refine jay h (λe h=>?_) λh=>?_
 ·subst e;cases h;exact⟨rfl,z7s⟩
 cases h
noncomputable def cf0:Cfg:=⟨zt0,zt2,zy0,ky0⟩
theorem zlq:jap cf0:=⟨z9j,zt2_ok,ky0_ok⟩
theorem mk1:type_of% (@mkP cf0 zlq):=no_implicit_lambda% (@mkP cf0 zlq)
theorem mk2:type_of% (@mkF cf0 zlq):=no_implicit_lambda% (@mkF cf0 zlq)
theorem mk5:type_of% (@mkE cf0 zlq):=no_implicit_lambda% (@mkE cf0 zlq)
noncomputable def Vg(nn:Nat)(a0:(List qg)):Option (List (List UInt8)):=jm (σ:=(List qg)×Int×Int×(List (List UInt8))) (λ(a,b,c,d)e=>ifB (decide (c<b)) (jb (atL a c) λf=>jb (apO 16 d [f.1]) λg=>jb (some (w64 (c+1))) λh=>e (a,b,h,g)) (some d)) nn (a0,(a0.length:Int),0,[])
noncomputable def zww:=lk (α:=HK) [(58,me [vo 3 0,(6,.v (.sl Y_api_Token)),vi 7,vi 8] [.row 9 .str] 1)]
theorem zfj(nn:Nat):FFOk 142 ⟨[(.sl Y_api_Token)],9,.str,λt=>Vg nn t⟩:=mk2 Tryz.func142 nn 0 [(0,[17])] [(0,[(15,.told .str)])] [] [] itn zww rn gn tn (by kernel_rfl) λt=>by kernel_rfl
noncomputable abbrev zk8:=Vg
theorem zoo(nn:Nat):jz 142 ⟨[(.sl Y_api_Token)],(.sl .str),λt=>Vg nn t⟩:=(zfj nn).pure
noncomputable def zda(nn:Nat)(a0:Int):Option Int:=J (σ:=Int×Bool) (λ(a,b)=>ifB b (some 2) (J (λ(d:Bool)=>ifB d (some 1) (some 0)) λe=>jb (some (decide (48<=a))) λf=>ifB f (e (decide (a<=57))) (e false))) λc=>J (σ:=Int×Bool) (λ(g,h)=>ifB h (c (g,h)) (J (σ:=Int×Bool) (λ(j,k)=>ifB k (c (j,k)) (jb (some (decide (j=95))) λm=>c (j,m))) λl=>jb (some (decide (65<=g))) λn=>ifB n (l (g,decide (g<=90))) (l (g,false)))) λi=>jb (some (decide (97<=a0))) λo=>ifB o (i (a0,decide (a0<=122))) (i (a0,false))
noncomputable def z1r:=lk (α:=HK) [(12,me [(0,.v (.int .i32)),vb 3] [] 0),(48,me [(0,.v (.int .i32)),vb 3] [] 0),(102,me [vb 18] [] 0),(198,me [(0,.v (.int .i32)),vb 3] [] 0)]
theorem zr3(nn:Nat):jz 206 ⟨[(.int .i32)],I6,λt=>zda nn t⟩:=mk1 Tryz.func206 nn 0 [(0,[5,11,17,20])] [] [] [] itn z1r rn gn tn (by kernel_rfl) λt=>by kernel_rfl
noncomputable def zab(nn:Nat)(a0:(List UInt8)):Option Bool:=jm (σ:=(List UInt8)×((List UInt8)×Int×Unit)) (λ(a,b)c=>ifB (zgm b.1 b.2.1) (jb (zda nn (zxd b.1 b.2.1)) λd=>J (σ:=(List UInt8)×Bool×((List UInt8)×Int×Unit)) (λ(e,f,g)=>ifB f (some false) (c (e,g))) λh=>jb (some (decide (d=0))) λi=>ifB i (h (a,true,(b.1,zf5 b.1 b.2.1,()))) (jb (some (decide (d=1))) λj=>ifB j (h (a,decide ((z42 b.2.1)=0),(b.1,zf5 b.1 b.2.1,()))) (h (a,false,(b.1,zf5 b.1 b.2.1,()))))) (J (λ(k:Bool)=>some k) λl=>jb (some (!(a == []))) λm=>ifB m (l (decide ((a.length:Int)<=32))) (l false))) nn (a0,(a0,0,()))
noncomputable def z0u:=lk (α:=HK) [(14,me [vb 2] [] 0),(26,me [(0,.v .str),vo 7 0] [.obj .si] 1),(3382,me [(0,.v .str),vo 7 0,vb 23] [.obj .si] 1)]
theorem zrt(nn:Nat):jz 183 ⟨[.str],.bool,λt=>zab nn t⟩:=mk1 Tryz.func183 nn 0 [(0,[15,18,25])] [] [] [] itn z0u rn gn (tc (zr3 nn) tn) (by kernel_rfl) λt=>by kernel_rfl
noncomputable def vm(nn:Nat)(a0:(List (List UInt8)))(a1:(List UInt8)):Option Int:=jm (σ:=(List (List UInt8))×(List UInt8)×Int×Int) (λ(a,b,c,d)e=>ifB (decide (d<c)) (jb (atL a d) λf=>ifB (b == f) (some d) (jb (some (w64 (d+1))) λg=>e (a,b,c,g))) (some (-1))) nn (a0,a1,(a0.length:Int),0)
noncomputable def Zb:=lk (α:=HK) [(26,me [(0,.v (.sl .str)),(1,.v .str),vi 7,vi 8] [] 0)]
theorem V8(nn:Nat):jz 207 ⟨[(.sl .str),.str],I6,λt=>vm nn (t.1) (t.2)⟩:=mk1 Tryz.func207 nn 0 [(0,[18])] [] [] [] itn Zb rn gn tn (by kernel_rfl) λt=>by kernel_rfl
noncomputable def zas(nn:Nat)(a0:(List (List UInt8)))(a1:(List UInt8)):Option Int:=jb (vm nn a0 a1) λa=>some a
theorem zpr(nn:Nat):jz 184 ⟨[(.sl .str),.str],I6,λt=>zas nn (t.1) (t.2)⟩:=mk1 Tryz.func184 nn 0 [] [] [] [] itn h0 rn gn (tc (V8 nn) tn) (by kernel_rfl) λt=>by kernel_rfl
noncomputable def zkm(nn:Nat)(a0:ji):Option (Int×Bool×Unit):=J (λ(a:Unit)=>some (0,false,())) λb=>J (λ(c:Int)=>some (c,true,())) λd=>J (λ(e:Int)=>jb (some (w64 (e+1))) λg=>d g) λf=>J (σ:=Int×Int×Bool) (λ(h,i,j)=>ifB j (jb (some (w64 (h+1))) λl=>f l) (J (σ:=Int×Int×Bool) (λ(m,n,o)=>ifB o (f m) (J (σ:=Int×Bool) (λ(q,r)=>ifB r (d q) (b ())) λs=>jb (some (decide (n=1))) λu=>ifB u (s (m,u)) (jb (some (decide (n=2))) λv=>s (m,v)))) λp=>jb (some (decide (i=5))) λw=>ifB w (p (h,i,w)) (jb (some (decide (i=6))) λx=>ifB x (p (h,i,x)) (jb (some (decide (i=7))) λy=>p (h,i,y))))) λk=>jb (some (decide (a0.1=3))) λz=>ifB z (k (0,a0.1,z)) (jb (some (decide (a0.1=4))) λb0=>k (0,a0.1,b0))
noncomputable def jem:=lk (α:=HK) [(29,me [] [] 0),(116,me [vi 4] [] 0),(464,me [vi 4] [] 0),(14848,me [vi 4,vi 6,vb 7] [] 0),(29698,me [vi 4,vi 6,vb 10] [] 0),(29699,me [vi 4,vb 14] [] 0)]
theorem z3b(nn:Nat):jz 208 ⟨[Y_api_Rx],(.tup (.cons I6 (.cons .bool .nil))),λt=>zkm nn t⟩:=mk1 Tryz.func208 nn 0 [(0,[8,9,11,12,13,15,16,18,20])] [] [] [] itn jem rn gn tn (by kernel_rfl) λt=>by kernel_rfl
noncomputable def zbn(nn:Nat)(a0:(List ji)):Option (Int×Int×Int×Unit):=ifB (decide (512<(a0.length:Int))) (some (0,0,4,())) (jm (σ:=Int×Int×(List ji)×Int×Int) (λ(a,b,c,d,e)f=>ifB (decide (e<d)) (jb (atL c e) λg=>jb (zkm nn g) λh=>J (σ:=Int×Int×Int×(List ji)×Int×Int×Bool) (λ(i,j,k,l,m,n,o)=>ifB o (some (0,0,1,())) (ifB (decide (i<k)) (some (0,0,3,())) (jb (some (w64 (i+(w64 (1-k))))) λq=>jb (some (max j q)) λr=>jb (some (w64 (n+1))) λs=>f (q,r,l,m,s)))) λp=>jb (some (!h.2.1)) λu=>ifB u (p (a,b,h.1,c,d,e,u)) (J (σ:=Int×Int×Int×(List ji)×Int×Int×Bool) (λ(v,w,x,y,z,b0,b1)=>p (v,w,x,y,z,b0,b1)) λb2=>jb (some (decide (¬g.1=1))) λb3=>ifB b3 (b2 (a,b,h.1,c,d,e,!(g.2.1.l == (⟨List.replicate 4 0,wd6⟩:Arr 4 Int).l))) (b2 (a,b,h.1,c,d,e,false)))) (some (a,b,0,()))) nn (0,0,a0,(a0.length:Int),0))
noncomputable def z6q:=lk (α:=HK) [(122,me [vi 5,vi 6,(14,.v (.sl Y_api_Rx)),vi 15,vi 16] [] 0),(62668,me [vi 5,vi 6,vi 9,(14,.v (.sl Y_api_Rx)),vi 15,vi 16,vb 25] [] 0),(501347,me [vi 5,vi 6,vi 9,(14,.v (.sl Y_api_Rx)),vi 15,vi 16,vb 25] [] 0)]
theorem zw1(nn:Nat):jz 185 ⟨[(.sl Y_api_Rx)],(.tup (.cons I6 (.cons I6 (.cons I6 .nil)))),λt=>zbn nn t⟩:=mk1 Tryz.func185 nn 0 [(0,[27,30,44,47,48])] [] [] [] itn z6q rn gn (tc (z3b nn) tn) (by kernel_rfl) λt=>by kernel_rfl
noncomputable def Qw(nn:Nat)(a0:(List ji)):Option Int:=jb (zbn nn a0) λa=>J (σ:=Int×Bool) (λ(b,c)=>ifB c (some 3) (some b)) λd=>jb (some (decide (a.2.2.1=0))) λe=>ifB e (d (a.2.2.1,decide (¬a.1=1))) (d (a.2.2.1,false))
noncomputable def z2g:=lk (α:=HK) [(28,me [vi 5,vb 17] [] 0)]
theorem zdg(nn:Nat):jz 144 ⟨[(.sl Y_api_Rx)],I6,λt=>Qw nn t⟩:=mk1 Tryz.func144 nn 0 [(0,[13])] [] [] [] itn z2g rn gn (tc (zw1 nn) tn) (by kernel_rfl) λt=>by kernel_rfl
noncomputable def Jg(nn:Nat)(a0:(Option jv))(a1:je):Option Int:=jb (a0) λa=>J (σ:=(Option jv)×Int×je) (λ(b,c,d)=>J (σ:=(Option jv)×Bool×je) (λ(f,g,h)=>ifB g (some 11) (J (σ:=Bool×je) (λ(j,k)=>ifB j (some 12) (J (λ(m:Bool)=>ifB m (some 2) (some 0)) λn=>jb (some (decide (k.2.2.1<0))) λo=>ifB o (n true) (ifB (decide (2<k.2.2.1)) (n true) (ifB (decide (k.2.2.2.1<0)) (n true) (n (decide (8<k.2.2.2.1))))))) λl=>jb (some (!h.1)) λp=>ifB p (jb (f) λq=>jb (atL q.1.1 h.2.1) λr=>l (decide (¬r.2.2.1=0),h)) (l (false,h)))) λi=>jb (some (decide (d.2.1<0))) λs=>ifB s (i (b,true,d)) (i (b,decide (c<=d.2.1),d))) λe=>ifB a1.1 (jb (a0) λu=>e (a0,(u.1.2.1.length:Int),a1)) (e (a0,(a.1.1.length:Int),a1))
noncomputable def zgd:=lk (α:=HK) [(7,me [(0,.v (.ref jy)),vp 3 0,vi 5] [.box 54 [.v Y_api_Item]] 1),(120,me [(0,.v (.ref jy)),vp 3 0,vb 20] [.box 54 [.v Y_api_Item]] 1),(486,me [vp 3 0,vb 30] [.box 54 [.v Y_api_Item]] 1),(1950,me [vb 47] [] 0)]
theorem zee(nn:Nat):jz 145 ⟨[(.ref jy),Y_api_Item],I6,λt=>Jg nn (t.1) (t.2)⟩:=mk1 Tryz.func145 nn 0 [(0,[23,33,50])] [] [] [] itn zgd rn gn tn (by kernel_rfl) λt=>by kernel_rfl
noncomputable def zd0(nn:Nat)(a0:ja)(a1:Int):Option (List Int):=jm (σ:=Int×(List jf)×Int×Int×(List Int)) (λ(a,b,c,d,e)f=>ifB (decide (d<c)) (J (σ:=Int×(List jf)×Int×Int×(List Int)) (λ(g,h,i,j,k)=>jb (some (w64 (j+1))) λm=>f (g,h,i,m,k)) λl=>jb (atL b d) λn=>ifB (decide (n.1=a)) (jb (apO 8 e [d]) λo=>l (a,b,c,d,o)) (l (a,b,c,d,e))) (some e)) nn (a1,a0.2.2.1,(a0.2.2.1.length:Int),0,[])
noncomputable def z7c:=lk (α:=HK) [(58,me [vi 1,vo 5 0,(9,.v (.sl Y_api_Prod)),vi 10,vi 11] [.row 3 I6] 1),(934,me [vi 1,vo 5 0,(9,.v (.sl Y_api_Prod)),vi 10,vi 11] [.row 3 I6] 1)]
theorem zv7(nn:Nat):FFOk 146 ⟨[Y_api_Grammar,I6],3,I6,λt=>zd0 nn (t.1) (t.2)⟩:=mk2 Tryz.func146 nn 0 [(0,[24])] [(0,[(22,.told I6)])] [] [] itn z7c rn gn tn (by kernel_rfl) λt=>by kernel_rfl
theorem zv3(nn:Nat):jz 146 ⟨[Y_api_Grammar,I6],L6,λt=>zd0 nn (t.1) (t.2)⟩:=(zv7 nn).pure
noncomputable def Y2(nn:Nat)(a0:ja):Option jc:=J (σ:=jc×jv) (λ(a,b)=>some b.2.1) λc=>J (σ:=Bool×jc×jv) (λ(d,e,f)=>ifB d (c (e,f)) (J (σ:=Bool×jc×jv) (λ(h,i,j)=>ifB h (c (i,j)) (J (σ:=Bool×jc×jv) (λ(l,m,n)=>ifB l (c (m,n)) (J (σ:=Bool×jc×jv) (λ(p,q,r)=>ifB p (c (q,r)) (J (σ:=Bool×jc×jv) (λ(u,v,w)=>ifB u (c (v,w)) (c (v,w))) λx=>J (σ:=Bool×jv) (λ(y,z)=>ifB y (x (true,q,(z.1,(11,(-1),0,()),()))) (jm (σ:=Int×Int×jv) (λ(b1,b2,b3)b4=>ifB (decide (b2<b1)) (jb (zd0 nn b3.1 b2) λb5=>ifB (decide ((b5.length:Int)=0)) (x (true,q,(b3.1,(5,b2,0,()),()))) (jb (some (w64 (b2+1))) λb6=>b4 (b1,b6,b3))) (x (false,q,b3))) nn ((z.1.2.1.length:Int),0,z))) λb0=>jb (some (decide (r.1.2.2.2.1<0))) λb7=>ifB b7 (b0 (true,r)) (b0 (decide ((r.1.2.1.length:Int)<=r.1.2.2.2.1),r)))) λs=>J (σ:=Bool×jv) (λ(b8,b9)=>s (b8,m,b9)) λc0=>jm (σ:=(List jf)×Int×Int×jv) (λ(c1,c2,c3,c4)c5=>ifB (decide (c3<c2)) (jb (atL c1 c3) λc6=>J (σ:=Int×(List jf)×Int×Int×Bool×jv×jf) (λ(c7,c8,c9,d0,d1,d2,d3)=>ifB d1 (s (true,m,(d2.1,(11,c7,0,()),()))) (ifB (decide (16<(d3.2.1.length:Int))) (s (true,m,(d2.1,(4,c7,0,()),()))) (jm (σ:=Int×(List jf)×Int×Int×(List je)×Int×Int×jv) (λ(d5,d6,d7,d8,d9,e0,e1,e2)e3=>ifB (decide (e1<e0)) (jb (atL d9 e1) λe4=>jb (Jg nn (some e2) e4) λe5=>ifB (decide (¬e5=0)) (c0 (true,(e2.1,(e5,d5,w64 (e1+1),()),()))) (jb (some (w64 (e1+1))) λe6=>e3 (d5,d6,d7,d8,d9,e0,e6,e2))) (jb (some (w64 (d8+1))) λe7=>c5 (d6,d7,e7,e2))) nn (c7,c8,c9,d0,d3.2.1,(d3.2.1.length:Int),0,d2)))) λd4=>jb (some (decide (c6.1<0))) λe8=>ifB e8 (d4 (c3,c1,c2,c3,true,c4,c6)) (d4 (c3,c1,c2,c3,decide ((c4.1.2.1.length:Int)<=c6.1),c4,c6))) (c0 (false,c4))) nn (n.1.2.2.1,(n.1.2.2.1.length:Int),0,n))) λo=>jb (zk8 nn j.1.1) λe9=>jm (σ:=(List (List UInt8))×Int×Int×jv×(List (List UInt8))) (λ(f0,f1,f2,f3,f4)f5=>ifB (decide (f2<f1)) (jb (atL f0 f2) λf6=>J (σ:=(List UInt8)×(List (List UInt8))×Int×Int×Bool×jv×(List (List UInt8))) (λ(f7,f8,f9,g0,g1,g2,g3)=>ifB g1 (o (true,i,g2)) (jb (apO 16 g3 [f7]) λg5=>jb (some (w64 (g0+1))) λg6=>f5 (f8,f9,g6,g2,g5))) λg4=>jb (zab nn f6) λg7=>ifB (!g7) (g4 (f6,f0,f1,f2,true,(f3.1,(7,f2,0,()),()),f4)) (jb (zas nn f4 f6) λg8=>ifB (decide (0<=g8)) (g4 (f6,f0,f1,f2,true,(f3.1,(8,f2,0,()),()),f4)) (g4 (f6,f0,f1,f2,false,f3,f4)))) (o (false,i,f3))) nn (j.1.2.1,(j.1.2.1.length:Int),0,j,e9))) λk=>jb (Vg nn f.1.1) λg9=>jm (σ:=(List (List UInt8))×(List qg)×Int×Int×jv) (λ(h0,h1,h2,h3,h4)h5=>ifB (decide (h3<h2)) (jb (atL h1 h3) λh6=>J (σ:=(List (List UInt8))×Int×(List qg)×Int×Int×Bool×jv×qg) (λ(h7,h8,h9,i0,i1,i2,i3,i4)=>ifB i2 (k (true,e,i3)) (jb (Qw nn i4.2.1) λi6=>ifB (decide (¬i6=0)) (k (true,e,(i3.1,(9,h8,i6,()),()))) (J (σ:=(List (List UInt8))×Int×(List qg)×Int×Int×Bool×jv) (λ(i7,i8,i9,j0,j1,j2,j3)=>ifB j2 (k (true,e,(j3.1,(1,i8,0,()),()))) (jb (some (w64 (j1+1))) λj5=>h5 (i7,i9,j0,j5,j3))) λj4=>jb (some (decide (i4.2.2.1<0))) λj6=>ifB j6 (j4 (h7,h8,h9,i0,i1,true,i3)) (j4 (h7,h8,h9,i0,i1,decide (3<i4.2.2.1),i3))))) λi5=>jb (zhi h0 none (some h3)) λj7=>jb (zab nn h6.1) λj8=>ifB (!j8) (i5 (h0,h3,h1,h2,h3,true,(h4.1,(7,h3,0,()),()),h6)) (jb (zas nn j7 h6.1) λj9=>ifB (decide (0<=j9)) (i5 (h0,h3,h1,h2,h3,true,(h4.1,(8,h3,0,()),()),h6)) (i5 (h0,h3,h1,h2,h3,false,h4,h6)))) (k (false,e,h4))) nn (g9,f.1.1,(f.1.1.length:Int),0,f))) λg=>jm (σ:=(List Int)×Int×Int×jv) (λ(k0,k1,k2,k3)k4=>ifB (decide (k2<k1)) (jb (atL k0 k2) λk5=>ifB (decide (0<k5)) (g (true,(0,0,0,()),(k3.1,(4,k2,0,()),()))) (jb (some (w64 (k2+1))) λk6=>k4 (k0,k1,k6,k3))) (jm (σ:=(List (Arr 3 Int))×Int×Int×jv) (λ(k7,k8,k9,l0)l1=>ifB (decide (k9<k8)) (jb (atL k7 k9) λl2=>J (σ:=Int×(List (Arr 3 Int))×Int×Int×Bool×jv) (λ(l3,l4,l5,l6,l7,l8)=>ifB l7 (g (true,(0,0,0,()),(l8.1,(2,l3,0,()),()))) (jb (some (w64 (l6+1))) λm0=>l1 (l4,l5,m0,l8))) λl9=>jb (qu 3 1) λm1=>jb (atL l2.l m1) λm2=>jb (qu 3 0) λm3=>jb (atL l2.l m3) λm4=>jb (some (decide (m2<m4))) λm5=>ifB m5 (l9 (k9,k7,k8,k9,true,l0)) (jb (qu 3 1) λm6=>jb (atL l2.l m6) λm7=>jb (qu 3 2) λm8=>jb (atL l2.l m8) λm9=>l9 (k9,k7,k8,k9,decide (m9<m7),l0))) (g (false,(0,0,0,()),l0))) nn ([(⟨[1,k3.1.2.2.2.2.1,4096],rfl⟩:Arr 3 Int),(⟨[0,k3.1.2.2.2.2.2.1,65536],rfl⟩:Arr 3 Int),(⟨[1,k3.1.2.2.2.2.2.2.1,65536],rfl⟩:Arr 3 Int),(⟨[1,k3.1.2.2.2.2.2.2.2.1,1048576],rfl⟩:Arr 3 Int)],([(⟨[1,k3.1.2.2.2.2.1,4096],rfl⟩:Arr 3 Int),(⟨[0,k3.1.2.2.2.2.2.1,65536],rfl⟩:Arr 3 Int),(⟨[1,k3.1.2.2.2.2.2.2.1,65536],rfl⟩:Arr 3 Int),(⟨[1,k3.1.2.2.2.2.2.2.2.1,1048576],rfl⟩:Arr 3 Int)].length:Int),0,k3))) nn ([w64 ((a0.1.length:Int)-64),w64 ((a0.2.1.length:Int)-64),w64 ((a0.2.2.1.length:Int)-256)],([w64 ((a0.1.length:Int)-64),w64 ((a0.2.1.length:Int)-64),w64 ((a0.2.2.1.length:Int)-256)].length:Int),0,(a0,(0,0,0,()),()))
noncomputable def zx8:=lk (α:=HK) [(29,me [vp 2 0,vp 3 1] [.box 36 [.v jd],.box 134 [.v jy]] 2),(58,.unroll 24),(7474,me [vp 2 0,vp 3 1,vo 24 2,(25,.ci .i64 (5)),(26,.ci .i64 (0)),vb 32] [.box 36 [.v jd],.box 134 [.v jy],.rowx 136 1 [.agg [.fn 94 [.pt 1 0] []],.agg [.fn 95 [.pt 1 0] []],.agg [.fn 96 [.pt 1 0] []],.agg [.fn 97 [.pt 1 0] []],.agg [.fn 98 [.pt 1 0] []]]] 3),(15026,me [vp 2 0,vp 3 1,vo 24 2,(25,.ci .i64 (5)),(26,.ci .i64 (1)),vb 32] [.box 36 [.v jd],.box 134 [.v jy],.rowx 136 1 [.agg [.fn 94 [.pt 1 0] []],.agg [.fn 95 [.pt 1 0] []],.agg [.fn 96 [.pt 1 0] []],.agg [.fn 97 [.pt 1 0] []],.agg [.fn 98 [.pt 1 0] []]]] 3),(30130,me [vp 2 0,vp 3 1,vo 24 2,(25,.ci .i64 (5)),(26,.ci .i64 (2)),vb 32] [.box 36 [.v jd],.box 134 [.v jy],.rowx 136 1 [.agg [.fn 94 [.pt 1 0] []],.agg [.fn 95 [.pt 1 0] []],.agg [.fn 96 [.pt 1 0] []],.agg [.fn 97 [.pt 1 0] []],.agg [.fn 98 [.pt 1 0] []]]] 3),(60338,me [vp 2 0,vp 3 1,vo 24 2,(25,.ci .i64 (5)),(26,.ci .i64 (3)),vb 32] [.box 36 [.v jd],.box 134 [.v jy],.rowx 136 1 [.agg [.fn 94 [.pt 1 0] []],.agg [.fn 95 [.pt 1 0] []],.agg [.fn 96 [.pt 1 0] []],.agg [.fn 97 [.pt 1 0] []],.agg [.fn 98 [.pt 1 0] []]]] 3),(120754,me [vp 2 0,vp 3 1,vo 24 2,(25,.ci .i64 (5)),(26,.ci .i64 (4)),vb 32] [.box 36 [.v jd],.box 134 [.v jy],.rowx 136 1 [.agg [.fn 94 [.pt 1 0] []],.agg [.fn 95 [.pt 1 0] []],.agg [.fn 96 [.pt 1 0] []],.agg [.fn 97 [.pt 1 0] []],.agg [.fn 98 [.pt 1 0] []]]] 3)]
noncomputable def znr:=lk (α:=HK) [(26,me [vp 0 0,vl 28,vi 29,vi 30] [.box 134 [.v jy]] 1),(58,me [vp 0 0,(65,.v (.sl (.arr 3 I6))),vi 66,vi 67] [.box 134 [.v jy]] 1),(7474,me [vp 0 0,vi 5,(65,.v (.sl (.arr 3 I6))),vi 66,vi 67,vb 83] [.box 134 [.v jy]] 1)]
noncomputable def zny:=lk (α:=HK) [(58,me [vp 0 0,(3,.v (.sl .str)),(17,.v (.sl Y_api_Token)),vi 18,vi 19] [.box 134 [.v jy]] 1),(14948,me [vp 0 0,(3,.v (.sl .str)),vi 4,vp 5 1,(17,.v (.sl Y_api_Token)),vi 18,vi 19,vb 31] [.box 134 [.v jy],.box 48 [.v Y_api_Token]] 2),(29902,me [vp 0 0,(3,.v (.sl .str)),vi 4,(17,.v (.sl Y_api_Token)),vi 18,vi 19,vb 48] [.box 134 [.v jy]] 1)]
noncomputable def zmd:=lk (α:=HK) [(58,me [vp 0 0,vo 3 1,(16,.v (.sl .str)),vi 17,vi 18] [.box 134 [.v jy],.row 9 .str] 2),(14948,me [vp 0 0,vo 3 1,(5,.v .str),(16,.v (.sl .str)),vi 17,vi 18,vb 27] [.box 134 [.v jy],.row 9 .str] 2)]
noncomputable def zm3:=lk (α:=HK) [(109,me [vb 3] [.box 134 [.v jy]] 1),(218,me [vp 0 0,(3,.cb false),(13,.v (.sl Y_api_Prod)),vi 14,vi 15] [.box 134 [.v jy]] 1),(111816,me [vp 0 0,(3,.cb false),vi 4,vp 5 1,(13,.v (.sl Y_api_Prod)),vi 14,vi 15,vb 20] [.box 134 [.v jy],.box 66 [.v Y_api_Prod]] 2),(111822,me [vp 0 0,(3,.cb false),vi 4,(13,.v (.sl Y_api_Prod)),vi 14,vi 15,(47,.v (.sl Y_api_Item)),vi 48,vi 49] [.box 134 [.v jy]] 1)]
noncomputable def zm4:=lk (α:=HK) [(12,me [vp 0 0,vb 23] [.box 134 [.v jy]] 1),(58,me [vp 0 0,vi 31,vi 32] [.box 134 [.v jy]] 1)]
theorem zfr(nn:Nat):jz 57 ⟨[Y_api_Grammar],jd,λt=>Y2 nn t⟩:=mk1 Tryz.func57 nn 9 [(1,[40,76,87]),(4,[43,52]),(10,[32]),(14,[23,65,66]),(18,[9,46])] [(0,[(24,.ownx)]),(1,[(28,.told I6),(65,.told (.arr 3 I6))]),(10,[(30,.told .str)])] [] [10000069] (itc 3220094 Tryz.func94 znr 1 [] (itc 10003220141 Tryz.func141 h0 2 [] (itc 10007060141 Tryz.func141 h0 3 [] (itc 3220095 Tryz.func95 zny 4 [] (itc 40003270143 Tryz.func143 h0 5 [] (itc 50001300141 Tryz.func141 h0 6 [] (itc 50002580141 Tryz.func141 h0 7 [] (itc 40005790141 Tryz.func141 h0 8 [] (itc 40007060141 Tryz.func141 h0 9 [] (itc 3220096 Tryz.func96 zmd 10 [] (itc 100003240143 Tryz.func143 h0 11 [] (itc 110001300141 Tryz.func141 h0 12 [] (itc 110002580141 Tryz.func141 h0 13 [] (itc 3220097 Tryz.func97 zm3 14 [] (itc 140003860141 Tryz.func141 h0 15 [] (itc 140005140141 Tryz.func141 h0 16 [] (itc 140009010141 Tryz.func141 h0 17 [] (itc 3220098 Tryz.func98 zm4 18 [] (itc 180001290141 Tryz.func141 h0 19 [] (itc 180004500141 Tryz.func141 h0 20 [] itn (by kernel_rfl)) (by kernel_rfl)) (by kernel_rfl)) (by kernel_rfl)) (by kernel_rfl)) (by kernel_rfl)) (by kernel_rfl)) (by kernel_rfl)) (by kernel_rfl)) (by kernel_rfl)) (by kernel_rfl)) (by kernel_rfl)) (by kernel_rfl)) (by kernel_rfl)) (by kernel_rfl)) (by kernel_rfl)) (by kernel_rfl)) (by kernel_rfl)) (by kernel_rfl)) (by kernel_rfl)) zx8 rn (gc (zfj nn) gn) (tc (zoo nn) (tc (zdg nn) (tc (zee nn) (tc (zv3 nn) (tc (zrt nn) (tc (zpr nn) tn)))))) (by kernel_rfl) λt=>by kernel_rfl
noncomputable def v7(nn:Nat)(a0:ja):Option Bool:=jb (Y2 nn a0) λa=>some (decide (a.1=0))
theorem yn(nn:Nat):jz 72 ⟨[Y_api_Grammar],.bool,λt=>v7 nn t⟩:=mk1 Tryz.func72 nn 0 [] [] [] [] itn h0 rn gn (tc (zfr nn) tn) (by kernel_rfl) λt=>by kernel_rfl
noncomputable def Qp(nn:Nat)(a0:je)(a1:(List Bool)):Option Bool:=J (λ(a:Bool)=>some a) λb=>ifB a0.1 (jb (atL a1 a0.2.1) λc=>b c) (b false)
noncomputable def zq6:=lk (α:=HK) [(6,me [vb 4] [] 0)]
theorem zke(nn:Nat):jz 198 ⟨[Y_api_Item,LB],.bool,λt=>Qp nn (t.1) (t.2)⟩:=mk1 Tryz.func198 nn 0 [] [] [] [] itn zq6 rn gn tn (by kernel_rfl) λt=>by kernel_rfl
noncomputable def vg(nn:Nat)(a0:ja):Option (List Bool):=J (λ(a:(List Bool))=>some a) λb=>jb (v7 nn a0) λc=>ifB (!c) (b []) (jb (some (a0.2.1.length:Int)) λd=>jb (mkO 1 d) λe=>jm (σ:=(List jf)×Bool×(List Bool)) (λ(f,g,h)i=>ifB g (jm (σ:=(List jf)×Bool×(List jf)×Int×Int×(List Bool)) (λ(j,k,l,m,n,o)p=>ifB (decide (n<m)) (jb (atL l n) λq=>J (σ:=(List jf)×Bool×(List jf)×Int×Int×(List Bool)) (λ(r,s,u,v,w,x)=>jb (some (w64 (w+1))) λz=>p (r,s,u,v,z,x)) λy=>jb (qu o.length q.1) λb0=>jb (atL o b0) λb1=>ifB b1 (y (j,k,l,m,n,o)) (jm (σ:=(List je)×Int×Int×(List Bool)×jf) (λ(b2,b3,b4,b5,b6)b7=>ifB (decide (b4<b3)) (jb (atL b2 b4) λb8=>jb (Qp nn b8 b5) λb9=>ifB (!b9) (y (j,k,l,m,n,b5)) (jb (some (w64 (b4+1))) λc0=>b7 (b2,b3,c0,b5,b6))) (jb (qu b5.length b6.1) λc1=>jb (Yc b5 c1 true) λc2=>y (j,true,l,m,n,c2))) nn (q.2.1,(q.2.1.length:Int),0,o,q))) (i (j,k,o))) nn (f,false,f,(f.length:Int),0,h)) (b h)) nn (a0.2.2.1,true,(List.replicate e false)))
noncomputable def zx2:=lk (α:=HK) [(6,me [vo 2 0] [.row 4 .bool] 1)]
noncomputable def zop:=lk (α:=HK) [(6,me [(0,.v (.sl Y_api_Prod)),(1,.fn 148 [] [.pt 0 0,.pt 2 0]),vb 4] [.box 42 [.own 1],.row 4 .bool,.box 142 [.fn 198 [] []]] 3),(406,me [(0,.v (.sl Y_api_Prod)),(1,.fn 148 [] [.pt 0 0,.pt 2 0]),vb 4,(8,.v (.sl Y_api_Prod)),vi 9,vi 10] [.box 42 [.own 1],.row 4 .bool,.box 142 [.fn 198 [] []]] 3),(26009,me [(0,.v (.sl Y_api_Prod)),(1,.fn 148 [] [.pt 0 0,.pt 2 0]),vb 4,(8,.v (.sl Y_api_Prod)),vi 9,vi 10] [.box 42 [.own 1],.row 4 .bool,.box 142 [.fn 198 [] []]] 3)]
noncomputable def znu:=lk (α:=HK) [(58,me [vp 1 0,vp 2 2,vp 3 3,(13,.v (.sl Y_api_Item)),vi 14,vi 15] [.box 42 [.own 1],.row 4 .bool,.box 142 [.fn 198 [] []],.box 66 [.v Y_api_Prod]] 4)]
theorem znq(nn:Nat):FFOk 167 ⟨[Y_api_Grammar],4,.bool,λt=>vg nn t⟩:=mk2 Tryz.func167 nn 9 [(1,[11]),(2,[20]),(3,[24])] [] [] [] (itc 650102 Tryz.func102 h0 1 [] (itc 10002590100 Tryz.func100 zop 2 [] (itc 20003860148 Tryz.func148 znu 3 [] itn (by kernel_rfl)) (by kernel_rfl)) (by kernel_rfl)) zx2 rn gn (tc (yn nn) (tc (zke nn) tn)) (by kernel_rfl) λt=>by kernel_rfl
theorem za0(nn:Nat):jz 167 ⟨[Y_api_Grammar],LB,λt=>vg nn t⟩:=(znq nn).pure
noncomputable def zr(nn:Nat)(a0:(List Int))(a1:(List Int)):Option (List Int):=jm (σ:=(List Int)×(List Int)×(List Int)) (λ(a,b,c)d=>J (σ:=(List Int)×(List Int)×Bool×(List Int)) (λ(e,f,g,h)=>ifB g (J (σ:=(List Int)×(List Int)×(List Int)) (λ(j,k,l)=>d (j,k,l)) λm=>J (σ:=(List Int)×(List Int)×Bool×(List Int)) (λ(n,o,p,q)=>ifB p (jb (atL n 0) λs=>jb (apO 8 q [s]) λu=>jb (zhi n (some 1) none) λv=>m (v,o,u)) (J (σ:=(List Int)×(List Int)×Bool×(List Int)) (λ(w,x,y,z)=>ifB y (jb (atL x 0) λb1=>jb (apO 8 z [b1]) λb2=>jb (zhi x (some 1) none) λb3=>m (w,b3,b2)) (jb (atL w 0) λb4=>jb (apO 8 z [b4]) λb5=>jb (zhi w (some 1) none) λb6=>jb (zhi x (some 1) none) λb7=>m (b6,b7,b5))) λb0=>jb (some (decide ((n.length:Int)=0))) λb8=>ifB b8 (b0 (n,o,true,q)) (jb (atL o 0) λb9=>jb (atL n 0) λc0=>b0 (n,o,decide (b9<c0),q)))) λr=>jb (some (decide ((f.length:Int)=0))) λc1=>ifB c1 (r (e,f,true,h)) (jb (some (decide (0<(e.length:Int)))) λc2=>ifB c2 (jb (atL e 0) λc3=>jb (atL f 0) λc4=>r (e,f,decide (c3<c4),h)) (r (e,f,false,h)))) (some h)) λi=>jb (some (decide (0<(a.length:Int)))) λc5=>ifB c5 (i (a,b,true,c)) (i (a,b,decide (0<(b.length:Int)),c))) nn (a0,a1,[])
noncomputable def zow:=lk (α:=HK) [(14,me [vl 0,vl 1,vp 5 1,(6,.fn 230 [] [])] [.box 31 [.own 2],.box 220 [.fn 202 [] [.pt 0 0],.fn 202 [] [.pt 0 0],.fn 202 [] [.pt 0 0]],.row 3 I6] 3),(112,me [vl 0,vl 1,vp 5 1,(6,.fn 230 [] []),vb 14] [.box 31 [.own 2],.box 220 [.fn 202 [] [.pt 0 0],.fn 202 [] [.pt 0 0],.fn 202 [] [.pt 0 0]],.row 3 I6] 3),(114,me [vl 0,vl 1,vp 5 1,(6,.fn 230 [] [])] [.box 31 [.own 2],.box 220 [.fn 202 [] [.pt 0 0],.fn 202 [] [.pt 0 0],.fn 202 [] [.pt 0 0]],.row 3 I6] 3),(456,me [vl 0,vl 1,vp 5 1,(6,.fn 230 [] []),vb 26] [.box 31 [.own 2],.box 220 [.fn 202 [] [.pt 0 0],.fn 202 [] [.pt 0 0],.fn 202 [] [.pt 0 0]],.row 3 I6] 3),(1830,me [vl 0,vl 1,vp 5 1,(6,.fn 230 [] []),vb 53] [.box 31 [.own 2],.box 220 [.fn 202 [] [.pt 0 0],.fn 202 [] [.pt 0 0],.fn 202 [] [.pt 0 0]],.row 3 I6] 3)]
theorem V5(nn:Nat):FFOk 172 ⟨[L6,L6],3,I6,λt=>zr nn (t.1) (t.2)⟩:=mk2 Tryz.func172 nn 9 [(1,[9,29,33,56])] [(3,[(5,.told I6)]),(5,[(5,.told I6)]),(7,[(5,.told I6)])] [] [] (itc 1980203 Tryz.func203 zow 1 [] (itc 10003900230 Tryz.func230 h0 2 [] (itc 20000660202 Tryz.func202 h0 3 [1] (itc 10005820230 Tryz.func230 h0 4 [] (itc 40000660202 Tryz.func202 h0 5 [1] (itc 10001980230 Tryz.func230 h0 6 [] (itc 60000660202 Tryz.func202 h0 7 [1] itn (by kernel_rfl)) (by kernel_rfl)) (by kernel_rfl)) (by kernel_rfl)) (by kernel_rfl)) (by kernel_rfl)) (by kernel_rfl)) h0 rn gn tn (by kernel_rfl) λt=>by kernel_rfl
noncomputable abbrev Vi:=zr
theorem zfs(nn:Nat):jz 172 ⟨[L6,L6],L6,λt=>zr nn (t.1) (t.2)⟩:=(V5 nn).pure
noncomputable def Vo(nn:Nat)(a0:(Option Zu))(a1:(List je)):Option (List Int):=J (λ(a:(List Int))=>some a) λb=>jm (σ:=(Option Zu)×(List je)×Int×Int×(List Int)) (λ(c,d,e,f,g)h=>ifB (decide (f<e)) (jb (atL d f) λi=>ifB (!i.1) (jb (Vi nn g [i.2.1]) λj=>some j) (jb (c) λk=>jb (atL k.2.1 i.2.1) λl=>jb (Vi nn g l) λm=>jb (c) λn=>jb (atL n.1 i.2.1) λo=>ifB (!o) (b m) (jb (some (w64 (f+1))) λp=>h (c,d,e,p,m)))) (b g)) nn (a0,a1,(a1.length:Int),0,[])
noncomputable def zhl:=lk (α:=HK) [(29,me [vo 5 0] [.row 3 I6] 1),(58,me [(0,.v (.ref Zw)),vo 5 0,(8,.v (.sl Y_api_Item)),vi 9,vi 10] [.row 3 I6] 1)]
theorem Yx(nn:Nat):FFOk 201 ⟨[(.ref Zw),(.sl Y_api_Item)],3,I6,λt=>Vo nn (t.1) (t.2)⟩:=mk2 Tryz.func201 nn 0 [(0,[41])] [(0,[(20,.told I6)])] [] [388,457] itn zhl rn (gc (V5 nn) gn) tn (by kernel_rfl) λt=>by kernel_rfl
noncomputable abbrev Jn:=Vo
noncomputable def zu(nn:Nat)(a0:ja):Option (Option Zu):=jb (v7 nn a0) λa=>ifB (!a) (some none) (jb (vg nn a0) λb=>jb (some (a0.2.1.length:Int)) λc=>jb (mkO 24 c) λd=>jm (σ:=Bool×ja×(List Bool)×(List (List Int))) (λ(e,f,g,h)i=>ifB e (jm (σ:=Bool×(List jf)×Int×Int×ja×(List Bool)×(List (List Int))) (λ(j,k,l,m,n,o,p)q=>ifB (decide (m<l)) (jb (atL k m) λr=>J (σ:=Bool×(List jf)×Int×Int×ja×(List Bool)×(List (List Int))) (λ(s,u,v,w,x,y,z)=>jb (some (w64 (w+1))) λb1=>q (s,u,v,b1,x,y,z)) λb0=>jb (qu p.length r.1) λb2=>jb (atL p b2) λb3=>jb (Jn nn (some (o,p,())) r.2.1) λb4=>jb (Vi nn b3 b4) λb5=>jb (qu p.length r.1) λb6=>jb (atL p b6) λb7=>jb (qu p.length r.1) λb8=>jb (Yc p b8 b5) λb9=>ifB (decide ((b7.length:Int)<(b5.length:Int))) (b0 (true,k,l,m,n,o,b9)) (b0 (j,k,l,m,n,o,b9))) (i (j,n,o,p))) nn (false,f.2.2.1,(f.2.2.1.length:Int),0,f,g,h)) (some (some (g,h,())))) nn (true,a0,b,(List.replicate d ([]:(List Int)))))
noncomputable def zxk:=lk (α:=HK) [(250,me [vp 1 0,vp 3 1,(4,.fn 229 [] [.pt 1 0]),vb 5] [.box 26 [.v Y_api_Grammar],.box 211 [.pt 2 0],.box 214 [.v LB,.own 3],.row 31 L6] 4),(16022,me [vp 1 0,vp 3 1,(4,.fn 229 [] [.pt 1 0]),vb 5,(22,.v (.sl Y_api_Prod)),vi 23,vi 24] [.box 26 [.v Y_api_Grammar],.box 211 [.pt 2 0],.box 214 [.v LB,.own 3],.row 31 L6] 4),(1025433,me [vp 1 0,vp 3 1,(4,.fn 229 [] [.pt 1 0]),vb 5,(22,.v (.sl Y_api_Prod)),vi 23,vi 24] [.box 26 [.v Y_api_Grammar],.box 211 [.pt 2 0],.box 214 [.v LB,.own 3],.row 31 L6] 4)]
theorem zfq(nn:Nat):jz 197 ⟨[Y_api_Grammar],(.ref Zw),λt=>zu nn t⟩:=mk1 Tryz.func197 nn 9 [(0,[15,34])] [] [(1000200,[(37,L6)])] [1000075,1000076] (itc 7060229 Tryz.func229 h0 1 [] itn (by kernel_rfl)) zxk rn (gc (V5 nn) (gc (Yx nn) gn)) (tc (yn nn) (tc (za0 nn) tn)) (by kernel_rfl) λt=>by kernel_rfl
noncomputable def zak(nn:Nat)(a0:ja):Option (List (List Int)):=jb (zu nn a0) λa=>ifB a.isNone (some []) (jb (a) λb=>jb (some (b.2.1.length:Int)) λc=>jb (mkO 24 c) λd=>jb (a) λe=>jb (jbl (List.replicate d ([]:(List Int))) e.2.1) λf=>some f.2)
theorem zpm(nn:Nat):jz 166 ⟨[Y_api_Grammar],M6,λt=>zak nn t⟩:=mk1 Tryz.func166 nn 0 [(0,[13])] [] [] [] itn h0 rn gn (tc (zfq nn) tn) (by kernel_rfl) λt=>by kernel_rfl
noncomputable def vq(nn:Nat)(a0:ja):Option (List Bool):=jb (v7 nn a0) λa=>ifB (!a) (some []) (jb (some (a0.2.1.length:Int)) λb=>jb (mkO 1 b) λc=>jb (qu (List.replicate c false).length a0.2.2.2.1) λd=>jb (Yc (List.replicate c false) d true) λe=>jm (σ:=(List jf)×Bool×(List Bool)) (λ(f,g,h)i=>ifB g (jm (σ:=(List jf)×Bool×(List jf)×Int×Int×(List Bool)) (λ(j,k,l,m,n,o)p=>ifB (decide (n<m)) (jb (atL l n) λq=>J (σ:=(List jf)×Bool×(List jf)×Int×Int×(List Bool)) (λ(r,s,u,v,w,x)=>jb (some (w64 (w+1))) λz=>p (r,s,u,v,z,x)) λy=>jm (σ:=Bool×(List je)×Int×Int×(List Bool)×jf) (λ(b0,b1,b2,b3,b4,b5)b6=>ifB (decide (b3<b2)) (J (σ:=Bool×(List je)×Int×Int×(List Bool)×jf) (λ(b7,b8,b9,c0,c1,c2)=>jb (some (w64 (c0+1))) λc4=>b6 (b7,b8,b9,c4,c1,c2)) λc3=>jb (atL b1 b3) λc5=>J (σ:=Bool×(List je)×Int×Int×Bool×(List Bool)×jf×je) (λ(c6,c7,c8,c9,d0,d1,d2,d3)=>ifB d0 (jb (qu d1.length d3.2.1) λd5=>jb (Yc d1 d5 true) λd6=>c3 (true,c7,c8,c9,d6,d2)) (c3 (c6,c7,c8,c9,d1,d2))) λd4=>jb (qu b4.length b5.1) λd7=>jb (atL b4 d7) λd8=>ifB d8 (ifB c5.1 (jb (qu b4.length c5.2.1) λd9=>jb (atL b4 d9) λe0=>d4 (b0,b1,b2,b3,!e0,b4,b5,c5)) (d4 (b0,b1,b2,b3,false,b4,b5,c5))) (d4 (b0,b1,b2,b3,false,b4,b5,c5))) (ifB b0 (y (j,true,l,m,n,b4)) (y (j,k,l,m,n,b4)))) nn (false,q.2.1,(q.2.1.length:Int),0,o,q)) (i (j,k,o))) nn (f,false,f,(f.length:Int),0,h)) (some h)) nn (a0.2.2.1,true,e))
noncomputable def zkn:=lk (α:=HK) [(6,me [(0,.v (.sl Y_api_Prod)),(1,.fn 101 [] [.pt 0 0]),vb 4] [.box 42 [.own 1],.row 4 .bool] 2),(406,me [(0,.v (.sl Y_api_Prod)),(1,.fn 101 [] [.pt 0 0]),vb 4,(8,.v (.sl Y_api_Prod)),vi 9,vi 10] [.box 42 [.own 1],.row 4 .bool] 2),(26009,me [(0,.v (.sl Y_api_Prod)),(1,.fn 101 [] [.pt 0 0]),vb 4,(8,.v (.sl Y_api_Prod)),vi 9,vi 10] [.box 42 [.own 1],.row 4 .bool] 2)]
noncomputable def zkt:=lk (α:=HK) [(58,me [vp 1 0,vp 2 2,vb 4,(8,.v (.sl Y_api_Item)),vi 9,vi 10] [.box 42 [.own 1],.row 4 .bool,.box 66 [.v Y_api_Prod]] 3),(934,me [vp 1 0,vp 2 2,vb 4,(8,.v (.sl Y_api_Item)),vi 9,vi 10] [.box 42 [.own 1],.row 4 .bool,.box 66 [.v Y_api_Prod]] 3),(7474,me [vp 1 0,vp 2 2,vb 4,vp 6 3,(8,.v (.sl Y_api_Item)),vi 9,vi 10,vb 30] [.box 42 [.own 1],.row 4 .bool,.box 66 [.v Y_api_Prod],.box 54 [.v Y_api_Item]] 4)]
theorem zkf(nn:Nat):FFOk 63 ⟨[Y_api_Grammar],4,.bool,λt=>vq nn t⟩:=mk2 Tryz.func63 nn 9 [(0,[9]),(1,[20]),(2,[35])] [] [] [] (itc 3230100 Tryz.func100 zkn 1 [] (itc 10003860101 Tryz.func101 zkt 2 [] itn (by kernel_rfl)) (by kernel_rfl)) h0 rn gn (tc (yn nn) tn) (by kernel_rfl) λt=>by kernel_rfl
theorem zcr(nn:Nat):jz 63 ⟨[Y_api_Grammar],LB,λt=>vq nn t⟩:=(zkf nn).pure
noncomputable def zbi(nn:Nat)(a0:ja):Option Int:=jb (v7 nn a0) λa=>ifB (!a) (some (-1)) (some (a0.1.length:Int))
theorem zo4(nn:Nat):jz 168 ⟨[Y_api_Grammar],I6,λt=>zbi nn t⟩:=mk1 Tryz.func168 nn 0 [] [] [] [] itn h0 rn gn (tc (yn nn) tn) (by kernel_rfl) λt=>by kernel_rfl
noncomputable def Vb(nn:Nat)(a0:ja):Option (List (List Int)):=jb (v7 nn a0) λa=>ifB (!a) (some []) (jb (zak nn a0) λb=>jb (vg nn a0) λc=>jb (vq nn a0) λd=>jb (some (a0.2.1.length:Int)) λe=>jb (mkO 24 e) λf=>jb (zbi nn a0) λg=>jb (qu (List.replicate f ([]:(List Int))).length a0.2.2.2.1) λh=>jb (Yc (List.replicate f ([]:(List Int))) h [g]) λi=>jm (σ:=Bool×ja×(List (List Int))×(List Bool)×(List Bool)×(List (List Int))) (λ(j,k,l,m,n,o)p=>ifB j (jm (σ:=Bool×(List jf)×Int×Int×ja×(List (List Int))×(List Bool)×(List Bool)×(List (List Int))) (λ(q,r,s,u,v,w,x,y,z)b0=>ifB (decide (u<s)) (J (σ:=Bool×(List jf)×Int×Int×ja×(List (List Int))×(List Bool)×(List Bool)×(List (List Int))) (λ(b1,b2,b3,b4,b5,b6,b7,b8,b9)=>jb (some (w64 (b4+1))) λc1=>b0 (b1,b2,b3,c1,b5,b6,b7,b8,b9)) λc0=>jb (atL r u) λc2=>J (σ:=Bool×(List jf)×Int×Int×Bool×ja×(List (List Int))×(List Bool)×(List Bool)×(List (List Int))) (λ(c3,c4,c5,c6,c7,c8,c9,d0,d1,d2)=>ifB c7 (c0 (true,c4,c5,c6,c8,c9,d0,d1,d2)) (c0 (c3,c4,c5,c6,c8,c9,d0,d1,d2))) λd3=>jb (atL y c2.1) λd4=>ifB d4 (jb (qu z.length c2.1) λd5=>jb (atL z d5) λd6=>jb (some (w64 ((c2.2.1.length:Int)-1))) λd7=>jm (σ:=(List Int)×Int×(List (List Int))×(List Bool)×(List Bool)×(List (List Int))×jf×Bool) (λ(d8,d9,e0,e1,e2,e3,e4,e5)e6=>ifB (decide (0<=d9)) (J (σ:=(List Int)×Int×(List (List Int))×(List Bool)×(List Bool)×(List (List Int))×jf×Bool) (λ(e7,e8,e9,f0,f1,f2,f3,f4)=>jb (some (w64 (e8-1))) λf6=>e6 (e7,f6,e9,f0,f1,f2,f3,f4)) λf5=>jb (atL e4.2.1 d9) λf7=>ifB (!f7.1) (f5 ([f7.2.1],d9,e0,e1,e2,e3,e4,e5)) (jb (qu e3.length f7.2.1) λf8=>jb (atL e3 f8) λf9=>jb (zr nn f9 d8) λg0=>J (σ:=Int×(List Int)×(List (List Int))×(List Bool)×(List Bool)×(List (List Int))×Bool) (λ(g1,g2,g3,g4,g5,g6,g7)=>jb (qu g6.length g1) λg9=>jb (Yc g6 g9 g2) λh0=>jb (atL g4 f7.2.1) λh1=>ifB h1 (jb (atL g3 f7.2.1) λh2=>jb (zr nn d8 h2) λh3=>f5 (h3,d9,g3,g4,g5,h0,e4,g7)) (jb (atL g3 f7.2.1) λh4=>f5 (h4,d9,g3,g4,g5,h0,e4,g7))) λg8=>ifB e5 (g8 (f7.2.1,g0,e0,e1,e2,e3,true)) (jb (qu e3.length f7.2.1) λh5=>jb (atL e3 h5) λh6=>g8 (f7.2.1,g0,e0,e1,e2,e3,decide ((h6.length:Int)<(g0.length:Int)))))) (d3 (q,r,s,u,e5,v,e0,e1,e2,e3))) nn (d6,d7,w,x,y,z,c2,false)) (d3 (q,r,s,u,false,v,w,x,y,z))) (p (q,v,w,x,y,z))) nn (false,k.2.2.1,(k.2.2.1.length:Int),0,k,l,m,n,o)) (some o)) nn (true,a0,b,c,d,i))
noncomputable def zwb:=lk (α:=HK) [(250,me [vp 1 0,vp 3 1,vb 4] [.box 26 [.v Y_api_Grammar],.box 183 [.v M6,.v LB,.v LB,.own 2],.row 31 L6] 3),(16022,me [vp 1 0,vp 3 1,vb 4,(34,.v (.sl Y_api_Prod)),vi 35,vi 36] [.box 26 [.v Y_api_Grammar],.box 183 [.v M6,.v LB,.v LB,.own 2],.row 31 L6] 3),(256358,me [vp 1 0,vp 3 1,vb 4,(34,.v (.sl Y_api_Prod)),vi 35,vi 36] [.box 26 [.v Y_api_Grammar],.box 183 [.v M6,.v LB,.v LB,.own 2],.row 31 L6] 3),(2050866,me [vp 1 0,vp 3 1,vb 4,(34,.v (.sl Y_api_Prod)),vi 35,vi 36,vb 52] [.box 26 [.v Y_api_Grammar],.box 183 [.v M6,.v LB,.v LB,.own 2],.row 31 L6] 3)]
noncomputable def zok:=lk (α:=HK) [(890,me [vp 2 2,vp 3 3,vp 5 4,(6,.fn 199 [] [.pt 2 0,.pt 4 0]),vl 7,vi 8] [.box 183 [.v M6,.v LB,.v LB,.own 1],.row 31 L6,.box 181 [.pt 0 0],.box 66 [.v Y_api_Prod],.box 4 [.v .bool]] 5),(7122,me [vp 2 2,vp 3 3,vp 5 4,(6,.fn 199 [] [.pt 2 0,.pt 4 0]),vl 7,vi 8] [.box 183 [.v M6,.v LB,.v LB,.own 1],.row 31 L6,.box 181 [.pt 0 0],.box 66 [.v Y_api_Prod],.box 4 [.v .bool]] 5)]
noncomputable def zo7:=lk (α:=HK) [(6,me [vi 0,vp 2 0,vl 6] [.box 181 [.pt 1 0],.box 183 [.v M6,.v LB,.v LB,.own 2],.row 31 L6,.box 4 [.v .bool]] 4)]
theorem zog(nn:Nat):jz 109 ⟨[Y_api_Grammar],M6,λt=>Vb nn t⟩:=mk1 Tryz.func109 nn 9 [(0,[18,53]),(1,[22,26])] [(0,[(30,.own I6)]),(1,[(37,.told I6)])] [(266,[(30,L6)])] [] (itc 7150169 Tryz.func169 zok 1 [] (itc 10006440199 Tryz.func199 zo7 2 [] itn (by kernel_rfl)) (by kernel_rfl)) zwb rn gn (tc (zcr nn) (tc (yn nn) (tc (zpm nn) (tc (za0 nn) (tc (zo4 nn) (tc (zfs nn) tn)))))) (by kernel_rfl) λt=>by kernel_rfl
noncomputable def Z2(nn:Nat)(a0:ja)(a1:(List je)):Option Bool:=jm (σ:=(List je)×Int×Int×ja) (λ(a,b,c,d)e=>ifB (decide (c<b)) (jb (atL a c) λf=>J (σ:=Int×(List je)×Int×Int×ja×je) (λ(g,h,i,j,k,l)=>J (σ:=(List je)×Int×Int×Bool×ja) (λ(n,o,p,q,r)=>ifB q (some false) (jb (some (w64 (p+1))) λu=>e (n,o,u,r))) λs=>jb (some (decide (l.2.1<0))) λv=>ifB v (s (h,i,j,true,k)) (s (h,i,j,decide (g<=l.2.1),k))) λm=>ifB f.1 (m ((d.2.1.length:Int),a,b,c,d,f)) (m ((d.1.length:Int),a,b,c,d,f))) (some true)) nn (a1,(a1.length:Int),0,a0)
noncomputable def zs7:=lk (α:=HK) [(26,me [vp 2 0,(8,.v (.sl Y_api_Item)),vi 9,vi 10] [.box 26 [.v Y_api_Grammar]] 1),(3379,me [vp 2 0,vp 6 1,vi 7,(8,.v (.sl Y_api_Item)),vi 9,vi 10] [.box 26 [.v Y_api_Grammar],.box 54 [.v Y_api_Item]] 2),(13518,me [vp 2 0,(8,.v (.sl Y_api_Item)),vi 9,vi 10,vb 30] [.box 26 [.v Y_api_Grammar]] 1)]
theorem zls(nn:Nat):jz 200 ⟨[Y_api_Grammar,(.sl Y_api_Item)],.bool,λt=>Z2 nn (t.1) (t.2)⟩:=mk1 Tryz.func200 nn 0 [(0,[24,31])] [] [] [] itn zs7 rn gn tn (by kernel_rfl) λt=>by kernel_rfl
noncomputable def zi1(nn:Nat)(a0:ja)(a1:(List je)):Option (List Int):=jb (zu nn a0) λa=>J (σ:=(List je)×(Option Zu)×Bool) (λ(b,c,d)=>ifB d (some []) (jb (Jn nn c b) λf=>some f)) λe=>ifB a.isNone (e (a1,a,true)) (jb (Z2 nn a0 a1) λg=>e (a1,a,!g))
noncomputable def z2x:=lk (α:=HK) [(28,me [(1,.v (.sl Y_api_Item)),(5,.v (.ref Zw)),vb 15] [] 0)]
theorem zth(nn:Nat):FFOk 170 ⟨[Y_api_Grammar,(.sl Y_api_Item)],3,I6,λt=>zi1 nn (t.1) (t.2)⟩:=mk2 Tryz.func170 nn 0 [] [] [] [258] itn z2x rn (gc (Yx nn) gn) (tc (zfq nn) (tc (zls nn) tn)) (by kernel_rfl) λt=>by kernel_rfl
noncomputable abbrev zja:=zi1
noncomputable def zc9(nn:Nat)(a0:ja)(a1:(List je)):Option Bool:=jb (vg nn a0) λa=>jb (z8y a) λb=>ifB b (some false) (jm (σ:=(List Bool)×(List je)×Int×Int) (λ(c,d,e,f)g=>ifB (decide (f<e)) (jb (atL d f) λh=>J (σ:=(List Bool)×(List je)×Int×Int×Bool) (λ(i,j,k,l,m)=>ifB m (some false) (jb (some (w64 (l+1))) λo=>g (i,j,k,o))) λn=>jb (some (!h.1)) λp=>ifB p (n (c,d,e,f,true)) (ifB (decide (h.2.1<0)) (n (c,d,e,f,true)) (ifB (decide ((c.length:Int)<=h.2.1)) (n (c,d,e,f,true)) (jb (atL c h.2.1) λq=>n (c,d,e,f,!q))))) (some true)) nn (a,a1,(a1.length:Int),0))
noncomputable def z1c:=lk (α:=HK) [(122,me [(5,.v LB),(12,.v (.sl Y_api_Item)),vi 13,vi 14] [] 0),(15666,me [(5,.v LB),(12,.v (.sl Y_api_Item)),vi 13,vi 14,vb 40] [] 0)]
theorem zrp(nn:Nat):jz 171 ⟨[Y_api_Grammar,(.sl Y_api_Item)],.bool,λt=>zc9 nn (t.1) (t.2)⟩:=mk1 Tryz.func171 nn 0 [(0,[20,41])] [] [] [] itn z1c rn gn (tc (za0 nn) tn) (by kernel_rfl) λt=>by kernel_rfl
noncomputable def zm(nn:Nat)(a0:ja)(a1:(List (List Int)))(a2:jf):Option (List Int):=jb (zja nn a0 a2.2.1) λa=>J (λ(b:(List Int))=>some b) λc=>jb (zc9 nn a0 a2.2.1) λd=>ifB d (jb (atL a1 a2.1) λe=>jb (Vi nn a e) λf=>c f) (c a)
noncomputable def zn6:=lk (α:=HK) [(7,me [vo 7 0] [.row 3 I6] 1)]
theorem zig(nn:Nat):FFOk 110 ⟨[Y_api_Grammar,M6,Y_api_Prod],3,I6,λt=>zm nn (t.1) (t.2.1) (t.2.2)⟩:=mk2 Tryz.func110 nn 0 [] [] [] [67,198] itn zn6 rn (gc (zth nn) (gc (V5 nn) gn)) (tc (zrp nn) tn) (by kernel_rfl) λt=>by kernel_rfl
theorem zi3(nn:Nat):jz 110 ⟨[Y_api_Grammar,M6,Y_api_Prod],L6,λt=>zm nn (t.1) (t.2.1) (t.2.2)⟩:=(zig nn).pure
def z2j{α β:Type}(f:α->Option β):List α->Option (List β)
 |[]=>some []
 |a::l=>jb (f a) λb=>jb (z2j f l) λr=>some (b::r)
theorem z36{α β:Type}{f:α->Option β}:∀{l:List α}{r:List β},z2j f l=some r->∀(i:Nat)(a:α),l[i]?=some a->∃b,f a=some b/\r[i]?=some b
 |[],r,h,i,a,hi=>by simp at hi
 |x::l,r,h,i,a,hi=>by
  unfold z2j at h;cases hx:f x with
  |none=>rw[hx]at h;cases h
  |some b=>
   rw[hx]at h;cases hl:z2j f l with
   |none=>simp only[jb,hl]at h;cases h
   |some r'=>
    simp only[jb,hl]at h;cases h;cases i with
    |zero=>simp at hi;subst hi;exact⟨b,hx,rfl⟩
    |succ i=>
     obtain⟨c,h1,h2⟩:=z36 hl i a (by simpa using hi);exact⟨c,h1,by simpa using h2⟩
noncomputable def zno(nn:Nat)(g:ja):Option PM:=jb (Vb nn g) λbeh=>jb (z2j (λp=>zm nn g beh p) g.2.2.1) λrows=>
 ifB (decide (g.2.2.1.length<=1000000) && rows.all λl=>decide (l.length<=1000000)) (zex (λi=>rows.getD i []) 0 (g.2.2.1.map (·.1)) []) none
def prC(p:jf):PrP:=(p.1,enc (.sl Y_api_Item) p.2.1)
theorem zy9(g:ja):enc Y_api_Grammar g=.agg (enc (.sl Y_api_Token) g.1::enc (.sl .str) g.2.1 :: .sl 2 ((g.2.2.1.map prC).map prV)::(encC Y_api_Grammar g).drop 3):=by
 rw[wff];rfl
theorem z25(g:ja)(hp:g.2.2.1.length<=1000000):GrV (enc Y_api_Grammar g) (g.2.2.1.map prC) where
 shape:=⟨_,_,_,_,zy9 g⟩
 len:=⟨wid Y_api_Grammar,by kernel_rfl,by rw[enc_cells,ju]⟩
 ok:=λH=>by
  show(encC Y_api_Grammar g).all (qh H)=true;rfl
 np:=Q7 _ _
 pn:=λp h=>by
  obtain⟨x,_,rfl⟩:=wef.1 h;exact⟨(show NoP (enc (.sl Y_api_Item) x.2.1)from Q7 _ _),λ_=>rfl,rfl⟩
 pl:=by rw[wey];exact hp
theorem z01{nn:Nat}{g:ja}{m:PM}(h:zno nn g=some m):GrV (enc Y_api_Grammar g) (g.2.2.1.map prC)/\zq7 (enc Y_api_Grammar g) m:=by
 unfold zno at h;cases hb:Vb nn g with
 |none=>rw[hb]at h;cases h
 |some beh=>
  rw[hb]at h;simp only[jb]at h;cases hr:z2j (λp=>zm nn g beh p) g.2.2.1 with
  |none=>rw[hr]at h;cases h
  |some rows=>
   rw[hr]at h;simp only at h;cases hc:(decide (g.2.2.1.length<=1000000) && rows.all λl=>decide (l.length<=1000000))with
   |false=>rw[hc]at h;cases h
   |true=>
    rw[hc]at h;simp only[wd8,wed,we0]at hc;have hg:=z25 g hc.1;refine⟨hg,hg.fill (pr:=λi=>rows.getD i []) (beh:=enc (.sl (.sl (.int .i64))) beh) ((zog nn).2 g beh hb) (Q7 _ _) (λi p hp=>?_) (by rw[wff];exact h)⟩;rw[web]at hp;obtain⟨x,hx,rfl⟩:=wee.1 hp;obtain⟨l,h1,h2⟩:=z36 hr i x hx;have e:rows.getD i []=l:=by rw[we8,h2];rfl
    simp only[e];exact⟨(zi3 nn).2 (g,beh,x) l h1,by simpa using hc.2 l (wd7 h2)⟩
noncomputable def y6(nn:Nat)(a0:ja):Option (jc×Int×Unit):=jb (v7 nn a0) λb=>ifB (decide (a0.2.2.1.length<=1000000)) (ifB b (jb (zno nn a0) λm=>jb (zi8 m) λr=>some ((r.1.1,r.1.2.1,r.1.2.2,()),r.2,())) (some ((0,0,0,()), -1,()))) none
noncomputable abbrev ztu (nn:Nat):PF:=⟨[Y_api_Grammar],(.tup (.cons jd (.cons (.int .i64) .nil))),λt=>y6 nn t⟩
theorem zll(nn:Nat):jz 69 (ztu nn):=⟨by kernel_rfl,λg r h=>by
 have h:y6 nn g=some r:=h;unfold y6 at h;cases hb:v7 nn g with
 |none=>rw[hb]at h;cases h
 |some b=>
  rw[hb]at h;simp only[jb]at h;by_cases hp:g.2.2.1.length<=1000000
  ·rw[wfb hp]at h;have hr:=(yn nn).2 g b hb;cases b with
   |false=>cases h;exact z3n (z25 g hp) hr
   |true=>
    simp only[ifB]at h;cases hf:zno nn g with
    |none=>rw[hf]at h;cases h
    |some m=>
     rw[hf]at h;simp only at h;cases hc:zi8 m with
     |none=>rw[hc]at h;cases h
     |some q=>
      rw[hc]at h;cases h;obtain⟨h1,h2⟩:=z01 hf;exact jbq h1 hr h2 hc
  ·rw[wf5 hp]at h;cases h⟩
def zqf(g:ja)(m:PM):Bool:=decide (g.2.1.length<=1000000) && (decide (g.1.length<=1000000) && ((m.all λe=>decide (0<=e.1.1) && (decide (e.1.1<g.2.1.length) && (decide (0<=e.1.2) && (decide (e.1.2<(g.1.length:Int)+1) && decide (e.2≠[]))))) && decide ((m.map (·.1)).Nodup)))
theorem z21{m:PM}(h:(m.map (·.1)).Nodup){e e':(Int×Int)×List Int}(h1:e∈m)(h2:e'∈m)(h3:e.1=e'.1):e=e':=by
 obtain⟨i,hi⟩:=wes h1;obtain⟨j,hj⟩:=wes h2;have ei:(m.map (·.1))[i]?=some e.1:=by rw[web,hi];rfl
 have ej:(m.map (·.1))[j]?=some e.1:=by rw[web,hj,h3];rfl
 obtain⟨l1,k1⟩:=wd5.1 ei;obtain⟨l2,k2⟩:=wd5.1 ej;have:=(List.getElem_inj h).1 (k1.trans k2.symm);subst this;rw[hi]at hj;cases hj;rfl
noncomputable def J7(nn:Nat)(a0:ja):Option (List (List Int)×Int×Unit):=jb (v7 nn a0) λb=>ifB (decide (a0.2.2.1.length<=1000000)) (ifB b (jb (zno nn a0) λm=>ifB (jx m).2 (some ([],15,())) (ifB (zqf a0 m) (some (jej a0.2.1.length (a0.1.length+1) m,0,())) none)) (some ([],3,()))) none
noncomputable abbrev ztv (nn:Nat):PF:=⟨[Y_api_Grammar],(.tup (.cons (.sl (.sl (.int .i64))) (.cons (.int .i64) .nil))),λt=>J7 nn t⟩
theorem zmi(nn:Nat):jz 26 (ztv nn):=⟨by kernel_rfl,λg r h=>by
 have h:J7 nn g=some r:=h;unfold J7 at h;cases hb:v7 nn g with
 |none=>rw[hb]at h;cases h
 |some b=>
  rw[hb]at h;simp only[jb]at h;by_cases hp:g.2.2.1.length<=1000000
  ·rw[wfb hp]at h;have hr:=(yn nn).2 g b hb;cases b with
   |false=>cases h;exact z3x (z25 g hp) hr
   |true=>
    simp only[ifB]at h;cases hf:zno nn g with
    |none=>rw[hf]at h;cases h
    |some m=>
     rw[hf]at h;simp only at h;obtain⟨h1,h2⟩:=z01 hf;cases hc:(jx m).2 with
     |true=>rw[hc]at h;cases h;exact zzs h1 hr h2 hc
     |false=>
      rw[hc]at h;cases ht:zqf g m with
      |false=>rw[ht]at h;cases h
      |true=>
       rw[ht]at h;cases h;unfold zqf at ht;simp only[wd8,wed,we0]at ht;obtain⟨t1,t2,t3,t4⟩:=ht;have:=z8e h1 (zy9 g) hr h2 hc (by simpa using t1) (by simpa using t2) (λe he=>by
        obtain⟨k1,k2,k3,k4,k5⟩:=t3 e he;exact⟨k1,by simpa using k2,k3,by simpa using k4,k5⟩) (λe e'=>z21 t4)
       rw[wey,wey]at this;exact this
  ·rw[wf5 hp]at h;cases h⟩
noncomputable def zcs(nn:Nat)(a0:ja):Option Bool:=jm (σ:=Int×Int×ja) (λ(a,b,c)d=>ifB (decide (b<(c.1.length:Int))) (jb (atL c.1 b) λe=>jb (atL c.1 b) λf=>jb (some (w64 ((w64 (a+(min (e.2.1.length:Int) 1000)))+(min (f.1.length:Int) 1000)))) λg=>jb (some (w64 (b+1))) λh=>d (g,h,c)) (jm (σ:=Int×Int×ja) (λ(i,j,k)l=>ifB (decide (j<(k.2.1.length:Int))) (jb (atL k.2.1 j) λm=>jb (some (w64 (i+(min (m.length:Int) 1000)))) λn=>jb (some (w64 (j+1))) λo=>l (n,o,k)) (jm (σ:=Int×Int×ja) (λ(p,q,r)s=>ifB (decide (q<(r.2.2.1.length:Int))) (jb (atL r.2.2.1 q) λu=>jb (some (w64 (p+(min (u.2.1.length:Int) 1000)))) λv=>jb (some (w64 (q+1))) λw=>s (v,w,r)) (J (λ(x:Bool)=>some x) λy=>jb (some (decide ((r.1.length:Int)<=70))) λz=>ifB z (ifB (decide ((r.2.1.length:Int)<=70)) (ifB (decide ((r.2.2.1.length:Int)<=260)) (y (decide (p<=1500))) (y false)) (y false)) (y false))) nn (i,0,k))) nn (a,0,c))) nn (0,0,a0)
noncomputable def z0x:=lk (α:=HK) [(58,me [vp 1 0,vi 3,vi 4] [.box 26 [.v Y_api_Grammar]] 1),(122,me [vp 1 0,vi 3,vi 5] [.box 26 [.v Y_api_Grammar]] 1),(126,me [vb 2] [] 0),(250,me [vp 1 0,vi 3,vi 6] [.box 26 [.v Y_api_Grammar]] 1)]
theorem zq9(nn:Nat):jz 52 ⟨[Y_api_Grammar],.bool,λt=>zcs nn t⟩:=mk1 Tryz.func52 nn 0 [(0,[13,32,39,48,55,65,69])] [] [] [] itn z0x rn gn tn (by kernel_rfl) λt=>by kernel_rfl
noncomputable def Zv(nn:Nat)(a0:ja):Option Bool:=J (λ(a:Bool)=>some a) λb=>jb (zcs nn a0) λc=>ifB c (ifB (decide ((a0.2.1.length:Int)<=12)) (ifB (decide ((a0.1.length:Int)<=12)) (b (decide ((a0.2.2.1.length:Int)<=30))) (b false)) (b false)) (b false)
noncomputable def zs1:=lk (α:=HK) [(6,me [vb 2] [] 0)]
theorem zlc(nn:Nat):jz 23 ⟨[Y_api_Grammar],.bool,λt=>Zv nn t⟩:=mk1 Tryz.func23 nn 0 [] [] [] [] itn zs1 rn gn (tc (zq9 nn) tn) (by kernel_rfl) λt=>by kernel_rfl
noncomputable def Vr(nn:Nat)(a0:ja):Option Bool:=jm (σ:=Int×Int×ja) (λ(a,b,c)d=>ifB (decide (b<(c.1.length:Int))) (jb (atL c.1 b) λe=>jb (some (w64 (a+(min (e.2.1.length:Int) 1000)))) λf=>jb (some (w64 (b+1))) λg=>d (f,g,c)) (J (λ(h:Bool)=>some h) λi=>jb (Zv nn c) λj=>ifB j (ifB (decide (a<=120)) (i (decide (c.2.2.2.2.1<=200))) (i false)) (i false))) nn (0,0,a0)
noncomputable def zs9:=lk (α:=HK) [(30,me [vb 2] [] 0),(58,me [vp 1 0,vi 3,vi 4] [.box 26 [.v Y_api_Grammar]] 1)]
theorem zmt(nn:Nat):jz 7 ⟨[Y_api_Grammar],.bool,λt=>Vr nn t⟩:=mk1 Tryz.func7 nn 0 [(0,[11,21])] [] [] [] itn zs9 rn gn (tc (zlc nn) tn) (by kernel_rfl) λt=>by kernel_rfl
noncomputable def Vd(nn:Nat)(a0:(Option Jk)):Option jc:=jb (a0) λa=>jb (Y2 nn a.1) λb=>some b
theorem zhv(nn:Nat):jz 56 ⟨[(.ref Jj)],jd,λt=>Vd nn t⟩:=mk1 Tryz.func56 nn 0 [] [] [] [] itn h0 rn gn (tc (zfr nn) tn) (by kernel_rfl) λt=>by kernel_rfl
noncomputable def J2(nn:Nat)(a0:(List jg)):Option (List jg):=jb (z8y a0) λa=>ifB a (some []) (jb (apO 96 [] a0) λb=>some b)
theorem Jm(nn:Nat):FFOk 209 ⟨[(.sl jk)],173,jk,λt=>J2 nn t⟩:=mk2 Tryz.func209 nn 0 [] [(0,[(5,.own jk)])] [] [] itn h0 rn gn tn (by kernel_rfl) λt=>by kernel_rfl
noncomputable def yp(nn:Nat)(a0:List jg):Option (List jg):=apO 96 [] a0
noncomputable abbrev J4 (nn:Nat):FF:=⟨[(.sl jk)],173,jk,λt=>yp nn t⟩
theorem Jr(nn:Nat):FFOk 209 (J4 nn):=by
 have hu:Tryz.prog.underlying 196=some (.slice 173):=by kernel_rfl
 have q22:∀(w:World)(a:Option Addr)(n c n' c':Nat),(binOp .eql 196 (.slice a n c) (.slice none n' c')).run Tryz.prog w=.ok (.bool a.isNone) w:=λw a n c n' c'=>Lib.run_eql_slice_nil w _ _ a n c n' c' hu;refine z3t (Jm nn) (λx r=>cloneZ _) (λc w=>?_) λa c w=>?_
 ·go_enter Tryz.func209,Tryz.ntmps209
  go_wp2
  go_ret
  exact⟨rfl,rfl⟩
 ·have hs0:(yq Tryz.prog 196).map (λr=>(r.1,r.2.1,r.2.2.1))=some (173,12,96):=by kernel_rfl
  obtain⟨⟨e',k',b',z⟩,hse⟩:∃r,yq Tryz.prog 196=some r:=by
   cases h:yq Tryz.prog 196 with
   |none=>rw[h]at hs0;cases hs0
   |some r=>exact⟨r,rfl⟩
  rw[hse]at hs0;simp only[wer,we6,wgx]at hs0;obtain⟨rfl,rfl,rfl⟩:=hs0;obtain⟨i,hu2,hi,hz,hsz,hby,hzs,hpos⟩:=Zg hse;clear hse
  go_enter Tryz.func209,Tryz.ntmps209
  go_wp2_with (at_builtin;refine wpList_append_own _ rfl _ _ 196 rfl w.heap.size 173 i z 12 96 hu hi hz hsz hby hzs hpos _ _ _ rfl (World.ownsRow_made w #[] 0 (weh _) (wgm _) rfl) a 0 c [] rfl rfl (by intro j u hj;simp at hj) (by intro u hu;cases hu) (by unfold maxLen;omega) (by omega) (by simp) ?_)
  intro v' w1 hown hgrow hnil
  go_wp2
  go_ret
  refine⟨v',rfl,hown,?_⟩;exact((Below.refl _ w).alloc (weh _) _).grown hgrow (by simp) (by intro k hk;simp[Value.ownBlock]at hk;omega)
noncomputable abbrev J5:=yp
noncomputable def z7(nn:Nat)(a0:(List (Arr 4 Int))):Option (Arr 4 Int):=jm (σ:=(List (Arr 4 Int))×Int×Int×(Arr 4 Int)×(Arr 4 Int)) (λ(a,b,c,d,e)f=>ifB (decide (c<b)) (jb (atL a c) λg=>jm (σ:=(List (Arr 4 Int))×Int×Int×Int×(Arr 4 Int)×(Arr 4 Int)×(Arr 4 Int)) (λ(h,i,j,k,l,m,n)o=>ifB (decide (k<4)) (jb (qu 4 k) λp=>jb (atL m.l p) λq=>jb (qu 4 k) λr=>jb (atL n.l r) λs=>jb (qu 4 k) λu=>jb (zsu m u (orI .u64 q s)) λv=>jb (some (w64 (k+1))) λw=>o (h,i,j,w,l,v,n)) (jb (some (w64 (j+1))) λx=>f (h,i,x,l,m))) nn (a,b,c,0,d,e,g)) (some e)) nn (a0,(a0.length:Int),0,⟨List.replicate 4 0,wd6⟩,⟨List.replicate 4 0,wd6⟩)
noncomputable def z1w:=lk (α:=HK) [(58,me [vp 2 0,vp 3 1,(7,.v (.sl (.arr 4 (.int .u64)))),vi 8,vi 9] [.box 97 [.v (.arr 4 (.int .u64))],.box 97 [.v (.arr 4 (.int .u64))]] 2),(14950,me [vp 2 0,vp 3 1,vp 5 2,(7,.v (.sl (.arr 4 (.int .u64)))),vi 8,vi 9,vi 13] [.box 97 [.v (.arr 4 (.int .u64))],.box 97 [.v (.arr 4 (.int .u64))],.box 97 [.v (.arr 4 (.int .u64))]] 3)]
theorem zhy(nn:Nat):jz 210 ⟨[(.sl (.arr 4 (.int .u64)))],(.arr 4 (.int .u64)),λt=>z7 nn t⟩:=mk1 Tryz.func210 nn 0 [(0,[24,25])] [] [] [] itn z1w rn gn tn (by kernel_rfl) λt=>by kernel_rfl
noncomputable def Vh(nn:Nat)(a0:jg)(a1:jg):Option jg:=J (σ:=Bool×jg×jg×jg) (λ(a,b,c,d)=>ifB a (some (false,0,0,false,⟨List.replicate 4 0,wd6⟩,⟨List.replicate 4 0,wd6⟩,())) (J (σ:=jg×jg×jg×jg) (λ(f,g,h,i)=>J (σ:=jg×jg) (λ(k,l)=>some l) λm=>ifB (decide (f.2.1=0)) (jb (z7 nn [f.2.2.2.2.1,g.2.2.2.2.1]) λn=>m (h,(i.1,i.2.1,i.2.2.1,i.2.2.2.1,n,i.2.2.2.2.2.1,()))) (m (h,i))) λj=>ifB b.2.2.2.1 (jb (z7 nn [b.2.2.2.2.2.1,c.2.2.2.2.2.1]) λo=>j (b,c,d,(true,min (w64 (b.2.1+c.2.1)) 1099511627776,min (w64 (b.2.2.1+c.2.2.1)) 1099511627776,true,b.2.2.2.2.1,o,()))) (jb (z7 nn [b.2.2.2.2.2.1,c.2.2.2.2.2.1]) λp=>j (b,c,d,(true,min (w64 (b.2.1+c.2.1)) 1099511627776,min (w64 (b.2.2.1+c.2.2.1)) 1099511627776,c.2.2.2.1,b.2.2.2.2.1,p,()))))) λe=>jb (some (!a0.1)) λq=>ifB q (e (true,a0,a1,(false,0,0,false,⟨List.replicate 4 0,wd6⟩,⟨List.replicate 4 0,wd6⟩,()))) (e (!a1.1,a0,a1,(false,0,0,false,⟨List.replicate 4 0,wd6⟩,⟨List.replicate 4 0,wd6⟩,())))
noncomputable def zx3:=lk (α:=HK) [(12,me [vp 2 0,vp 3 1,vp 4 2,vb 13] [.box 173 [.v jk],.box 173 [.v jk],.box 173 [.v jk]] 3),(14,me [vp 2 0,vp 3 1,vp 4 2,vp 5 3] [.box 173 [.v jk],.box 173 [.v jk],.box 173 [.v jk],.box 173 [.v jk]] 4),(15,me [vp 4 0,vp 5 1] [.box 173 [.v jk],.box 173 [.v jk]] 2)]
theorem zoh(nn:Nat):jz 188 ⟨[jk,jk],jk,λt=>Vh nn (t.1) (t.2)⟩:=mk1 Tryz.func188 nn 0 [(0,[8])] [(0,[(39,.told (.arr 4 (.int .u64))),(49,.told (.arr 4 (.int .u64)))])] [] [] itn zx3 rn gn (tc (zhy nn) tn) (by kernel_rfl) λt=>by kernel_rfl
noncomputable def Jd(nn:Nat)(a0:jg)(a1:jg):Option jg:=ifB (!a0.1) (some a1) (ifB (!a1.1) (some a0) (J (λ(a:jg)=>some a) λb=>ifB a0.2.2.2.1 (jb (z7 nn [a0.2.2.2.2.1,a1.2.2.2.2.1]) λc=>jb (z7 nn [a0.2.2.2.2.2.1,a1.2.2.2.2.2.1]) λd=>b (true,min a0.2.1 a1.2.1,max a0.2.2.1 a1.2.2.1,true,c,d,())) (jb (z7 nn [a0.2.2.2.2.1,a1.2.2.2.2.1]) λe=>jb (z7 nn [a0.2.2.2.2.2.1,a1.2.2.2.2.2.1]) λf=>b (true,min a0.2.1 a1.2.1,max a0.2.2.1 a1.2.2.1,a1.2.2.2.1,e,f,()))))
noncomputable def zxy:=lk (α:=HK) [(14,me [vp 4 0] [.box 173 [.v jk]] 1)]
theorem zo5(nn:Nat):jz 189 ⟨[jk,jk],jk,λt=>Jd nn (t.1) (t.2)⟩:=mk1 Tryz.func189 nn 0 [] [(0,[(35,.told (.arr 4 (.int .u64))),(41,.told (.arr 4 (.int .u64)))])] [] [] itn zxy rn gn (tc (zhy nn) tn) (by kernel_rfl) λt=>by kernel_rfl
noncomputable def Jb(nn:Nat)(a0:ji)(a1:(List jg)):Option jg:=ifB (decide (a0.1=1)) (ifB (a0.2.1.l == (⟨List.replicate 4 0,wd6⟩:Arr 4 Int).l) (some (false,0,0,false,⟨List.replicate 4 0,wd6⟩,⟨List.replicate 4 0,wd6⟩,())) (some (true,1,1,false,a0.2.1,a0.2.1,()))) (ifB (decide (a0.1=3)) (jb (atL a1 0) λa=>jb (atL a1 1) λb=>jb (Vh nn a b) λc=>some c) (ifB (decide (a0.1=4)) (jb (atL a1 0) λd=>jb (atL a1 1) λe=>jb (Jd nn d e) λf=>some f) (ifB (decide (a0.1=7)) (jb (atL a1 0) λg=>jb (Jd nn (true,0,0,false,⟨List.replicate 4 0,wd6⟩,⟨List.replicate 4 0,wd6⟩,()) g) λh=>some h) (J (σ:=(List jg)×Bool×ji×jg×jg) (λ(i,j,k,l,m)=>ifB j (jb (atL i 0) λo=>J (σ:=ji×jg×jg×jg) (λ(p,q,r,s)=>J (σ:=jg×jg) (λ(v,w)=>some w) λx=>ifB (decide (p.1=5)) (jb (Jd nn r s) λy=>x (q,y)) (x (q,s))) λu=>ifB o.2.2.2.1 (u (k,l,m,(o.1,o.2.1,o.2.2.1,true,o.2.2.2.2.1,o.2.2.2.2.2.1,()))) (u (k,l,m,(o.1,o.2.1,o.2.2.1,decide (0<o.2.2.1),o.2.2.2.2.1,o.2.2.2.2.2.1,())))) (some m)) λn=>jb (some (decide (a0.1=6))) λz=>ifB z (n (a1,z,a0,(false,0,0,false,⟨List.replicate 4 0,wd6⟩,⟨List.replicate 4 0,wd6⟩,()),(true,0,0,false,⟨List.replicate 4 0,wd6⟩,⟨List.replicate 4 0,wd6⟩,()))) (jb (some (decide (a0.1=5))) λb0=>n (a1,b0,a0,(false,0,0,false,⟨List.replicate 4 0,wd6⟩,⟨List.replicate 4 0,wd6⟩,()),(true,0,0,false,⟨List.replicate 4 0,wd6⟩,⟨List.replicate 4 0,wd6⟩,())))))))
noncomputable def zoa:=lk (α:=HK) [(15103,me [(1,.v (.sl jk)),vp 2 0,vp 4 1,vp 5 2,vb 47] [.box 126 [.v Y_api_Rx],.box 173 [.v jk],.box 173 [.v jk]] 3),(241658,me [vp 2 0,vp 4 1,vp 5 2,vp 6 3] [.box 126 [.v Y_api_Rx],.box 173 [.v jk],.box 173 [.v jk],.box 173 [.v jk]] 4),(241659,me [vp 4 0,vp 6 1] [.box 173 [.v jk],.box 173 [.v jk]] 2)]
theorem zi7(nn:Nat):jz 187 ⟨[Y_api_Rx,(.sl jk)],jk,λt=>Jb nn (t.1) (t.2)⟩:=mk1 Tryz.func187 nn 0 [(0,[48,49])] [] [] [] itn zoa rn gn (tc (zoh nn) (tc (zo5 nn) tn)) (by kernel_rfl) λt=>by kernel_rfl
noncomputable def Qa(nn:Nat)(a0:(List ji)):Option jg:=J (σ:=jg×jg) (λ(a,b)=>some b) λc=>jb (Qw nn a0) λd=>ifB (decide (¬d=0)) (c ((false,0,0,false,⟨List.replicate 4 0,wd6⟩,⟨List.replicate 4 0,wd6⟩,()),(false,0,0,false,⟨List.replicate 4 0,wd6⟩,⟨List.replicate 4 0,wd6⟩,()))) (jm (σ:=(List ji)×Int×Int×jg×(List jg)) (λ(e,f,g,h,i)j=>ifB (decide (g<f)) (jb (atL e g) λk=>J (σ:=Int×(List ji)×Int×Int×jg×(List jg)×ji) (λ(l,m,n,o,p,q,r)=>jb (some (w64 ((q.length:Int)-l))) λu=>jb (jb3 q u) λv=>jb (J5 nn (q.drop v)) λw=>jb (Jb nn r w) λx=>jb (Zi q u) λy=>jb (apO 96 y [x]) λz=>jb (some (w64 (o+1))) λb0=>j (m,n,b0,p,z)) λs=>J (σ:=Int×(List ji)×Int×Int×Int×Bool×jg×(List jg)×ji) (λ(b1,b2,b3,b4,b5,b6,b7,b8,b9)=>ifB b6 (s (2,b2,b3,b4,b7,b8,b9)) (J (σ:=Int×(List ji)×Int×Int×Bool×jg×(List jg)×ji) (λ(c1,c2,c3,c4,c5,c6,c7,c8)=>ifB c5 (s (1,c2,c3,c4,c6,c7,c8)) (s (c1,c2,c3,c4,c6,c7,c8))) λc9=>jb (some (decide (b5=5))) λd0=>ifB d0 (c9 (b1,b2,b3,b4,d0,b7,b8,b9)) (jb (some (decide (b5=6))) λd1=>ifB d1 (c9 (b1,b2,b3,b4,d1,b7,b8,b9)) (jb (some (decide (b5=7))) λd2=>c9 (b1,b2,b3,b4,d2,b7,b8,b9))))) λc0=>jb (some (decide (k.1=3))) λd3=>ifB d3 (c0 (0,e,f,g,k.1,d3,h,i,k)) (jb (some (decide (k.1=4))) λd4=>c0 (0,e,f,g,k.1,d4,h,i,k))) (jb (qu i.length 0) λd5=>jb (atL i d5) λd6=>c ((false,0,0,false,⟨List.replicate 4 0,wd6⟩,⟨List.replicate 4 0,wd6⟩,()),d6))) nn (a0,(a0.length:Int),0,(false,0,0,false,⟨List.replicate 4 0,wd6⟩,⟨List.replicate 4 0,wd6⟩,()),[]))
noncomputable def zs4:=lk (α:=HK) [(6,me [vp 2 0,vp 3 1] [.box 173 [.v jk],.box 173 [.v jk]] 2)]
noncomputable def zlj:=lk (α:=HK) [(250,me [(1,.fn 187 [] []),vp 4 0,vo 7 1,(17,.v (.sl Y_api_Rx)),vi 18,vi 19] [.box 173 [.v jk],.row 173 jk] 2),(128205,me [(1,.fn 187 [] []),vp 4 0,vo 7 1,vp 9 2,vi 10,(17,.v (.sl Y_api_Rx)),vi 18,vi 19] [.box 173 [.v jk],.row 173 jk,.box 126 [.v Y_api_Rx]] 3),(256410,me [(1,.fn 187 [] []),vp 4 0,vo 7 1,vp 9 2,vi 10,(17,.v (.sl Y_api_Rx)),vi 18,vi 19,vi 24,vb 25] [.box 173 [.v jk],.row 173 jk,.box 126 [.v Y_api_Rx]] 3),(1025643,me [(1,.fn 187 [] []),vp 4 0,vo 7 1,vp 9 2,vi 10,(17,.v (.sl Y_api_Rx)),vi 18,vi 19,vb 28] [.box 173 [.v jk],.row 173 jk,.box 126 [.v Y_api_Rx]] 3)]
theorem zl9(nn:Nat):jz 147 ⟨[(.sl Y_api_Rx)],jk,λt=>Qa nn t⟩:=mk1 Tryz.func147 nn 9 [(1,[26,27,29,30,31,35,49])] [(1,[(47,.told jk)])] [] [1001157] (itc 650186 Tryz.func186 zlj 1 [] itn (by kernel_rfl)) zs4 rn (gc (Jr nn) gn) (tc (zdg nn) (tc (zi7 nn) tn)) (by kernel_rfl) λt=>by kernel_rfl
noncomputable def Qh(nn:Nat)(a0:(List ji)):Option Int:=jb (Qa nn a0) λa=>ifB (!a.1) (some (-1)) (some a.2.1)
theorem zgv(nn:Nat):jz 99 ⟨[(.sl Y_api_Rx)],I6,λt=>Qh nn t⟩:=mk1 Tryz.func99 nn 0 [] [] [] [] itn h0 rn gn (tc (zl9 nn) tn) (by kernel_rfl) λt=>by kernel_rfl
noncomputable def vd(nn:Nat)(a0:(List ji)):Option Bool:=jb (Qh nn a0) λa=>some (decide (a=0))
theorem zgt(nn:Nat):jz 61 ⟨[(.sl Y_api_Rx)],.bool,λt=>vd nn t⟩:=mk1 Tryz.func61 nn 0 [] [] [] [] itn h0 rn gn (tc (zgv nn) tn) (by kernel_rfl) λt=>by kernel_rfl
noncomputable def Jp(nn:Nat)(a0:(Option Jk)):Option jc:=J (λ(a:jc)=>some a) λb=>jb (a0) λc=>jm (σ:=Int×Int×Int×Int×(Option Jk)×jc) (λ(d,e,f,g,h,i)j=>ifB (decide (g<f)) (jb (h) λk=>jb (atL k.1.1 g) λl=>jb (vd nn l.2.1) λm=>ifB (!(!m)) (b (d,g,e,())) (jb (some (w64 (g+1))) λn=>j (d,e,f,n,h,i))) (b (0,0,0,()))) nn (10,0,(c.1.1.length:Int),0,a0,(0,0,0,()))
noncomputable def zlm:=lk (α:=HK) [(6,me [vp 2 0] [.box 36 [.v jd]] 1)]
noncomputable def zhp:=lk (α:=HK) [(26,me [vi 1,vi 2,(3,.fn 60 [] [.pt 0 0]),vp 8 1,vi 10,vi 11] [.box 67 [.v (.ref Jj)],.box 36 [.v jd]] 2)]
theorem zhw(nn:Nat):jz 58 ⟨[(.ref Jj)],jd,λt=>Jp nn t⟩:=mk1 Tryz.func58 nn 9 [(1,[22])] [] [] [] (itc 710059 Tryz.func59 zhp 1 [] (itc 10002580060 Tryz.func60 h0 2 [] itn (by kernel_rfl)) (by kernel_rfl)) zlm rn gn (tc (zgt nn) tn) (by kernel_rfl) λt=>by kernel_rfl
noncomputable def Jv(nn:Nat)(a0:(Option Jk)):Option jc:=jb (a0) λa=>jb (vq nn a.1) λb=>J (λ(c:jc)=>some c) λd=>jm (σ:=Int×Int×Int×Int×(List Bool)×jc) (λ(e,f,g,h,i,j)k=>ifB (decide (h<g)) (jb (atL i h) λl=>ifB (!l) (d (e,h,f,())) (jb (some (w64 (h+1))) λm=>k (e,f,g,m,i,j))) (d (0,0,0,()))) nn (13,0,(b.length:Int),0,b,(0,0,0,()))
noncomputable def zle:=lk (α:=HK) [(14,me [vp 2 0] [.box 36 [.v jd]] 1)]
noncomputable def zhj:=lk (α:=HK) [(26,me [vi 1,vi 2,(3,.fn 64 [] [.pt 0 0]),vp 8 1,vi 10,vi 11] [.box 42 [.v LB],.box 36 [.v jd]] 2)]
theorem zho(nn:Nat):jz 62 ⟨[(.ref Jj)],jd,λt=>Jv nn t⟩:=mk1 Tryz.func62 nn 9 [(1,[22])] [] [] [] (itc 1310059 Tryz.func59 zhj 1 [] (itc 10002580064 Tryz.func64 h0 2 [] itn (by kernel_rfl)) (by kernel_rfl)) zle rn gn (tc (zcr nn) tn) (by kernel_rfl) λt=>by kernel_rfl
noncomputable def Qm(nn:Nat)(a0:je)(a1:(List Bool)):Option Bool:=J (λ(a:Bool)=>some a) λb=>jb (some (!a0.1)) λc=>ifB c (b true) (jb (atL a1 a0.2.1) λd=>b d)
noncomputable def zqc:=lk (α:=HK) [(6,me [vb 4] [] 0)]
theorem zj2(nn:Nat):jz 103 ⟨[Y_api_Item,LB],.bool,λt=>Qm nn (t.1) (t.2)⟩:=mk1 Tryz.func103 nn 0 [(0,[7])] [] [] [] itn zqc rn gn tn (by kernel_rfl) λt=>by kernel_rfl
noncomputable def Q9(nn:Nat)(a0:ja):Option (List Bool):=J (λ(a:(List Bool))=>some a) λb=>jb (v7 nn a0) λc=>ifB (!c) (b []) (jb (some (a0.2.1.length:Int)) λd=>jb (mkO 1 d) λe=>jm (σ:=(List jf)×Bool×(List Bool)) (λ(f,g,h)i=>ifB g (jm (σ:=(List jf)×Bool×(List jf)×Int×Int×(List Bool)) (λ(j,k,l,m,n,o)p=>ifB (decide (n<m)) (jb (atL l n) λq=>J (σ:=(List jf)×Bool×(List jf)×Int×Int×(List Bool)) (λ(r,s,u,v,w,x)=>jb (some (w64 (w+1))) λz=>p (r,s,u,v,z,x)) λy=>jb (qu o.length q.1) λb0=>jb (atL o b0) λb1=>ifB b1 (y (j,k,l,m,n,o)) (jm (σ:=(List je)×Int×Int×(List Bool)×jf) (λ(b2,b3,b4,b5,b6)b7=>ifB (decide (b4<b3)) (jb (atL b2 b4) λb8=>jb (Qm nn b8 b5) λb9=>ifB (!b9) (y (j,k,l,m,n,b5)) (jb (some (w64 (b4+1))) λc0=>b7 (b2,b3,c0,b5,b6))) (jb (qu b5.length b6.1) λc1=>jb (Yc b5 c1 true) λc2=>y (j,true,l,m,n,c2))) nn (q.2.1,(q.2.1.length:Int),0,o,q))) (i (j,k,o))) nn (f,false,f,(f.length:Int),0,h)) (b h)) nn (a0.2.2.1,true,(List.replicate e false)))
noncomputable def zx7:=lk (α:=HK) [(6,me [vo 2 0] [.row 4 .bool] 1)]
noncomputable def zob:=lk (α:=HK) [(6,me [(0,.v (.sl Y_api_Prod)),(1,.fn 148 [] [.pt 0 0,.pt 2 0]),vb 4] [.box 42 [.own 1],.row 4 .bool,.box 142 [.fn 103 [] []]] 3),(406,me [(0,.v (.sl Y_api_Prod)),(1,.fn 148 [] [.pt 0 0,.pt 2 0]),vb 4,(8,.v (.sl Y_api_Prod)),vi 9,vi 10] [.box 42 [.own 1],.row 4 .bool,.box 142 [.fn 103 [] []]] 3),(26009,me [(0,.v (.sl Y_api_Prod)),(1,.fn 148 [] [.pt 0 0,.pt 2 0]),vb 4,(8,.v (.sl Y_api_Prod)),vi 9,vi 10] [.box 42 [.own 1],.row 4 .bool,.box 142 [.fn 103 [] []]] 3)]
noncomputable def zo6:=lk (α:=HK) [(58,me [vp 1 0,vp 2 2,vp 3 3,(13,.v (.sl Y_api_Item)),vi 14,vi 15] [.box 42 [.own 1],.row 4 .bool,.box 142 [.fn 103 [] []],.box 66 [.v Y_api_Prod]] 4)]
theorem zoi(nn:Nat):FFOk 66 ⟨[Y_api_Grammar],4,.bool,λt=>Q9 nn t⟩:=mk2 Tryz.func66 nn 9 [(1,[11]),(2,[20]),(3,[24])] [] [] [] (itc 650102 Tryz.func102 h0 1 [] (itc 10002590100 Tryz.func100 zob 2 [] (itc 20003860148 Tryz.func148 zo6 3 [] itn (by kernel_rfl)) (by kernel_rfl)) (by kernel_rfl)) zx7 rn gn (tc (yn nn) (tc (zj2 nn) tn)) (by kernel_rfl) λt=>by kernel_rfl
theorem zn9(nn:Nat):jz 66 ⟨[Y_api_Grammar],LB,λt=>Q9 nn t⟩:=(zoi nn).pure
noncomputable def Jo(nn:Nat)(a0:(Option Jk)):Option jc:=jb (a0) λa=>jb (Q9 nn a.1) λb=>J (λ(c:jc)=>some c) λd=>jm (σ:=Int×Int×Int×Int×(List Bool)×jc) (λ(e,f,g,h,i,j)k=>ifB (decide (h<g)) (jb (atL i h) λl=>ifB (!l) (d (e,h,f,())) (jb (some (w64 (h+1))) λm=>k (e,f,g,m,i,j))) (d (0,0,0,()))) nn (14,0,(b.length:Int),0,b,(0,0,0,()))
noncomputable def zlx:=lk (α:=HK) [(14,me [vp 2 0] [.box 36 [.v jd]] 1)]
noncomputable def zhg:=lk (α:=HK) [(26,me [vi 1,vi 2,(3,.fn 67 [] [.pt 0 0]),vp 8 1,vi 10,vi 11] [.box 42 [.v LB],.box 36 [.v jd]] 2)]
theorem zhs(nn:Nat):jz 65 ⟨[(.ref Jj)],jd,λt=>Jo nn t⟩:=mk1 Tryz.func65 nn 9 [(1,[22])] [] [] [] (itc 1310059 Tryz.func59 zhg 1 [] (itc 10002580067 Tryz.func67 h0 2 [] itn (by kernel_rfl)) (by kernel_rfl)) zlx rn gn (tc (zn9 nn) tn) (by kernel_rfl) λt=>by kernel_rfl
noncomputable def Ve(nn:Nat)(a0:(Option Jk)):Option jc:=jb (a0) λa=>jb (y6 nn a.1) λb=>some b.1
theorem zhh(nn:Nat):jz 68 ⟨[(.ref Jj)],jd,λt=>Ve nn t⟩:=mk1 Tryz.func68 nn 0 [] [] [] [] itn h0 rn gn (tc (zll nn) tn) (by kernel_rfl) λt=>by kernel_rfl
noncomputable def Zo(nn:Nat)(a0:Int):Option Bool:=some (decide (¬a0=a0))
theorem zhr(nn:Nat):jz 231 ⟨[I6],.bool,λt=>Zo nn t⟩:=mk1 Tryz.func231 nn 0 [] [] [] [] itn h0 rn gn tn (by kernel_rfl) λt=>by kernel_rfl
noncomputable def V4(nn:Nat)(a0:Int)(a1:Int):Option Bool:=J (λ(a:Bool)=>some a) λb=>jb (Zo nn a0) λc=>ifB c (jb (Zo nn a1) λd=>ifB (!d) (b true) (b (decide (a0<a1)))) (b (decide (a0<a1)))
noncomputable def zns:=lk (α:=HK) [(6,me [vb 4] [] 0)]
theorem zib(nn:Nat):jz 217 ⟨[I6,I6],.bool,λt=>V4 nn (t.1) (t.2)⟩:=mk1 Tryz.func217 nn 0 [] [] [] [] itn zns rn gn (tc (zhr nn) tn) (by kernel_rfl) λt=>by kernel_rfl
noncomputable def yj(nn:Nat)(a0:(List Int))(a1:(List Int)):Option (List Int):=jb (small7 a0 a0) λa=>jb (apO 8 a a1) λb=>jb (small7 b (Zd b)) λc=>jb (small7 c (Qj c)) λd=>some d
theorem zn1(nn:Nat):FFOk 215 ⟨[L6,L6],3,I6,λt=>yj nn (t.1) (t.2)⟩:=mk2 Tryz.func215 nn 0 [] [] [] [] itn h0 rn gn tn (by kernel_rfl) λt=>by kernel_rfl
theorem zoy(nn:Nat):jz 215 ⟨[L6,L6],L6,λt=>yj nn (t.1) (t.2)⟩:=(zn1 nn).pure
noncomputable def Qq(nn:Nat)(a0:(List ji)):Option (Option zr1):=jb (Qw nn a0) λa=>ifB (decide (¬a=0)) (some none) (jm (σ:=(List ji)×Int×Int×Bool×Int×(List (Arr 4 Int))×(List (List Int))×(List Int)×(List Int)×(List jq)) (λ(b,c,d,e,f,g,h,i,j,k)l=>ifB (decide (d<c)) (jb (atL b d) λm=>J (σ:=(List ji)×Int×Int×Bool×Int×jq×(List (Arr 4 Int))×(List (List Int))×(List Int)×(List Int)×(List jq)) (λ(n,o,p,q,r,s,u,v,w,x,y)=>jb (apO 64 y [s]) λb0=>jb (some (w64 (p+1))) λb1=>l (n,o,b1,q,r,u,v,w,x,b0)) λz=>ifB (decide (m.1=1)) (jb (some (g.length:Int)) λb2=>jb (apO 32 g [m.2.1]) λb3=>jb (apO 24 h [[]]) λb4=>z (b,c,d,e,f,(([b2],[b2],false,()),1,()),b3,b4,i,j,k)) (ifB (decide (m.1=2)) (z (b,c,d,e,f,(([],[],true,()),0,()),g,h,i,j,k)) (ifB (decide (m.1=3)) (jb (qu k.length (w64 ((k.length:Int)-1))) λb5=>jb (atL k b5) λb6=>jb (Zi k (w64 ((k.length:Int)-1))) λb7=>jb (qu b7.length (w64 ((b7.length:Int)-1))) λb8=>jb (atL b7 b8) λb9=>jb (Zi b7 (w64 ((b7.length:Int)-1))) λc0=>jm (σ:=(List Int)×(List Int)×Int×Int×Bool×Int×(List (Arr 4 Int))×(List (List Int))×(List Int)×(List Int)) (λ(c1,c2,c3,c4,c5,c6,c7,c8,c9,d0)d1=>ifB (decide (c4<c3)) (jb (atL c2 c4) λd2=>jb (qu c8.length d2) λd3=>jb (atL c8 d3) λd4=>jb (yj nn d4 c1) λd5=>jb (qu c8.length d2) λd6=>jb (Yc c8 d6 d5) λd7=>jb (some (w64 (c4+1))) λd8=>d1 (c1,c2,c3,d8,c5,c6,c7,d7,c9,d0)) (J (σ:=Bool×Int×(List (Arr 4 Int))×(List (List Int))×(List Int)×(List Int)×jq×jq×Bool×Int×jq×(List Int)×(List Int)) (λ(d9,e0,e1,e2,e3,e4,e5,e6,e7,e8,e9,f0,f1)=>J (σ:=Bool×Int×(List (Arr 4 Int))×(List (List Int))×(List Int)×(List Int)×jq×jq×Bool×Int×jq×(List Int)×(List Int)) (λ(f3,f4,f5,f6,f7,f8,f9,g0,g1,g2,g3,g4,g5)=>J (σ:=Bool×Int×(List (Arr 4 Int))×(List (List Int))×(List Int)×(List Int)×Bool×Int×jq×(List Int)×(List Int)) (λ(g7,g8,g9,h0,h1,h2,h3,h4,h5,h6,h7)=>z (b,c,d,g7,g8,h5,g9,h0,h1,h2,c0)) λh8=>ifB g0.1.2.2.1 (jb (yj nn f9.1.2.1 g0.1.2.1) λh9=>h8 (f3,f4,f5,f6,f7,f8,g1,g2,((g3.1.1,h9,g3.1.2.2.1,()),g3.2.1,()),g4,g5)) (h8 (f3,f4,f5,f6,f7,f8,g1,g2,g3,g4,g5))) λg6=>ifB e5.1.2.2.1 (jb (yj nn e5.1.1 e6.1.1) λi0=>g6 (d9,e0,e1,e2,e3,e4,e5,e6,e7,e8,((i0,e9.1.2.1,e9.1.2.2.1,()),e9.2.1,()),f0,f1)) (g6 (d9,e0,e1,e2,e3,e4,e5,e6,e7,e8,e9,f0,f1))) λf2=>ifB b9.1.2.2.1 (f2 (c5,c6,c7,c8,c9,d0,b9,b6,false,0,((b9.1.1,b6.1.2.1,b6.1.2.2.1,()),w64 (b9.2.1+b6.2.1),()),[],[])) (f2 (c5,c6,c7,c8,c9,d0,b9,b6,false,0,((b9.1.1,b6.1.2.1,false,()),w64 (b9.2.1+b6.2.1),()),[],[])))) nn (b6.1.1,b9.1.2.1,(b9.1.2.1.length:Int),0,e,f,g,h,i,j)) (ifB (decide (m.1=4)) (jb (qu k.length (w64 ((k.length:Int)-1))) λi1=>jb (atL k i1) λi2=>jb (Zi k (w64 ((k.length:Int)-1))) λi3=>jb (qu i3.length (w64 ((i3.length:Int)-1))) λi4=>jb (atL i3 i4) λi5=>jb (Zi i3 (w64 ((i3.length:Int)-1))) λi6=>J (σ:=(List ji)×Int×Int×Bool×Int×jq×(List (Arr 4 Int))×(List (List Int))×(List Int)×(List Int)×(List jq)) (λ(i7,i8,i9,j0,j1,j2,j3,j4,j5,j6,j7)=>z (i7,i8,i9,j0,j1,j2,j3,j4,j5,j6,j7)) λj8=>jb (yj nn i5.1.1 i2.1.1) λj9=>jb (yj nn i5.1.2.1 i2.1.2.1) λk0=>ifB i5.1.2.2.1 (j8 (b,c,d,e,f,((j9,k0,true,()),w64 (i5.2.1+i2.2.1),()),g,h,i,j,i6)) (j8 (b,c,d,e,f,((j9,k0,i2.1.2.2.1,()),w64 (i5.2.1+i2.2.1),()),g,h,i,j,i6))) (jb (qu k.length (w64 ((k.length:Int)-1))) λk1=>jb (atL k k1) λk2=>jb (Zi k (w64 ((k.length:Int)-1))) λk3=>J (σ:=(List ji)×Int×Int×Bool×Int×ji×jq×(List (Arr 4 Int))×(List (List Int))×(List Int)×(List Int)×(List jq)) (λ(k4,k5,k6,k7,k8,k9,l0,l1,l2,l3,l4,l5)=>J (σ:=(List ji)×Int×Int×Bool×Int×jq×(List (Arr 4 Int))×(List (List Int))×(List Int)×(List Int)×(List jq)) (λ(l7,l8,l9,m0,m1,m2,m3,m4,m5,m6,m7)=>z (l7,l8,l9,m0,m1,m2,m3,m4,m5,m6,m7)) λm8=>ifB l0.1.2.2.1 (m8 (k4,k5,k6,k7,k8,((l0.1.1,l0.1.2.1,true,()),l0.2.1,()),l1,l2,l3,l4,l5)) (m8 (k4,k5,k6,k7,k8,((l0.1.1,l0.1.2.1,decide (¬k9.1=6),()),l0.2.1,()),l1,l2,l3,l4,l5))) λl6=>ifB (decide (¬m.1=7)) (jm (σ:=(List Int)×(List Int)×Int×Int×Bool×Int×(List (Arr 4 Int))×(List (List Int))×(List Int)×(List Int)) (λ(m9,n0,n1,n2,n3,n4,n5,n6,n7,n8)n9=>ifB (decide (n2<n1)) (jb (atL n0 n2) λo0=>jb (qu n6.length o0) λo1=>jb (atL n6 o1) λo2=>jb (yj nn o2 m9) λo3=>jb (qu n6.length o0) λo4=>jb (Yc n6 o4 o3) λo5=>jb (some (w64 (n2+1))) λo6=>n9 (m9,n0,n1,o6,n3,n4,n5,o5,n7,n8)) (l6 (b,c,d,n3,n4,m,k2,n5,n6,n7,n8,k3))) nn (k2.1.1,k2.1.2.1,(k2.1.2.1.length:Int),0,e,f,g,h,i,j)) (l6 (b,c,d,e,f,m,k2,g,h,i,j,k3))))))) (jb (qu k.length 0) λo7=>jb (atL k o7) λo8=>some (some (g,h,o8,())))) nn (a0,(a0.length:Int),0,false,0,[],[],[],[],[]))
noncomputable def z09:=lk (α:=HK) [(506,me [vp 3 0,vp 4 1,(5,.fn 212 [] [.pt 1 0]),(18,.v (.sl Y_api_Rx)),vi 19,vi 20] [.box 207 [.own 2,.own 3,.agg [.agg [.own 4,.own 5,.v .bool],.v I6]],.box 230 [.own 6],.row 97 (.arr 4 (.int .u64)),.row 31 L6,.row 3 I6,.row 3 I6,.row 205 qt] 7),(259277,me [vp 3 0,vp 4 1,(5,.fn 212 [] [.pt 1 0]),vp 8 2,(18,.v (.sl Y_api_Rx)),vi 19,vi 20] [.box 207 [.own 3,.own 4,.agg [.agg [.own 5,.own 6,.v .bool],.v I6]],.box 230 [.own 7],.box 205 [.v qt],.row 97 (.arr 4 (.int .u64)),.row 31 L6,.row 3 I6,.row 3 I6,.row 205 qt] 8),(265500157,me [vp 3 0,vp 4 1,(5,.fn 212 [] [.pt 1 0]),vp 8 2,(18,.v (.sl Y_api_Rx)),vi 19,vi 20] [.box 207 [.own 3,.own 4,.agg [.agg [.own 5,.own 6,.v .bool],.v I6]],.box 230 [.own 7],.box 205 [.v qt],.row 97 (.arr 4 (.int .u64)),.row 31 L6,.row 3 I6,.row 3 I6,.row 205 qt] 8),(265500159,me [vp 3 0,vp 4 1,(5,.fn 212 [] [.pt 1 0]),vp 7 2,vp 8 3,(18,.v (.sl Y_api_Rx)),vi 19,vi 20] [.box 207 [.own 4,.own 5,.agg [.agg [.own 6,.own 7,.v .bool],.v I6]],.box 230 [.own 8],.box 126 [.v Y_api_Rx],.box 205 [.v qt],.row 97 (.arr 4 (.int .u64)),.row 31 L6,.row 3 I6,.row 3 I6,.row 205 qt] 9),(531000319,me [vp 3 0,vp 4 1,(5,.fn 212 [] [.pt 1 0]),vp 8 2,(18,.v (.sl Y_api_Rx)),vi 19,vi 20] [.box 207 [.own 3,.own 4,.agg [.agg [.own 5,.own 6,.v .bool],.v I6]],.box 230 [.own 7],.box 205 [.v qt],.row 97 (.arr 4 (.int .u64)),.row 31 L6,.row 3 I6,.row 3 I6,.row 205 qt] 8)]
noncomputable def zps:=lk (α:=HK) [(14,me [vp 4 5,vp 5 6,vp 6 7,vp 7 8] [.box 207 [.own 1,.own 2,.agg [.agg [.own 3,.own 4,.v .bool],.v I6]],.row 97 (.arr 4 (.int .u64)),.row 31 L6,.row 3 I6,.row 3 I6,.box 205 [.v qt],.box 205 [.v qt],.box 205 [.agg [.own 9,.own 10,.v .bool],.v I6],.box 205 [.v qt],.row 3 I6,.row 3 I6] 11),(15,me [vp 4 5,vp 5 6,vp 6 7,vp 7 8] [.box 207 [.own 1,.own 2,.agg [.agg [.own 3,.own 4,.v .bool],.v I6]],.row 97 (.arr 4 (.int .u64)),.row 31 L6,.row 3 I6,.row 3 I6,.box 205 [.v qt],.box 205 [.v qt],.box 205 [.agg [.own 9,.own 10,.v .bool],.v I6],.box 205 [.v qt],.row 3 I6,.row 3 I6] 11),(31,me [vp 6 5,vp 7 6] [.box 207 [.own 1,.own 2,.agg [.agg [.own 3,.own 4,.v .bool],.v I6]],.row 97 (.arr 4 (.int .u64)),.row 31 L6,.row 3 I6,.row 3 I6,.box 205 [.agg [.own 7,.own 8,.v .bool],.v I6],.box 205 [.v qt],.row 3 I6,.row 3 I6] 9)]
noncomputable def zrl:=lk (α:=HK) [(6,me [vp 0 0,vl 2,vl 8,vi 9,vi 10] [.box 207 [.own 1,.own 2,.agg [.agg [.own 3,.own 4,.v .bool],.v I6]],.row 97 (.arr 4 (.int .u64)),.row 31 L6,.row 3 I6,.row 3 I6] 5)]
noncomputable def zp8:=lk (α:=HK) [(6,me [vp 0 0,vl 2,vl 8,vi 9,vi 10] [.box 207 [.own 1,.own 2,.agg [.agg [.own 3,.own 4,.v .bool],.v I6]],.row 97 (.arr 4 (.int .u64)),.row 31 L6,.row 3 I6,.row 3 I6] 5)]
theorem Y1(nn:Nat):jz 193 ⟨[(.sl Y_api_Rx)],(.ref zrm),λt=>Qq nn t⟩:=mk1 Tryz.func193 nn 9 [(0,[107]),(1,[10]),(5,[29]),(9,[29])] [(0,[(105,.told qt)]),(1,[(17,.told (.arr 4 (.int .u64))),(26,.told L6),(31,.told I6),(33,.told I6)])] [] [] (itc 10270213 Tryz.func213 h0 1 [1,2] (itc 12810212 Tryz.func212 h0 2 [1] (itc 13460212 Tryz.func212 h0 3 [1] (itc 13480214 Tryz.func214 zps 4 [] (itc 40000710216 Tryz.func216 zrl 5 [] (itc 14730212 Tryz.func212 h0 6 [1] (itc 14750212 Tryz.func212 h0 7 [1] (itc 7050212 Tryz.func212 h0 8 [1] (itc 8390216 Tryz.func216 zp8 9 [] itn (by kernel_rfl)) (by kernel_rfl)) (by kernel_rfl)) (by kernel_rfl)) (by kernel_rfl)) (by kernel_rfl)) (by kernel_rfl)) (by kernel_rfl)) (by kernel_rfl)) z09 rn gn (tc (zdg nn) (tc (zoy nn) tn)) (by kernel_rfl) λt=>by kernel_rfl
noncomputable def zcy(nn:Nat)(a0:(List ji)):Option (List Int):=jb (Qq nn a0) λa=>ifB (!a.isNone) (jb (a) λb=>some b.2.2.1.1.2.1) (some [])
theorem zra(nn:Nat):jz 157 ⟨[(.sl Y_api_Rx)],L6,λt=>zcy nn t⟩:=mk1 Tryz.func157 nn 0 [] [] [] [] itn h0 rn gn (tc (Y1 nn) tn) (by kernel_rfl) λt=>by kernel_rfl
noncomputable def zcz(nn:Nat)(a0:(List ji)):Option (List (Arr 4 Int)):=jb (Qq nn a0) λa=>ifB (!a.isNone) (jb (a) λb=>some b.1) (some [])
theorem zse(nn:Nat):jz 158 ⟨[(.sl Y_api_Rx)],(.sl (.arr 4 (.int .u64))),λt=>zcz nn t⟩:=mk1 Tryz.func158 nn 0 [] [] [] [] itn h0 rn gn (tc (Y1 nn) tn) (by kernel_rfl) λt=>by kernel_rfl
noncomputable def Vn(nn:Nat)(a0:Int):Option Bool:=some (decide (¬a0=a0))
theorem zem(nn:Nat):jz 218 ⟨[I6],.bool,λt=>Vn nn t⟩:=mk1 Tryz.func218 nn 0 [] [] [] [] itn h0 rn gn tn (by kernel_rfl) λt=>by kernel_rfl
noncomputable def ve(nn:Nat)(a0:(List Int))(a1:Int):Option (Int×Bool×Unit):=jb (some (a0.length:Int)) λa=>jm (σ:=(List Int)×Int×Int×Int×Int) (λ(b,c,d,e,f)g=>ifB (decide (e<f)) (J (σ:=(List Int)×Int×Int×Int×Int) (λ(h,i,j,k,l)=>g (h,i,j,k,l)) λm=>jb (zof .u64 (wr .u64 (w64 (e+f))) 1) λn=>jb (some (wr .i64 n)) λo=>jb (atL b o) λp=>jb (V4 nn p c) λq=>ifB q (jb (some (w64 (o+1))) λr=>m (b,c,d,r,f)) (m (b,c,d,e,o))) (J (σ:=Int×Bool) (λ(s,u)=>some (s,u,())) λv=>jb (some (decide (e<d))) λw=>ifB w (jb (atL b e) λx=>jb (some (decide (x=c))) λy=>ifB y (v (e,true)) (jb (atL b e) λz=>jb (Vn nn z) λb0=>ifB b0 (jb (Vn nn c) λb1=>v (e,b1)) (v (e,false)))) (v (e,false)))) nn (a0,a1,a,0,a)
noncomputable def Yq:=lk (α:=HK) [(60,me [vl 0,vi 1,vi 6,vi 7,vi 8] [] 0),(62,me [vi 4,vb 5] [] 0),(241,me [vl 0,vi 1,vi 6,vi 7,vi 8] [] 0)]
theorem Vu(nn:Nat):jz 194 ⟨[L6,I6],(.tup (.cons I6 (.cons .bool .nil))),λt=>ve nn (t.1) (t.2)⟩:=mk1 Tryz.func194 nn 0 [(0,[11,21,29,34,41])] [] [] [] itn Yq rn gn (tc (zib nn) (tc (zem nn) tn)) (by kernel_rfl) λt=>by kernel_rfl
noncomputable def zfg(nn:Nat)(a0:(List Int))(a1:Int):Option Bool:=jb (ve nn a0 a1) λa=>some a.2.1
theorem zs0(nn:Nat):jz 159 ⟨[L6,I6],.bool,λt=>zfg nn (t.1) (t.2)⟩:=mk1 Tryz.func159 nn 0 [] [] [] [] itn h0 rn gn (tc (Vu nn) tn) (by kernel_rfl) λt=>by kernel_rfl
noncomputable def Zs(nn:Nat)(a0:(List ji))(a1:Int):Option (List Int):=jb (Qq nn a0) λa=>J (σ:=Int×(Option zr1)×Bool) (λ(b,c,d)=>ifB d (jb (c) λf=>jb (atL f.2.1 b) λg=>some g) (some [])) λe=>jb (some (!a.isNone)) λh=>ifB h (ifB (decide (0<=a1)) (jb (a) λi=>e (a1,a,decide (a1<i.2.2.1.2.1))) (e (a1,a,false))) (e (a1,a,false))
noncomputable def zta:=lk (α:=HK) [(26,me [vi 1,(5,.v (.ref zrm)),vb 22] [] 0)]
theorem zl1(nn:Nat):jz 161 ⟨[(.sl Y_api_Rx),I6],L6,λt=>Zs nn (t.1) (t.2)⟩:=mk1 Tryz.func161 nn 0 [(0,[9])] [] [] [] itn zta rn gn (tc (Y1 nn) tn) (by kernel_rfl) λt=>by kernel_rfl
noncomputable def Qb(nn:Nat)(a0:(List Int))(a1:Int):Option (List Int):=jb (some (a0.length:Int)) λa=>jb (mkO 8 a) λb=>jm (σ:=(List Int)×Int×Int×Int×(List Int)) (λ(c,d,e,f,g)h=>ifB (decide (f<e)) (jb (atL c f) λi=>jb (qu g.length f) λj=>jb (Yc g j (w64 (i+d))) λk=>jb (some (w64 (f+1))) λl=>h (c,d,e,l,k)) (some g)) nn (a0,a1,(a0.length:Int),0,(List.replicate b (0:Int)))
noncomputable def zs3:=lk (α:=HK) [(58,me [vl 0,vi 1,vo 5 0,vi 11,vi 12] [.row 3 I6] 1)]
theorem zlg(nn:Nat):FFOk 160 ⟨[L6,I6],3,I6,λt=>Qb nn (t.1) (t.2)⟩:=mk2 Tryz.func160 nn 0 [(0,[8,24])] [] [] [] itn zs3 rn gn tn (by kernel_rfl) λt=>by kernel_rfl
theorem zmo(nn:Nat):jz 160 ⟨[L6,I6],L6,λt=>Qb nn (t.1) (t.2)⟩:=(zlg nn).pure
noncomputable def zbf(nn:Nat)(a0:(List ji)):Option (List Int):=jb (Qq nn a0) λa=>ifB (!a.isNone) (jb (a) λb=>some b.2.2.1.1.1) (some [])
theorem zot(nn:Nat):jz 162 ⟨[(.sl Y_api_Rx)],L6,λt=>zbf nn t⟩:=mk1 Tryz.func162 nn 0 [] [] [] [] itn h0 rn gn (tc (Y1 nn) tn) (by kernel_rfl) λt=>by kernel_rfl
noncomputable def zat(nn:Nat)(a0:(List qg)):Option jt:=jm (σ:=(List qg)×Int×Int×(List (Arr 4 Int))×(List Int)×(List Bool)×(List (List Int))×(List Int)×(List (Arr 4 Int))×(List Int)×(List Bool)×(List (List Int))×(List Int)) (λ(a,b,c,d,e,f,g,h,i,j,k,l,m)n=>ifB (decide (c<b)) (jb (atL a c) λo=>jb (some (i.length:Int)) λp=>jb (zcy nn o.2.1) λq=>jb (zcz nn o.2.1) λr=>jm (σ:=(List qg)×Int×(List ji)×Int×(List Int)×Int×Int×(List (Arr 4 Int))×Int×Int×(List (Arr 4 Int))×(List Int)×(List Bool)×(List (List Int))×(List Int)×(List (Arr 4 Int))×(List Int)×(List Bool)×(List (List Int))×(List Int)) (λ(s,u,v,w,x,y,z,b0,b1,b2,b3,b4,b5,b6,b7,b8,b9,c0,c1,c2)c3=>ifB (decide (b2<b1)) (jb (atL b0 b2) λc4=>jb (apO 32 b8 [c4]) λc5=>jb (apO 8 b9 [u]) λc6=>jb (zfg nn x b2) λc7=>jb (apO 1 c0 [c7]) λc8=>jb (Zs nn v b2) λc9=>jb (Qb nn c9 w) λd0=>jb (apO 24 c1 [d0]) λd1=>jb (some (w64 (b2+1))) λd2=>c3 (s,u,v,w,x,y,z,b0,b1,d2,b3,b4,b5,b6,b7,c5,c6,c8,d1,c2)) (jb (zbf nn v) λd3=>jb (Qb nn d3 w) λd4=>jb (apO 8 c2 d4) λd5=>jb (some (w64 (z+1))) λd6=>n (s,y,d6,b3,b4,b5,b6,b7,b8,b9,c0,c1,d5))) nn (a,c,o.2.1,p,q,b,c,r,(r.length:Int),0,d,e,f,g,h,i,j,k,l,m)) (some (i,j,k,l,m,()))) nn (a0,(a0.length:Int),0,[],[],[],[],[],[],[],[],[],[])
noncomputable def z0w:=lk (α:=HK) [(58,me [(0,.v (.sl Y_api_Token)),vp 2 0,vp 3 1,vi 11,vi 12] [.box 61 [.own 2,.own 3,.own 4,.own 5,.own 6],.box 61 [.own 7,.own 8,.own 9,.own 10,.own 11],.row 97 (.arr 4 (.int .u64)),.row 3 I6,.row 4 .bool,.row 31 L6,.row 3 I6,.row 97 (.arr 4 (.int .u64)),.row 3 I6,.row 4 .bool,.row 31 L6,.row 3 I6] 12),(119610,me [(0,.v (.sl Y_api_Token)),vp 2 0,vp 3 1,vi 4,(5,.v (.sl Y_api_Rx)),vi 6,vl 7,vi 11,vi 12,(26,.v (.sl (.arr 4 (.int .u64)))),vi 27,vi 28] [.box 61 [.own 2,.own 3,.own 4,.own 5,.own 6],.box 61 [.own 7,.own 8,.own 9,.own 10,.own 11],.row 97 (.arr 4 (.int .u64)),.row 3 I6,.row 4 .bool,.row 31 L6,.row 3 I6,.row 97 (.arr 4 (.int .u64)),.row 3 I6,.row 4 .bool,.row 31 L6,.row 3 I6] 12)]
theorem zr4(nn:Nat):jz 105 ⟨[(.sl Y_api_Token)],ql,λt=>zat nn t⟩:=mk1 Tryz.func105 nn 0 [(0,[22,63,72])] [(0,[(36,.told (.arr 4 (.int .u64))),(42,.told I6),(50,.told .bool),(60,.told L6)])] [] [] itn z0w rn gn (tc (zra nn) (tc (zse nn) (tc (zs0 nn) (tc (zmo nn) (tc (zl1 nn) (tc (zot nn) tn)))))) (by kernel_rfl) λt=>by kernel_rfl
noncomputable def zbg(nn:Nat)(a0:(List Int)):Option Bool:=jm (σ:=(List Int)×Int×Int) (λ(a,b,c)d=>ifB (decide (c<b)) (jb (atL a c) λe=>jb (atL a (w64 (c+1))) λf=>ifB (decide (f<=e)) (some false) (jb (some (w64 (c+1))) λg=>d (a,b,g))) (some true)) nn (a0,w64 ((a0.length:Int)-1),0)
noncomputable def zxm:=lk (α:=HK) [(26,me [vl 0,vi 6,vi 7] [] 0)]
theorem zo0(nn:Nat):jz 211 ⟨[L6],.bool,λt=>zbg nn t⟩:=mk1 Tryz.func211 nn 0 [(0,[20])] [] [] [] itn zxm rn gn tn (by kernel_rfl) λt=>by kernel_rfl
noncomputable def Yp(nn:Nat)(a0:Int)(a1:(List (List Int))):Option Bool:=jm (σ:=Int×(List (List Int))×Int×Int) (λ(a,b,c,d)e=>ifB (decide (d<c)) (jb (atL b d) λf=>J (σ:=Int×(List (List Int))×Int×Int×Bool) (λ(g,h,i,j,k)=>ifB k (some false) (jb (some (w64 (j+1))) λm=>e (g,h,i,m))) λl=>jb (zbg nn f) λn=>jb (some (!n)) λo=>ifB o (l (a,b,c,d,true)) (jb (some (decide (0<(f.length:Int)))) λp=>ifB p (jb (atL f 0) λq=>jb (some (decide (q<0))) λr=>ifB r (l (a,b,c,d,true)) (jb (atL f (w64 ((f.length:Int)-1))) λs=>l (a,b,c,d,decide (a<=s)))) (l (a,b,c,d,false)))) (some true)) nn (a0,a1,(a1.length:Int),0)
noncomputable def zwx:=lk (α:=HK) [(26,me [vi 0,(7,.v M6),vi 8,vi 9] [] 0),(3378,me [vi 0,(7,.v M6),vi 8,vi 9,vb 36] [] 0)]
theorem zoc(nn:Nat):jz 190 ⟨[I6,M6],.bool,λt=>Yp nn (t.1) (t.2)⟩:=mk1 Tryz.func190 nn 0 [(0,[15,19,24,37])] [] [] [] itn zwx rn gn (tc (zo0 nn) tn) (by kernel_rfl) λt=>by kernel_rfl
noncomputable def J1(nn:Nat)(a0:jt):Option Bool:=jb (some (a0.1.length:Int)) λa=>J (σ:=Int×Bool×jt) (λ(b,c,d)=>ifB c (some false) (jm (σ:=Int×(List Int)×Int×Int×jt) (λ(f,g,h,i,j)k=>ifB (decide (i<h)) (jb (atL g i) λl=>ifB (decide (l<0)) (some false) (jb (some (w64 (i+1))) λm=>k (f,g,h,m,j))) (J (λ(n:Bool)=>some n) λo=>jb (Yp nn f [j.2.2.2.2.1]) λp=>ifB p (jb (Yp nn f j.2.2.2.1) λq=>o q) (o false))) nn (b,d.2.1,(d.2.1.length:Int),0,d))) λe=>jb (some (decide (¬(a0.2.1.length:Int)=a))) λr=>ifB r (e (a,true,a0)) (ifB (decide (¬(a0.2.2.1.length:Int)=a)) (e (a,true,a0)) (e (a,decide (¬(a0.2.2.2.1.length:Int)=a),a0)))
noncomputable def zw9:=lk (α:=HK) [(28,me [vp 1 0,vi 3,vb 27] [.box 61 [.v ql]] 1),(62,me [vb 2] [] 0),(122,me [vp 1 0,vi 3,vl 29,vi 30,vi 31] [.box 61 [.v ql]] 1)]
theorem V3(nn:Nat):jz 149 ⟨[ql],.bool,λt=>J1 nn t⟩:=mk1 Tryz.func149 nn 0 [(0,[8,13,37])] [(0,[(41,.told L6)])] [] [] itn zw9 rn gn (tc (zoc nn) tn) (by kernel_rfl) λt=>by kernel_rfl
noncomputable def ze3(nn:Nat)(a0:(Arr 4 Int))(a1:Int):Option Bool:=jb (zw3 .u8 a1 64) λa=>jb (qu 4 a) λb=>jb (atL a0.l b) λc=>jb (z1i .u8 a1 64) λd=>jb (z2k .u64 1 d) λe=>some (decide (¬(jcf .u64 c e)=0))
theorem ztm(nn:Nat):jz 204 ⟨[(.arr 4 (.int .u64)),U8],.bool,λt=>ze3 nn (t.1) (t.2)⟩:=mk1 Tryz.func204 nn 0 [] [] [] [] itn h0 rn gn tn (by kernel_rfl) λt=>by kernel_rfl
noncomputable def Y3(nn:Nat)(a0:(Arr 256 Int))(a1:(Arr 4 Int)):Option (Arr 256 Int):=jm (σ:=Int×(Arr 256 Int)×(Arr 4 Int)×(Arr 256 Int)×(List (zx×Int×Unit))) (λ(a,b,c,d,e)f=>ifB (decide (a<256)) (jb (qu 256 a) λg=>jb (atL b.l g) λh=>jb (ze3 nn c (wr .u8 a)) λi=>J (σ:=Int×Int×(Arr 256 Int)×(Arr 4 Int)×(Arr 256 Int)×(List (zx×Int×Unit))×zx) (λ(j,k,l,m,n,o,p)=>jb (some (Yj zep o p)) λr=>jb (qu 256 j) λs=>jb (zsu l s (gD 0 r)) λu=>jb (some (w64 (k+1))) λv=>f (v,u,m,n,o)) λq=>jb (some (Yj zep e (h,i,()))) λw=>ifB (!w.isSome) (jb (some (e.length:Int)) λx=>jb (some (zco zep e (h,i,()) (wr .u8 x))) λy=>q (a,a,b,c,d,y,(h,i,()))) (q (a,a,b,c,d,e,(h,i,())))) (some b)) nn (0,a0,a1,⟨List.replicate 256 0,wd6⟩,[])
noncomputable def zyl:=lk (α:=HK) [(58,me [vp 2 0,vp 3 1,vp 4 2,vo 5 3,vi 11] [.box 29 [.v (.arr 256 U8)],.box 97 [.v (.arr 4 (.int .u64))],.box 29 [.v (.arr 256 U8)],.obj (.mp Jx U8)] 4),(7475,me [vp 2 0,vp 3 1,vp 4 2,vo 5 3,vi 6,vp 7 4,vi 11] [.box 29 [.v (.arr 256 U8)],.box 97 [.v (.arr 4 (.int .u64))],.box 29 [.v (.arr 256 U8)],.obj (.mp Jx U8),.box 223 [.v Jx]] 5)]
theorem zfu(nn:Nat):jz 173 ⟨[(.arr 256 U8),(.arr 4 (.int .u64))],(.arr 256 U8),λt=>Y3 nn (t.1) (t.2)⟩:=mk1 Tryz.func173 nn 0 [(0,[40])] [] [] [] itn zyl rn gn (tc (ztm nn) tn) (by kernel_rfl) λt=>by kernel_rfl
noncomputable def Jz(nn:Nat)(a0:(Arr 256 Int)):Option Int:=jm (σ:=Int×(Arr 256 Int)×Int) (λ(a,b,c)d=>ifB (decide (c<256)) (jb (atL b.l c) λe=>jb (some (max a (w64 ((wr .i64 e)+1)))) λf=>jb (some (w64 (c+1))) λg=>d (f,b,g)) (some a)) nn (0,a0,0)
noncomputable def zwp:=lk (α:=HK) [(58,me [vi 3,(6,.v (.arr 256 U8)),vi 7] [] 0)]
theorem zfp(nn:Nat):jz 112 ⟨[(.arr 256 U8)],I6,λt=>Jz nn t⟩:=mk1 Tryz.func112 nn 0 [(0,[14,15])] [] [] [] itn zwp rn gn tn (by kernel_rfl) λt=>by kernel_rfl
noncomputable def zg8(nn:Nat)(a0:(List (Arr 4 Int))):Option ((Arr 256 Int)×Int×Unit):=jm (σ:=(List (Arr 4 Int))×Int×Int×(Arr 256 Int)×(Arr 256 Int)) (λ(a,b,c,d,e)f=>ifB (decide (c<b)) (jb (atL a c) λg=>jb (Y3 nn e g) λh=>jb (some (w64 (c+1))) λi=>f (a,b,i,d,h)) (jb (Jz nn e) λj=>some (e,j,()))) nn (a0,(a0.length:Int),0,⟨List.replicate 256 0,wd6⟩,⟨List.replicate 256 0,wd6⟩)
noncomputable def z64:=lk (α:=HK) [(58,me [vp 2 0,vp 4 1,(7,.v (.sl (.arr 4 (.int .u64)))),vi 8,vi 9] [.box 29 [.v (.arr 256 U8)],.box 29 [.v (.arr 256 U8)]] 2)]
theorem zxf(nn:Nat):jz 150 ⟨[(.sl (.arr 4 (.int .u64)))],(.tup (.cons (.arr 256 U8) (.cons I6 .nil))),λt=>zg8 nn t⟩:=mk1 Tryz.func150 nn 0 [(0,[16])] [] [] [] itn z64 rn gn (tc (zfp nn) (tc (zfu nn) tn)) (by kernel_rfl) λt=>by kernel_rfl
noncomputable def Zh(nn:Nat)(a0:(List Int)):Option (List UInt8):=jm (σ:=(List Int)×Int×Int×(List Int)) (λ(a,b,c,d)e=>ifB (decide (c<b)) (jb (atL a c) λf=>jm (σ:=Int×Int×(List Int)×Int×Int×(List Int)) (λ(g,h,i,j,k,l)m=>ifB (decide (0<=h)) (jb (zof .u64 (wr .u64 g) h) λn=>jb (apO 1 l [wr .u8 n]) λo=>jb (some (w64 (h-8))) λp=>m (g,p,i,j,k,o)) (jb (some (w64 (k+1))) λq=>e (i,j,q,l))) nn (f,56,a,b,c,d)) (jb (b2s d) λr=>some r)) nn (a0,(a0.length:Int),0,[])
noncomputable def z20:=lk (α:=HK) [(58,me [vo 3 0,vl 7,vi 8,vi 9] [.row 5 U8] 1),(14950,me [vo 3 0,vi 5,vi 6,vl 7,vi 8,vi 9] [.row 5 U8] 1)]
theorem zt3(nn:Nat):jz 152 ⟨[L6],.str,λt=>Zh nn t⟩:=mk1 Tryz.func152 nn 0 [(0,[16,25])] [(0,[(23,.told U8)])] [] [] itn z20 rn gn tn (by kernel_rfl) λt=>by kernel_rfl
noncomputable def Yv(nn:Nat)(a0:(Arr 256 Int))(a1:Int):Option (List Int):=jm (σ:=Int×Int×(Arr 256 Int)×(List Int)) (λ(a,b,c,d)e=>ifB (decide (b<256)) (J (σ:=Int×Int×(Arr 256 Int)×(List Int)) (λ(f,g,h,i)=>jb (some (w64 (g+1))) λk=>e (f,k,h,i)) λj=>jb (qu 256 b) λl=>jb (atL c.l l) λm=>ifB (decide ((wr .i64 m)=a)) (jb (apO 1 d [wr .u8 b]) λn=>j (a,b,c,n)) (j (a,b,c,d))) (some d)) nn (a1,0,a0,[])
noncomputable def zv4:=lk (α:=HK) [(58,me [vi 1,vp 2 0,vo 5 1,vi 7] [.box 29 [.v (.arr 256 U8)],.row 5 U8] 2),(934,me [vi 1,vp 2 0,vo 5 1,vi 7] [.box 29 [.v (.arr 256 U8)],.row 5 U8] 2)]
theorem znt(nn:Nat):FFOk 153 ⟨[(.arr 256 U8),I6],5,U8,λt=>Yv nn (t.1) (t.2)⟩:=mk2 Tryz.func153 nn 0 [(0,[21])] [(0,[(19,.told U8)])] [] [] itn zv4 rn gn tn (by kernel_rfl) λt=>by kernel_rfl
theorem zn2(nn:Nat):jz 153 ⟨[(.arr 256 U8),I6],(.sl U8),λt=>Yv nn (t.1) (t.2)⟩:=(znt nn).pure
noncomputable def zdb(nn:Nat)(a0:jt)(a1:(List Int))(a2:Int):Option (List Int):=jm (σ:=Int×(List Int)×Int×Int×jt×(List Int)) (λ(a,b,c,d,e,f)g=>ifB (decide (d<c)) (J (σ:=Int×(List Int)×Int×Int×jt×(List Int)) (λ(h,i,j,k,l,m)=>jb (some (w64 (k+1))) λo=>g (h,i,j,o,l,m)) λn=>jb (atL b d) λp=>jb (zw3 .u8 a 64) λq=>jb (atL e.1 p) λr=>jb (atL r.l q) λs=>jb (z1i .u8 a 64) λu=>jb (zof .u64 s u) λv=>ifB (decide (¬(jcf .u64 v 1)=0)) (jb (apO 8 f [p]) λw=>n (a,b,c,d,e,w)) (n (a,b,c,d,e,f))) (some f)) nn (a2,a1,(a1.length:Int),0,a0,[])
noncomputable def zty:=lk (α:=HK) [(58,me [(2,.v U8),vp 3 0,vo 7 1,vl 10,vi 11,vi 12] [.box 61 [.v ql],.row 3 I6] 2),(934,me [(2,.v U8),vp 3 0,vo 7 1,vl 10,vi 11,vi 12] [.box 61 [.v ql],.row 3 I6] 2)]
theorem zd1(nn:Nat):FFOk 191 ⟨[ql,L6,U8],3,I6,λt=>zdb nn (t.1) (t.2.1) (t.2.2)⟩:=mk2 Tryz.func191 nn 0 [(0,[33])] [(0,[(31,.told I6)])] [] [] itn zty rn gn tn (by kernel_rfl) λt=>by kernel_rfl
noncomputable abbrev Z6:=zdb
noncomputable def Yz(nn:Nat)(a0:jt)(a1:Int):Option (List Int):=jb (J1 nn a0) λa=>ifB (!a) (some []) (jb (Z6 nn a0 a0.2.2.2.2.1 a1) λb=>some b)
theorem zor(nn:Nat):FFOk 154 ⟨[ql,U8],3,I6,λt=>Yz nn (t.1) (t.2)⟩:=mk2 Tryz.func154 nn 0 [] [] [] [196] itn h0 rn (gc (zd1 nn) gn) (tc (V3 nn) tn) (by kernel_rfl) λt=>by kernel_rfl
theorem zov(nn:Nat):jz 154 ⟨[ql,U8],L6,λt=>Yz nn (t.1) (t.2)⟩:=(zor nn).pure
noncomputable def zmu(nn:Nat)(a0:jt)(a1:(List Int))(a2:Int):Option (List Int):=jm (σ:=Int×(List Int)×(List Int)×Int×Int×jt) (λ(a,b,c,d,e,f)g=>ifB (decide (e<d)) (J (σ:=Int×(List Int)×(List Int)×Int×Int×jt) (λ(h,i,j,k,l,m)=>jb (some (w64 (l+1))) λo=>g (h,i,j,k,o,m)) λn=>jb (atL c e) λp=>J (σ:=Int×(List Int)×Int×(List Int)×Int×Int×Bool×jt) (λ(q,r,s,u,v,w,x,y)=>ifB x (jb (atL y.2.2.2.1 s) λb0=>jb (zr nn r b0) λb1=>n (q,b1,u,v,w,y)) (n (q,r,u,v,w,y))) λz=>jb (some (decide (0<=p))) λb2=>ifB b2 (z (a,b,p,c,d,e,decide (p<(f.2.2.2.1.length:Int)),f)) (z (a,b,p,c,d,e,false,f))) (jb (Z6 nn f b a) λb3=>some b3)) nn (a2,[],a1,(a1.length:Int),0,a0)
noncomputable def z6f:=lk (α:=HK) [(58,me [(2,.v U8),vp 3 0,vl 7,vl 10,vi 11,vi 12] [.box 61 [.v ql]] 1),(934,me [(2,.v U8),vp 3 0,vl 7,vl 10,vi 11,vi 12] [.box 61 [.v ql]] 1),(7474,me [(2,.v U8),vp 3 0,vl 7,vi 9,vl 10,vi 11,vi 12,vb 24] [.box 61 [.v ql]] 1)]
theorem zwr(nn:Nat):FFOk 192 ⟨[ql,L6,U8],3,I6,λt=>zmu nn (t.1) (t.2.1) (t.2.2)⟩:=mk2 Tryz.func192 nn 0 [(0,[17,32])] [] [] [515] itn z6f rn (gc (zd1 nn) gn) (tc (zfs nn) tn) (by kernel_rfl) λt=>by kernel_rfl
noncomputable abbrev zm6:=zmu
noncomputable def zah(nn:Nat)(a0:jt)(a1:(List Int))(a2:Int):Option (List Int):=jb (J1 nn a0) λa=>ifB (!a) (some []) (jb (zm6 nn a0 a1 a2) λb=>some b)
theorem zsh(nn:Nat):FFOk 155 ⟨[ql,L6,U8],3,I6,λt=>zah nn (t.1) (t.2.1) (t.2.2)⟩:=mk2 Tryz.func155 nn 0 [] [] [] [195] itn h0 rn (gc (zwr nn) gn) (tc (V3 nn) tn) (by kernel_rfl) λt=>by kernel_rfl
theorem zrk(nn:Nat):jz 155 ⟨[ql,L6,U8],L6,λt=>zah nn (t.1) (t.2.1) (t.2.2)⟩:=(zsh nn).pure
noncomputable def za6(nn:Nat)(a0:jt)(a1:(List Int)):Option Int:=jb (J1 nn a0) λa=>ifB (!a) (some (-1)) (jm (σ:=Int×(List Int)×Int×Int×jt) (λ(b,c,d,e,f)g=>ifB (decide (e<d)) (J (σ:=Int×(List Int)×Int×Int×jt) (λ(h,i,j,k,l)=>jb (some (w64 (k+1))) λn=>g (h,i,j,n,l)) λm=>jb (atL c e) λo=>J (σ:=Int×Int×(List Int)×Int×Int×Bool×jt) (λ(p,q,r,s,u,v,w)=>ifB v (m (p,r,s,u,w)) (J (σ:=Int×Int×(List Int)×Int×Int×jt) (λ(y,z,b0,b1,b2,b3)=>jb (atL b3.2.1 z) λb5=>jb (some (min y b5)) λb6=>m (b6,b0,b1,b2,b3)) λb4=>ifB (decide (p<0)) (jb (atL w.2.1 q) λb7=>b4 (b7,q,r,s,u,w)) (b4 (p,q,r,s,u,w)))) λx=>jb (some (decide (o<0))) λb8=>ifB b8 (x (b,o,c,d,e,true,f)) (ifB (decide ((f.2.1.length:Int)<=o)) (x (b,o,c,d,e,true,f)) (jb (atL f.2.2.1 o) λb9=>x (b,o,c,d,e,!b9,f)))) (some b)) nn ((-1),a1,(a1.length:Int),0,a0))
noncomputable def zwd:=lk (α:=HK) [(122,me [vp 2 0,vi 5,vl 12,vi 13,vi 14] [.box 61 [.v ql]] 1),(1958,me [vp 2 0,vi 5,vl 12,vi 13,vi 14] [.box 61 [.v ql]] 1),(15667,me [vp 2 0,vi 5,vi 7,vl 12,vi 13,vi 14] [.box 61 [.v ql]] 1),(31332,me [vp 2 0,vi 5,vi 7,vl 12,vi 13,vi 14,vb 34] [.box 61 [.v ql]] 1)]
theorem zon(nn:Nat):jz 156 ⟨[ql,L6],I6,λt=>za6 nn (t.1) (t.2)⟩:=mk1 Tryz.func156 nn 0 [(0,[19,48,49])] [] [] [] itn zwd rn gn (tc (V3 nn) tn) (by kernel_rfl) λt=>by kernel_rfl
noncomputable def zad(nn:Nat)(a0:jt)(a1:Int):Option (D_api_Dfa×Int×Int×Unit):=jb (J1 nn a0) λa=>ifB (!a) (some ((⟨List.replicate 256 0,wd6⟩,0,[],[],()),0,3,())) (J (σ:=Int×Bool×jt×(Arr 256 Int)×Int×(List (List Int))×(List Int)) (λ(b,c,d,e,f,g,h)=>ifB c (some ((⟨List.replicate 256 0,wd6⟩,0,[],[],()),0,2,())) (jb (zg8 nn d.1) λj=>jm (σ:=Int×Int×jt×(Arr 256 Int)×Int×(Arr 256 Int)×Int×(List (List Int))×(List Int)×(List (List Int))×(List Int)×(List (List Int))×(List ((List UInt8)×Int×Unit))) (λ(k,l,m,n,o,p,q,r,s,u,v,w,x)y=>ifB (decide (l<(w.length:Int))) (jb (mkO 8 q) λz=>jm (σ:=Int×Int×Int×Int×jt×(Arr 256 Int)×Int×(Arr 256 Int)×Int×(List Int)×(List (List Int))×(List Int)×(List (List Int))×(List Int)×(List (List Int))×(List ((List UInt8)×Int×Unit))) (λ(b0,b1,b2,b3,b4,b5,b6,b7,b8,b9,c0,c1,c2,c3,c4,c5)c6=>ifB (decide (b3<b2)) (jb (Yv nn b7 b3) λc7=>jb (atL c7 0) λc8=>J (σ:=Int×Int×Int×Int×jt×(Arr 256 Int)×Int×(Arr 256 Int)×Int×(List Int)×(List (List Int))×(List Int)×(List (List Int))×(List Int)×(List (List Int))×(List ((List UInt8)×Int×Unit))) (λ(c9,d0,d1,d2,d3,d4,d5,d6,d7,d8,d9,e0,e1,e2,e3,e4)=>ifB (decide (c9<(e3.length:Int))) (some ((⟨List.replicate 256 0,wd6⟩,0,[],[],()),0,16,())) (jb (some (w64 (d2+1))) λe6=>c6 (c9,d0,d1,e6,d3,d4,d5,d6,d7,d8,d9,e0,e1,e2,e3,e4))) λe5=>ifB (decide (b1=0)) (J (σ:=Int×Int×Int×Int×jt×(Arr 256 Int)×Int×(Arr 256 Int)×Int×(List Int)×(List (List Int))×(List Int)×(List (List Int))×(List Int)×(List (List Int))×(List ((List UInt8)×Int×Unit))) (λ(e7,e8,e9,f0,f1,f2,f3,f4,f5,f6,f7,f8,f9,g0,g1,g2)=>e5 (e7,e8,e9,f0,f1,f2,f3,f4,f5,f6,f7,f8,f9,g0,g1,g2)) λg3=>jb (Yz nn b4 c8) λg4=>ifB (decide ((g4.length:Int)=0)) (jb (qu b9.length b3) λg5=>jb (Yc b9 g5 (-1)) λg6=>g3 (b0,b1,b2,b3,b4,b5,b6,b7,b8,g6,c0,c1,c2,c3,c4,c5)) (jb (Zh nn g4) λg7=>jb (some (Yj zzo c5 g7)) λg8=>J (σ:=Int×(List ((List UInt8)×Int×Unit))×(List (List Int))) (λ(g9,h0,h1)=>jb (qu b9.length b3) λh3=>jb (Yc b9 h3 g9) λh4=>g3 (b0,b1,b2,b3,b4,b5,b6,b7,b8,h4,c0,c1,c2,c3,h1,h0)) λh2=>ifB (!g8.isSome) (jb (some (c4.length:Int)) λh5=>jb (some (zco zzo c5 g7 h5)) λh6=>jb (apO 24 c4 [g4]) λh7=>h2 (h5,h6,h7)) (h2 (gD 0 g8,c5,c4)))) (J (σ:=Int×Int×Int×Int×jt×(Arr 256 Int)×Int×(Arr 256 Int)×Int×(List Int)×(List (List Int))×(List Int)×(List (List Int))×(List Int)×(List (List Int))×(List ((List UInt8)×Int×Unit))) (λ(h8,h9,i0,i1,i2,i3,i4,i5,i6,i7,i8,i9,j0,j1,j2,j3)=>e5 (h8,h9,i0,i1,i2,i3,i4,i5,i6,i7,i8,i9,j0,j1,j2,j3)) λj4=>jb (qu c4.length b1) λj5=>jb (atL c4 j5) λj6=>jb (zah nn b4 j6 c8) λj7=>ifB (decide ((j7.length:Int)=0)) (jb (qu b9.length b3) λj8=>jb (Yc b9 j8 (-1)) λj9=>j4 (b0,b1,b2,b3,b4,b5,b6,b7,b8,j9,c0,c1,c2,c3,c4,c5)) (jb (Zh nn j7) λk0=>jb (some (Yj zzo c5 k0)) λk1=>J (σ:=Int×(List ((List UInt8)×Int×Unit))×(List (List Int))) (λ(k2,k3,k4)=>jb (qu b9.length b3) λk6=>jb (Yc b9 k6 k2) λk7=>j4 (b0,b1,b2,b3,b4,b5,b6,b7,b8,k7,c0,c1,c2,c3,k4,k3)) λk5=>ifB (!k1.isSome) (jb (some (c4.length:Int)) λk8=>jb (some (zco zzo c5 k0 k8)) λk9=>jb (apO 24 c4 [j7]) λl0=>k5 (k8,k9,l0)) (k5 (gD 0 k1,c5,c4))))) (jb (apO 24 c2 [b9]) λl1=>jb (qu c4.length b1) λl2=>jb (atL c4 l2) λl3=>jb (za6 nn b4 l3) λl4=>jb (apO 8 c3 [l4]) λl5=>jb (some (w64 (b1+1))) λl6=>y (b0,l6,b4,b5,b6,b7,b8,c0,c1,l1,l5,c4,c5))) nn (k,l,((List.replicate z (0:Int)).length:Int),0,m,n,o,p,q,(List.replicate z (0:Int)),r,s,u,v,w,x)) (some ((p,q,u,v,()),(w.length:Int),0,()))) nn (b,0,d,e,f,j.1,j.2.1,g,h,[],[],[[]],[]))) λi=>jb (some (decide (a1<1))) λl7=>ifB l7 (i (a1,true,a0,⟨List.replicate 256 0,wd6⟩,0,[],[])) (i (a1,decide (4096<a1),a0,⟨List.replicate 256 0,wd6⟩,0,[],[])))
noncomputable def zzg:=lk (α:=HK) [(102,me [vi 1,vp 2 0,vp 4 1,vb 20] [.box 61 [.v ql],.box 33 [.v (.arr 256 U8),.v I6,.own 2,.own 3],.row 31 L6,.row 3 I6] 4),(1018,me [vi 1,vp 2 0,vp 4 1,vp 7 2,vp 8 3,(10,.fn 151 [] [.pt 4 0,.pt 3 0]),vi 11] [.box 61 [.v ql],.box 33 [.v (.arr 256 U8),.v I6,.own 5,.own 6],.box 33 [.v (.arr 256 U8),.v I6,.own 7,.own 8],.box 30 [.own 9],.box 175 [.own 10],.row 31 L6,.row 3 I6,.row 31 L6,.row 3 I6,.row 31 L6,.obj (.mp .str I6)] 11),(260682,me [vi 1,vp 2 0,vp 4 1,vp 7 2,vp 8 3,(10,.fn 151 [] [.pt 4 0,.pt 3 0]),vi 11,vo 12 5,vi 49,vi 50] [.box 61 [.v ql],.box 33 [.v (.arr 256 U8),.v I6,.own 6,.own 7],.box 33 [.v (.arr 256 U8),.v I6,.own 8,.own 9],.box 30 [.own 10],.box 175 [.own 11],.row 3 I6,.row 31 L6,.row 3 I6,.row 31 L6,.row 3 I6,.row 31 L6,.obj (.mp .str I6)] 12),(33367347,me [vi 1,vp 2 0,vp 4 1,vp 7 2,vp 8 3,(10,.fn 151 [] [.pt 4 0,.pt 3 0]),vi 11,vo 12 5,vi 49,vi 50] [.box 61 [.v ql],.box 33 [.v (.arr 256 U8),.v I6,.own 6,.own 7],.box 33 [.v (.arr 256 U8),.v I6,.own 8,.own 9],.box 30 [.own 10],.box 175 [.own 11],.row 3 I6,.row 31 L6,.row 3 I6,.row 31 L6,.row 3 I6,.row 31 L6,.obj (.mp .str I6)] 12),(266938778,me [vi 1,vp 2 0,vp 4 1,vp 7 2,vp 8 3,(10,.fn 151 [] [.pt 4 0,.pt 3 0]),vi 11,vo 12 5,vi 49,vi 50] [.box 61 [.v ql],.box 33 [.v (.arr 256 U8),.v I6,.own 6,.own 7],.box 33 [.v (.arr 256 U8),.v I6,.own 8,.own 9],.box 30 [.own 10],.box 175 [.own 11],.row 3 I6,.row 31 L6,.row 3 I6,.row 31 L6,.row 3 I6,.row 31 L6,.obj (.mp .str I6)] 12),(266938779,me [vi 1,vp 2 0,vp 4 1,vp 7 2,vp 8 3,(10,.fn 151 [] [.pt 4 0,.pt 3 0]),vi 11,vo 12 5,vi 49,vi 50] [.box 61 [.v ql],.box 33 [.v (.arr 256 U8),.v I6,.own 6,.own 7],.box 33 [.v (.arr 256 U8),.v I6,.own 8,.own 9],.box 30 [.own 10],.box 175 [.own 11],.row 3 I6,.row 31 L6,.row 3 I6,.row 31 L6,.row 3 I6,.row 31 L6,.obj (.mp .str I6)] 12)]
noncomputable def zp2:=lk (α:=HK) [(31,me [vi 6] [.box 175 [.own 1],.obj (.mp .str I6),.box 30 [.own 3],.row 31 L6] 4)]
noncomputable def zrz:=lk (α:=HK) [(31,me [vi 6] [.box 175 [.own 1],.obj (.mp .str I6),.box 30 [.own 3],.row 31 L6] 4)]
theorem zp7(nn:Nat):jz 104 ⟨[ql,I6],(.tup (.cons Y_api_Dfa (.cons I6 (.cons I6 .nil)))),λt=>zad nn (t.1) (t.2)⟩:=mk1 Tryz.func104 nn 9 [(0,[22,44,86]),(1,[22]),(2,[22])] [(0,[(36,.own L6),(90,.ownx),(101,.told I6)]),(1,[(28,.told L6)]),(2,[(28,.told L6)])] [(1476,[(90,M6)])] [] (itc 11580151 Tryz.func151 zp2 1 [3] (itc 12260151 Tryz.func151 zrz 2 [3] itn (by kernel_rfl)) (by kernel_rfl)) zzg rn gn (tc (V3 nn) (tc (zxf nn) (tc (zt3 nn) (tc (zn2 nn) (tc (zov nn) (tc (zrk nn) (tc (zon nn) tn))))))) (by kernel_rfl) λt=>by kernel_rfl
noncomputable def zba(nn:Nat)(a0:(Arr 256 Int)):Option Bool:=jb (Y3 nn a0 (⟨List.replicate 4 0,wd6⟩)) λa=>some (a.l == a0.l)
theorem zol(nn:Nat):jz 111 ⟨[(.arr 256 U8)],.bool,λt=>zba nn t⟩:=mk1 Tryz.func111 nn 0 [] [] [] [] itn h0 rn gn (tc (zfu nn) tn) (by kernel_rfl) λt=>by kernel_rfl
noncomputable def p_dfa_Right(nn:Nat)(a0:D_api_Dfa):Option Bool:=jb (some (a0.2.2.1.length:Int)) λa=>J (σ:=Int×Bool×D_api_Dfa) (λ(b,c,d)=>ifB c (some false) (J (λ(f:Bool)=>some f) λg=>jm (σ:=Int×Bool×(List (List Int))×Int×Int×D_api_Dfa) (λ(h,i,j,k,l,m)n=>ifB (decide (l<k)) (jb (atL j l) λo=>J (σ:=Int×Bool×(List Int)×(List (List Int))×Int×Int×Bool×D_api_Dfa) (λ(p,q,r,s,u,v,w,x)=>ifB w (g false) (jm (σ:=Int×Bool×(List (List Int))×Int×Int×(List Int)×Int×Int×D_api_Dfa) (λ(z,b0,b1,b2,b3,b4,b5,b6,b7)b8=>ifB (decide (b6<b5)) (jb (atL b4 b6) λb9=>J (σ:=Int×Bool×(List (List Int))×Int×Int×(List Int)×Int×Int×Bool×D_api_Dfa) (λ(c0,c1,c2,c3,c4,c5,c6,c7,c8,c9)=>ifB c8 (g false) (jb (some (w64 (c7+1))) λd1=>b8 (c0,c1,c2,c3,c4,c5,c6,d1,c9))) λd0=>jb (some (decide (b9<(-1)))) λd2=>ifB d2 (d0 (z,b0,b1,b2,b3,b4,b5,b6,true,b7)) (d0 (z,b0,b1,b2,b3,b4,b5,b6,decide (z<=b9),b7))) (jb (some (w64 (b3+1))) λd3=>n (z,b0,b1,b2,d3,b7))) nn (p,q,s,u,v,r,(r.length:Int),0,x))) λy=>jb (some (decide (¬(o.length:Int)=m.2.1))) λd4=>ifB d4 (y (h,i,o,j,k,l,true,m)) (jb (atL m.2.2.2.1 l) λd5=>y (h,i,o,j,k,l,decide (d5<(-1)),m))) (g i)) nn (b,true,d.2.2.1,(d.2.2.1.length:Int),0,d))) λe=>jb (some (decide (a=0))) λd6=>ifB d6 (e (a,true,a0)) (ifB (decide (¬(a0.2.2.2.1.length:Int)=a)) (e (a,true,a0)) (jb (zba nn a0.1) λd7=>ifB (!d7) (e (a,true,a0)) (jb (Jz nn a0.1) λd8=>e (a,decide (¬d8=a0.2.1),a0))))
noncomputable def zy6:=lk (α:=HK) [(52,me [vp 1 0,vi 3,vb 34] [.box 33 [.v Y_api_Dfa]] 1),(445,me [vb 4] [] 0),(890,me [vp 1 0,vi 3,vb 4,(36,.v M6),vi 37,vi 38] [.box 33 [.v Y_api_Dfa]] 1),(227940,me [vp 1 0,vi 3,vb 4,vl 6,(36,.v M6),vi 37,vi 38,vb 55] [.box 33 [.v Y_api_Dfa]] 1),(455886,me [vp 1 0,vi 3,vb 4,(36,.v M6),vi 37,vi 38,vl 56,vi 57,vi 58] [.box 33 [.v Y_api_Dfa]] 1),(58353458,me [vp 1 0,vi 3,vb 4,(36,.v M6),vi 37,vi 38,vl 56,vi 57,vi 58,vb 68] [.box 33 [.v Y_api_Dfa]] 1)]
theorem P_dfa_Right_ok(nn:Nat):jz 75 ⟨[Y_api_Dfa],.bool,λt=>p_dfa_Right nn t⟩:=mk1 Tryz.func75 nn 0 [(0,[11,13,47,63,69,70])] [] [] [] itn zy6 rn gn (tc (zol nn) (tc (zfp nn) tn)) (by kernel_rfl) λt=>by kernel_rfl
end Go.Proofs.YtdllbdlnmjngcaaGreat.T
namespace Go.Proofs.YtdllbdlnmjngcaaGreat
set_option maxRecDepth 100000
set_option maxHeartbeats 8000000
set_option linter.unusedVariables false
set_option linter.unusedSimpArgs false
open Go Go.RowKit L
set_option maxRecDepth 10000
set_option maxHeartbeats 4000000
structure qd where
 zym:(Arr 256 Int)
 zbl:Int
 jw:(List (List Int))
 Ja:(List Int)
def qn(x:qd):PV :=.agg (((arV (n:=256) U8) x.zym).cells++[I x.zbl,zmv x.jw,slI x.Ja])
theorem J9(x:qd):NoP (qn x) :=.agg _ (nopa (zbt (jdo _ (λ_=>(.u _)))) (zdk (.u _) (zdk (zbw _) (zdk (zc5 _) (zf3)))))
theorem Z5(x:qd):(qn x).cells.length=259:=(jdn (zxn _ _ (λ_=>rfl)) rfl)
theorem zeq(H:PHeap)(x:qd):(qn x).cells.all (qh H)=true:=(jdz (arV_lf _ _ _ (λ_=>rfl)) rfl)
theorem Zy(x:qd):qw false 1 ((qn x).cells.drop 257)=some (zmv x.jw):=(ld_r (m:=256) (i:=1) (zxn _ _ (λ_=>rfl)) rfl)
theorem ztq(x:qd):qw false 1 ((qn x).cells.drop 258)=some (slI x.Ja):=(ld_r (m:=256) (i:=2) (zxn _ _ (λ_=>rfl)) rfl)
def zue(a:qd):T.D_api_Dfa:=(⟨a.zym.1,a.zym.2⟩,a.zbl,a.jw,a.Ja,())
theorem flatU8(l:List Int):l.flatMap (T.encC (.int .u8))=l.map U8:=by
 induction l with
 |nil=>rfl
 |cons a l ih=>rw[wex,ih];rfl
theorem zm1(a:qd):T.enc T.Y_api_Dfa (zue a)=qn a:=by
 cases a with
 |mk c w n l=>
  show PV.agg (c.1.flatMap (T.encC (.int .u8))++_)=PV.agg ((c.1.map U8)++_);rw[flatU8];rfl
def zhc(a:T.D_api_Dfa):qd:=⟨⟨a.1.l,a.1.h⟩,a.2.1,a.2.2.1,a.2.2.2.1⟩
noncomputable def Yl(a0:qd):G Bool:=λnn=>T.p_dfa_Right nn (zue a0)
theorem zhz{nn:Nat}{a0:qd}{r:Bool}(h0:Yl a0 nn=some r):PCall Tryz.prog 75 [qn a0] (· = B r):=by
 have:=(T.P_dfa_Right_ok nn).2 (zue a0) r h0;rw[<- zm1];exact this
noncomputable def Zf(a0:qd)(a1:Int):G (List Int):=
 G.bind (G.lift (idx a0.jw a1)) λx5=>G.bind (G.loop (σ:=(Int×(List Int))) (α:=(List Int)) (λ(x9,x10)=>G.cond (decide (x9<(x5.length:Int))) (G.bind (α:=(List Int)) (G.bind (G.lift (idx x5 x9)) λx25=>G.cond (decide (0<=x25)) (G.bind (G.lift (app 8 x10 ([x25]:List Int))) λx28=>G.pure x28) (G.pure x10)) λx22=>G.pure (.inl ((w64 (x9+1)),x22))) (G.pure (.inr x10))) (0,[])) λx33=>G.pure x33
theorem zyx {nn : Nat} {a0 : qd} {a1 : Int} {r : (List Int)} (h0 : Zf a0 a1 nn = some r) : PCall Tryz.prog 115 [qn a0, I a1] (· = PV.fr 3 1 (r.map I)) := by
 unfold Zf at h0
 refine waf Tryz.func115 rfl Tryz.ntmps115 (by simp) fun W => A2 0 (e_ (qn a0)) 1 (e_ (I a1)) fun F f0 f1 => ?_
 generalize PHeap.empty = H
 refine SR fun K1 hK1 => q3 (z8m f0 (zeq _ _)) <| q1 (Qn rfl) ?_
 have o1004 : ownL 3 1 I H 1004 (PV.u (.slice none 0 0)) [] := ownL.nil _ _
 refine nl hK1 <| A2 1 f1 2 (e_ (PV.rp (qn a0).cells)) fun F f1 f2 => ?_
 refine SR fun K2 hK2 => q1 (Qn rfl) ?_
 have o1004 : ownL 3 1 I H 1004 (PV.u (.slice none 0 0)) [] := ownL.nil _ _
 refine nl hK2 <| A3 1 f1 2 f2 5 (e_ (PV.u (.slice none 0 0))) fun F f1 f2 f5 => ?_
 refine PC.seq fun K3 hK3 => SR fun K4 hK4 => q1 (zpy zkg za2 (by decide) f2) <| q1 (zjl za2 rfl (Zy a0)) <| m_ f1 <| bk h0 fun x5 hx5 h0 => q1 (zff (rep := slI) (xs := a0.jw) zge rfl rfl hx5) <| q1 (zf0 zeo rfl) <| q1 (zgr (rep := I) (xs := x5) Zp rfl) <| m_ (e_ (I 0)) <| nl hK4 <| A4 5 f5 12 (e_ (slI x5)) 13 (e_ (I (x5.length : Int))) 14 (e_ (I 0)) fun F f5 f12 f13 f14 => ?_
 refine PC.block <| bk h0 fun o12 ho12 h0 => ?_
 obtain ⟨B13, hB13, ho12⟩ := wa1 ho12
 refine PC.loop (fun m16 F H => ∃ s36 : (Int × (List Int)), ∃ q11, zcj B13 m16 s36 = some o12 ∧ F 5 = q11 ∧ F 12 = (slI x5) ∧ F 13 = (I (x5.length : Int)) ∧ F 14 = (I s36.1) ∧ ownL 3 1 I H 1004 q11 s36.2) (m := nn) ⟨(0, []), (PV.u (.slice none 0 0)), ho12, f5, f12, f13, f14, o1004⟩ fun m16 F H hI => ?_
 obtain ⟨⟨x9, x10⟩, q11, ho12, f5, f12, f13, f14, o1004⟩ := hI
 obtain ⟨m16, rfl, st14, hs15, ho12⟩ := Zq ho12
 rw [hB13] at hs15
 try dsimp only at hs15
 refine SR fun K17 hK17 => q1 (Ze rfl f14 f13 zdv) <| nl hK17 <| A5 5 f5 12 f12 13 f13 14 f14 15 (e_ (B (decide (x9 < (x5.length : Int))))) fun F f5 f12 f13 f14 f15 => ?_
 refine PC.seq fun K18 hK18 => ?_
 refine cd f15 hs15 (fun hb19 hs15 => ?_) fun hb19 hs15 => ?_
 refine sk hK18 <| A4 5 f5 12 f12 13 f13 14 f14 fun F f5 f12 f13 f14 => ?_
 obtain ⟨o21, ho21, hs15⟩ := bs hs15
 refine wca (fun F H => ∃ s31 : (List Int), ∃ q23, o21 = s31 ∧ F 5 = q23 ∧ F 12 = (slI x5) ∧ F 13 = (I (x5.length : Int)) ∧ F 14 = (I x9) ∧ ownL 3 1 I H 1004 q23 s31) ?_ ?_
 refine PC.block <| SR fun K24 hK24 => bk ho21 fun x25 hx25 ho21 => q1 (zff (rep := I) (xs := x5) zch f12 f14 hx25) <| q1 (zf0 znp rfl) <| q1 (Qn (e_ (I x25))) <| nl hK24 <| A5 5 f5 7 (e_ (I x25)) 12 f12 13 f13 14 f14 fun F f5 f7 f12 f13 f14 => ?_
 refine SR fun K26 hK26 => m_ f7 <| q1 (Ze rfl rfl rfl zqw) <| nl hK26 <| A6 5 f5 7 f7 12 f12 13 f13 14 f14 19 (e_ (B (decide (0 ≤ x25)))) fun F f5 f7 f12 f13 f14 f19 => ?_
 refine cd f19 ho21 (fun hb27 ho21 => ?_) fun hb27 ho21 => ?_
 refine PC.region <| m_ f5 <| m_ f7 <| q3 (z1j (rep := I) (xs := [x25]) zz rfl (by decide) (bm (e_ (I x25)) (bm0)) rfl rfl) <| bk ho21 fun x28 hx28 ho21 => wdh (rep := I) (ys := ([x25] : List Int)) rfl rfl rfl (by decide) zz (e_ q11) o1004 (e_ (slI ([x25] : List Int))) (fun _ => rfl) (lf1 (fun _ => rfl) (fun _ => rfl)) hx28 fun q29 H o1004 fz30 => q1 (Qn (e_ q29)) <| PL.nil ?_
 obtain rfl := pz ho21
 exact ⟨x28, q29, rfl, (e_ q29), f12, f13, f14, o1004⟩
 refine PC.skip ?_
 obtain rfl := pz ho21
 exact ⟨x10, q11, rfl, f5, f12, f13, f14, o1004⟩
 intro F H hI
 obtain ⟨x22, q23, ho, f5, f12, f13, f14, o1004⟩ := hI
 have ho := ho.symm
 subst ho
 try dsimp only at hs15
 refine PC.region <| q1 (Ze rfl f14 rfl zqg) <| m_ (e_ (I (w64 (x9 + 1)))) <| PL.nil ?_
 obtain rfl := pz hs15
 exact ⟨m16, wgz _, _, q23, ho12, f5, f12, f13, rfl, o1004⟩
 refine PC.exit ?_
 obtain rfl := pz hs15
 try dsimp only at ho12
 subst ho12
 try dsimp only at h0
 refine hK3 _ _ <| A1 5 f5 fun F f5 => ?_
 refine SR fun K32 hK32 => m_ f5 <| q1 (Qn (e_ q11)) <| nl hK32 <| A1 4 (e_ q11) fun F f4 => ?_
 refine PC.ret ?_
 obtain rfl := pz h0
 exact jds (.inr rfl) (zcp Tryz.results115 f4) o1004 (fun _ => rfl)
theorem zm8{nn:Nat}{a0:qd}{a1:Int}{r:(List Int)}(h0:Zf a0 a1 nn=some r):PCall Tryz.prog 115 [qn a0,I a1] (· = slI r):=(zyx h0).forget
noncomputable def Jt(a0:Int)(c0:qd):G (List Int):=
 G.bind (Zf c0 a0) λx3=>G.pure x3
theorem zif {nn : Nat} {a0 : Int} {c0 : qd} {r : (List Int)} (h0 : Jt a0 c0 nn = some r) : PCall Tryz.prog 114 [I a0, PV.rp (qn c0).cells] (· = slI r) := by
 unfold Jt at h0
 refine waf Tryz.func114 rfl Tryz.ntmps114 (by simp) fun W => A2 0 (e_ (I a0)) 1 (e_ (PV.rp (qn c0).cells)) fun F f0 f1 => ?_
 generalize PHeap.empty = H
 refine SR fun K1 hK1 => q3 (zln (k := 1)) <| nl hK1 <| A2 0 f0 1 f1 fun F f0 f1 => ?_
 refine SR fun K2 hK2 => q1 (zyc zv0 f1 (Z5 _)) <| m_ f0 <| bk h0 fun x3 hx3 h0 => q3 (zu5 (by kernel_rfl) (am rfl (am rfl (am0))) (zdk (J9 _) (zdk (.u _) (zf3))) (zm8 hx3)) <| q1 (Qn (e_ (slI x3))) <| nl hK2 <| A1 3 (e_ (slI x3)) fun F f3 => ?_
 refine PC.ret ?_
 obtain rfl := pz h0
 exact fin (.inr rfl) (zcp Tryz.results114 f3) (zc5 _)
noncomputable def Qc(a0:Int)(a1:(List Int))(a2:Int->G (List Int)):G (List Bool):=
 G.bind (G.lift (mkS 1 (false:Bool) a0)) λx3=>G.bind (G.lift (small7 a1 a1)) λx7=>G.bind (G.loop (σ:=(Int×(List Bool))) (α:=(List Bool)) (λ(x17,x18)=>G.cond (decide (x17<(a1.length:Int))) (G.bind (G.lift (idx a1 x17)) λx30=>G.bind (G.lift (idx x18 x30)) λx31=>G.pure (.inl ((w64 (x17+1)),(x18.set (x30:Int).toNat true)))) (G.pure (.inr x18))) (0,x3)) λx106=>G.bind (G.loop (σ:=((List Bool)×(List Int))) (α:=(List Bool)) (λ(x113,x115)=>G.cond (decide (0<(x115.length:Int))) (G.bind (G.lift (idx x115 0)) λx126=>G.bind (G.lift (z76 x115 1 (x115.length:Int))) λx129=>G.bind (a2 x126) λx132=>G.bind (G.loop (σ:=(Int×(List Bool)×(List Int))) (α:=((List Bool)×(List Int))) (λ(x138,x139,x141)=>G.cond (decide (x138<(x132.length:Int))) (G.bind (α:=((List Bool)×(List Int))) (G.bind (G.lift (idx x132 x138)) λx158=>G.bind (G.lift (idx x139 x158)) λx160=>G.cond (!x160) (G.bind (G.lift (idx x139 x158)) λx163=>G.bind (G.lift (app 8 x141 ([x158]:List Int))) λx165=>G.pure ((x139.set (x158:Int).toNat true),x165)) (G.pure (x139,x141))) λ(x153,x155)=>G.pure (.inl ((w64 (x138+1)),x153,x155))) (G.pure (.inr (x139,x141)))) (0,x113,x129)) λ(x169,x171)=>G.pure (.inl (x169,x171))) (G.pure (.inr x113))) (x106,x7)) λx176=>G.pure x176
theorem zfo {nn : Nat} {a0 : Int} {a1 : (List Int)} {a2 : Int → G (List Int)} {a2_f : Nat} {a2_A a2_B : List PV} (a2_na : ∀ p ∈ a2_A, NoP p) (a2_nb : ∀ p ∈ a2_B, NoP p) (a2_g : yx Tryz.prog a2_f = true) (a2_w : ∀ {nn : Nat} {x0 : Int} {r : (List Int)}, a2 x0 nn = some r → PCall Tryz.prog a2_f (a2_A ++ [I x0] ++ a2_B) (· = slI r)) {r : (List Bool)} (h0 : Qc a0 a1 a2 nn = some r) : PCall Tryz.prog 113 [I a0, slI a1, PV.fn (.func a2_f) a2_A a2_B] (· = slB r) := by
 unfold Qc at h0
 refine waf Tryz.func113 rfl Tryz.ntmps113 (by simp) fun W => A3 0 (e_ (I a0)) 1 (e_ (slI a1)) 2 (e_ (PV.fn (.func a2_f) a2_A a2_B)) fun F f0 f1 f2 => ?_
 generalize PHeap.empty = H
 refine SR fun K1 hK1 => q1 (Qn rfl) ?_
 have o1006 : ownL 4 1 B H 1006 (PV.u (.slice none 0 0)) [] := ownL.nil _ _
 refine nl hK1 <| A3 0 f0 1 f1 2 f2 fun F f0 f1 f2 => ?_
 refine SR fun K2 hK2 => m_ f0 <| bk h0 fun x3 hx3 h0 => PL.mkS (rep := B) 1006 rfl rfl rfl (by decide) zyu rfl rfl (e_ (I a0)) hx3 fun q4 H o1006 fz5 => q1 (Qn (e_ q4)) <| nl hK2 <| A3 1 f1 2 f2 7 (e_ q4) fun F f1 f2 f7 => ?_
 refine SR fun K6 hK6 => m_ f1 <| bk h0 fun x7 hx7 h0 => wdg 1008 rfl rfl rfl (by decide) (e_ (slI a1)) hx7 fun q8 H o1008 fz9 => have o1006 := o1006.mono (fz9 1006 (by decide)); ?_
 have o1008 : ownQ 3 1 I H 1008 q8 x7 := .inl o1008
 refine q1 (Qn (e_ q8)) <| nl hK6 <| A4 1 f1 2 f2 7 f7 8 (e_ q8) fun F f1 f2 f7 f8 => ?_
 refine PC.seq fun K10 hK10 => SR fun K11 hK11 => m_ f1 <| q1 (zgr (rep := I) (xs := a1) Zp rfl) <| m_ (e_ (I 0)) <| nl hK11 <| A6 2 f2 7 f7 8 f8 18 (e_ (slI a1)) 19 (e_ (I (a1.length : Int))) 20 (e_ (I 0)) fun F f2 f7 f8 f18 f19 f20 => ?_
 refine PC.block <| bk h0 fun o20 ho20 h0 => ?_
 obtain ⟨B21, hB21, ho20⟩ := wa1 ho20
 refine PC.loop (fun m24 F H => ∃ s181 : (Int × (List Bool)), ∃ q19, zcj B21 m24 s181 = some o20 ∧ F 2 = (PV.fn (.func a2_f) a2_A a2_B) ∧ F 7 = q19 ∧ F 8 = q8 ∧ F 18 = (slI a1) ∧ F 19 = (I (a1.length : Int)) ∧ F 20 = (I s181.1) ∧ ownL 4 1 B H 1006 q19 s181.2 ∧ ownQ 3 1 I H 1008 q8 x7) (m := nn) ⟨(0, x3), q4, ho20, f2, f7, f8, f18, f19, f20, o1006, o1008⟩ fun m24 F H hI => ?_
 obtain ⟨⟨x17, x18⟩, q19, ho20, f2, f7, f8, f18, f19, f20, o1006, o1008⟩ := hI
 obtain ⟨m24, rfl, st22, hs23, ho20⟩ := Zq ho20
 rw [hB21] at hs23
 try dsimp only at hs23
 refine SR fun K25 hK25 => q1 (Ze rfl f20 f19 zdv) <| nl hK25 <| A7 2 f2 7 f7 8 f8 18 f18 19 f19 20 f20 21 (e_ (B (decide (x17 < (a1.length : Int))))) fun F f2 f7 f8 f18 f19 f20 f21 => ?_
 refine PC.seq fun K26 hK26 => ?_
 refine cd f21 hs23 (fun hb27 hs23 => ?_) fun hb27 hs23 => ?_
 refine sk hK26 <| A6 2 f2 7 f7 8 f8 18 f18 19 f19 20 f20 fun F f2 f7 f8 f18 f19 f20 => ?_
 refine PC.seq fun K28 hK28 => PC.block <| SR fun K29 hK29 => bk hs23 fun x30 hx30 hs23 => q1 (zff (rep := I) (xs := a1) zch f18 f20 hx30) <| q1 (zf0 znp rfl) <| q1 (Qn (e_ (I x30))) <| nl hK29 <| A7 2 f2 7 f7 8 f8 10 (e_ (I x30)) 18 f18 19 f19 20 f20 fun F f2 f7 f8 f10 f18 f19 f20 => ?_
 refine PC.region <| m_ f7 <| m_ f10 <| bk hs23 fun x31 hx31 hs23 => q1 (zpj (rep := B) z2z o1006 rfl rfl hx31) <| wdy (rep := B) (v := true) rfl rfl (fun _ h => by cases h) (e_ (PV.pp 1006 ((x30 : Int).toNat * 1) (za5 q19))) o1006 zrj hx31 (e_ (B true)) (fun _ => rfl) fun H o1006 fz32 => have o1008 := o1008.mono (fz32 1008 (by decide)); nl hK28 <| A6 2 f2 7 f7 8 f8 18 f18 19 f19 20 f20 fun F f2 f7 f8 f18 f19 f20 => ?_
 refine PC.region <| q1 (Ze rfl f20 rfl zqg) <| m_ (e_ (I (w64 (x17 + 1)))) <| PL.nil ?_
 obtain rfl := pz hs23
 exact ⟨m24, wgz _, _, q19, ho20, f2, f7, f8, f18, f19, rfl, o1006, o1008⟩
 refine PC.exit ?_
 obtain rfl := pz hs23
 try dsimp only at ho20
 subst ho20
 try dsimp only at h0
 refine hK10 _ _ <| A3 2 f2 7 f7 8 f8 fun F f2 f7 f8 => ?_
 refine PC.seq fun K33 hK33 => PC.block <| bk h0 fun o42 ho42 h0 => ?_
 obtain ⟨B43, hB43, ho42⟩ := wa1 ho42
 refine PC.loop (fun m46 F H => ∃ s105 : ((List Bool) × (List Int)), ∃ q39, ∃ q41, zcj B43 m46 s105 = some o42 ∧ F 2 = (PV.fn (.func a2_f) a2_A a2_B) ∧ F 7 = q39 ∧ F 8 = q41 ∧ ownL 4 1 B H 1006 q39 s105.1 ∧ ownQ 3 1 I H 1008 q41 s105.2) (m := nn) ⟨(x18, x7), q19, q8, ho42, f2, f7, f8, o1006, o1008⟩ fun m46 F H hI => ?_
 obtain ⟨⟨x38, x40⟩, q39, q41, ho42, f2, f7, f8, o1006, o1008⟩ := hI
 obtain ⟨m46, rfl, st44, hs45, ho42⟩ := Zq ho42
 rw [hB43] at hs45
 try dsimp only at hs45
 refine PC.seq fun K47 hK47 => SR fun K48 hK48 => m_ f8 <| q3 (q_len Zp o1008 (e_ q41)) <| q1 (Ze rfl rfl rfl z1p) <| nl hK48 <| A4 2 f2 7 f7 8 f8 30 (e_ (B (decide (0 < (x40.length : Int))))) fun F f2 f7 f8 f30 => ?_
 refine cd f30 hs45 (fun hb49 hs45 => ?_) fun hb49 hs45 => ?_
 refine sk hK47 <| A3 2 f2 7 f7 8 f8 fun F f2 f7 f8 => ?_
 refine PC.block <| SR fun K50 hK50 => m_ f8 <| bk hs45 fun x51 hx51 hs45 => PL.ex rfl (Y6 (by decide)) (q_idx (rep := I) zch (fun _ => rfl) o1008 (e_ q41) (e_ (I 0)) hx51) fun p52 ⟨csp52, hlp52, h1p52, h2p52⟩ => q1 (q_ld1 znp (e_ p52) hlp52 (h1p52 _ rfl)) <| q1 (Qn (e_ (I x51))) <| nl hK50 <| A4 2 f2 7 f7 8 f8 11 (e_ (I x51)) fun F f2 f7 f8 f11 => ?_
 refine SR fun K53 hK53 => m_ f8 <| bk hs45 fun x54 hx54 hs45 => PL.ex rfl (Y6 (by decide)) (q_from (rep := I) zch (fun _ => rfl) o1008 (e_ q41) (e_ (I 1)) hx54 (by decide)) fun q55 o1008 => q1 (Qn (e_ q55)) <| nl hK53 <| A4 2 f2 7 f7 8 (e_ q55) 11 f11 fun F f2 f7 f8 f11 => ?_
 refine SR fun K56 hK56 => m_ f2 <| m_ f11 <| bk hs45 fun x57 hx57 hs45 => q3 (callv (e_ (PV.fn (.func a2_f) a2_A a2_B)) a2_g (am (e_ (I x51)) (am0)) (nopa (nopa a2_na (zdk (.u _) (zf3))) a2_nb) (a2_w hx57)) <| q1 (zgr (rep := I) (xs := x57) Zp rfl) <| m_ (e_ (I 0)) <| nl hK56 <| A6 2 f2 7 f7 8 f8 38 (e_ (slI x57)) 39 (e_ (I (x57.length : Int))) 40 (e_ (I 0)) fun F f2 f7 f8 f38 f39 f40 => ?_
 refine PC.block <| bk hs45 fun o68 ho68 hs45 => ?_
 obtain ⟨B69, hB69, ho68⟩ := wa1 ho68
 refine PC.loop (fun m72 F H => ∃ s98 : (Int × (List Bool) × (List Int)), ∃ q65, ∃ q67, zcj B69 m72 s98 = some o68 ∧ F 2 = (PV.fn (.func a2_f) a2_A a2_B) ∧ F 7 = q65 ∧ F 8 = q67 ∧ F 38 = (slI x57) ∧ F 39 = (I (x57.length : Int)) ∧ F 40 = (I s98.1) ∧ ownL 4 1 B H 1006 q65 s98.2.1 ∧ ownQ 3 1 I H 1008 q67 s98.2.2) (m := nn) ⟨(0, x38, x54), q39, q55, ho68, f2, f7, f8, f38, f39, f40, o1006, o1008⟩ fun m72 F H hI => ?_
 obtain ⟨⟨x63, x64, x66⟩, q65, q67, ho68, f2, f7, f8, f38, f39, f40, o1006, o1008⟩ := hI
 obtain ⟨m72, rfl, st70, hs71, ho68⟩ := Zq ho68
 rw [hB69] at hs71
 try dsimp only at hs71
 refine SR fun K73 hK73 => q1 (Ze rfl f40 f39 zdv) <| nl hK73 <| A7 2 f2 7 f7 8 f8 38 f38 39 f39 40 f40 41 (e_ (B (decide (x63 < (x57.length : Int))))) fun F f2 f7 f8 f38 f39 f40 f41 => ?_
 refine PC.seq fun K74 hK74 => ?_
 refine cd f41 hs71 (fun hb75 hs71 => ?_) fun hb75 hs71 => ?_
 refine sk hK74 <| A6 2 f2 7 f7 8 f8 38 f38 39 f39 40 f40 fun F f2 f7 f8 f38 f39 f40 => ?_
 obtain ⟨o77, ho77, hs71⟩ := bs hs71
 refine wca (fun F H => ∃ s93 : ((List Bool) × (List Int)), ∃ q79, ∃ q81, o77 = s93 ∧ F 2 = (PV.fn (.func a2_f) a2_A a2_B) ∧ F 7 = q79 ∧ F 8 = q81 ∧ F 38 = (slI x57) ∧ F 39 = (I (x57.length : Int)) ∧ F 40 = (I x63) ∧ ownL 4 1 B H 1006 q79 s93.1 ∧ ownQ 3 1 I H 1008 q81 s93.2) ?_ ?_
 refine PC.block <| SR fun K82 hK82 => bk ho77 fun x83 hx83 ho77 => q1 (zff (rep := I) (xs := x57) zch f38 f40 hx83) <| q1 (zf0 znp rfl) <| q1 (Qn (e_ (I x83))) <| nl hK82 <| A7 2 f2 7 f7 8 f8 13 (e_ (I x83)) 38 f38 39 f39 40 f40 fun F f2 f7 f8 f13 f38 f39 f40 => ?_
 refine SR fun K84 hK84 => m_ f7 <| m_ f13 <| bk ho77 fun x85 hx85 ho77 => q1 (zpj (rep := B) z2z o1006 rfl rfl hx85) <| q1 (st_ldO zrj rfl o1006 hx85) <| q1 (z1y rfl) <| nl hK84 <| A8 2 f2 7 f7 8 f8 13 f13 38 f38 39 f39 40 f40 48 (e_ (B (!x85))) fun F f2 f7 f8 f13 f38 f39 f40 f48 => ?_
 refine cd f48 ho77 (fun hb86 ho77 => ?_) fun hb86 ho77 => ?_
 refine SR fun K87 hK87 => m_ f7 <| m_ f13 <| bk ho77 fun x88 hx88 ho77 => q1 (zpj (rep := B) z2z o1006 rfl rfl hx88) <| wdy (rep := B) (v := true) rfl rfl (fun _ h => by cases h) (e_ (PV.pp 1006 ((x83 : Int).toNat * 1) (za5 q65))) o1006 zrj hx88 (e_ (B true)) (fun _ => rfl) fun H o1006 fz89 => have o1008 := o1008.mono (fz89 1008 (by decide)); nl hK87 <| A7 2 f2 7 f7 8 f8 13 f13 38 f38 39 f39 40 f40 fun F f2 f7 f8 f13 f38 f39 f40 => ?_
 refine PC.region <| m_ f8 <| m_ f13 <| q3 (z1j (rep := I) (xs := [x83]) zz rfl (by decide) (bm (e_ (I x83)) (bm0)) rfl rfl) <| bk ho77 fun x90 hx90 ho77 => PL.appQ (rep := I) (ys := ([x83] : List Int)) rfl rfl rfl (by decide) zz (e_ q67) o1008 (e_ (slI ([x83] : List Int))) (fun _ => rfl) (lf1 (fun _ => rfl) (fun _ => rfl)) hx90 fun q91 H o1008 fz92 => have o1006 := o1006.mono (fz92 1006 (by decide)); q1 (Qn (e_ q91)) <| PL.nil ?_
 obtain rfl := pz ho77
 exact ⟨((x64.set (x83 : Int).toNat true), x90), q65, q91, rfl, f2, f7, (e_ q91), f38, f39, f40, o1006, o1008⟩
 refine PC.skip ?_
 obtain rfl := pz ho77
 exact ⟨(x64, x66), q65, q67, rfl, f2, f7, f8, f38, f39, f40, o1006, o1008⟩
 intro F H hI
 obtain ⟨⟨x78, x80⟩, q79, q81, ho, f2, f7, f8, f38, f39, f40, o1006, o1008⟩ := hI
 have ho := ho.symm
 subst ho
 try dsimp only at hs71
 refine PC.region <| q1 (Ze rfl f40 rfl zqg) <| m_ (e_ (I (w64 (x63 + 1)))) <| PL.nil ?_
 obtain rfl := pz hs71
 exact ⟨m72, wgz _, _, q79, q81, ho68, f2, f7, f8, f38, f39, rfl, o1006, o1008⟩
 refine PC.exit ?_
 obtain rfl := pz hs71
 try dsimp only at ho68
 subst ho68
 try dsimp only at hs45
 obtain rfl := pz hs45
 exact ⟨m46, wgz _, _, q65, q67, ho42, f2, f7, f8, o1006, o1008⟩
 refine PC.exit ?_
 obtain rfl := pz hs45
 try dsimp only at ho42
 subst ho42
 try dsimp only at h0
 refine hK33 _ _ <| A1 7 f7 fun F f7 => ?_
 refine SR fun K99 hK99 => m_ f7 <| q1 (Qn (e_ q39)) <| nl hK99 <| A1 6 (e_ q39) fun F f6 => ?_
 refine wb8 (rep := B) 6 f6 o1006 (fun _ => rfl) fun H fz100 => PC.ret ?_
 obtain rfl := pz h0
 exact fin (.inr rfl) (zcp Tryz.results113 (e_ (slB x38))) (zj4 _)
noncomputable def Qs(a0:qd):G (List Bool):=
 G.bind (Yl a0) λx4=>G.cond (!x4) (G.pure []) (G.bind (Qc (a0.jw.length:Int) ([0]:List Int) (λy8=>Jt y8 a0)) λx9=>G.pure x9)
theorem zla {nn : Nat} {a0 : qd} {r : (List Bool)} (h0 : Qs a0 nn = some r) : PCall Tryz.prog 76 [qn a0] (· = slB r) := by
 unfold Qs at h0
 refine waf Tryz.func76 rfl Tryz.ntmps76 (by simp) fun W => A1 0 (e_ (qn a0)) fun F f0 => ?_
 generalize PHeap.empty = H
 refine SR fun K1 hK1 => q3 (z8m f0 (zeq _ _)) <| q3 (zln (k := 1)) <| nl hK1 <| A1 1 (e_ (PV.rp (qn a0).cells)) fun F f1 => ?_
 refine PC.seq fun K2 hK2 => SR fun K3 hK3 => q1 (zyc zv0 f1 (Z5 _)) <| bk h0 fun x4 hx4 h0 => q3 (zu5 (by kernel_rfl) (am rfl (am0)) (zdk (J9 _) (zf3)) (zhz hx4)) <| q1 (z1y rfl) <| nl hK3 <| A2 1 f1 5 (e_ (B (!x4))) fun F f1 f5 => ?_
 refine cd f5 h0 (fun hb5 h0 => ?_) fun hb5 h0 => ?_
 refine SR fun K6 hK6 => q3 (zln (k := 1)) <| nl hK6 <| A1 2 (e_ (slB [])) fun F f2 => ?_
 refine PC.ret ?_
 obtain rfl := pz h0
 exact fin (.inr rfl) (zcp Tryz.results76 f2) (zj4 _)
 refine sk hK2 <| A1 1 f1 fun F f1 => ?_
 refine SR fun K7 hK7 => q1 (zpy zkg za2 (by decide) f1) <| q1 (zjl za2 rfl (Zy a0)) <| q1 (zgr (rep := slI) (xs := a0.jw) zil rfl) <| q3 (z1j (rep := I) (xs := [0]) zz rfl (by decide) (bm (e_ (I 0)) (bm0)) rfl rfl) <| q1 (z9i (am0) (am f1 (am0))) <| bk h0 fun x9 hx9 h0 => q3 (zu5 (by kernel_rfl) (am rfl (am rfl (am rfl (am0)))) (zdk (.u _) (zdk (zc5 _) (zdk (.fn _ _ _ (zf3) (zdk (.rp _ (zbt (J9 _))) (zf3))) (zf3)))) (zfo (zf3) (zdk (.rp _ (zbt (J9 _))) (zf3)) (by kernel_rfl) (fun h => zif h) hx9)) <| q1 (Qn (e_ (slB x9))) <| nl hK7 <| A1 2 (e_ (slB x9)) fun F f2 => ?_
 refine PC.ret ?_
 obtain rfl := pz h0
 exact fin (.inr rfl) (zcp Tryz.results76 f2) (zj4 _)
noncomputable def Qo(a0:Int)(c0:(List (List Int))):G (List Int):=
 G.bind (G.lift (idx c0 a0)) λx3=>G.pure x3
theorem zm5 {nn : Nat} {a0 : Int} {c0 : (List (List Int))} {r : (List Int)} (h0 : Qo a0 c0 nn = some r) : PCall Tryz.prog 116 [I a0, PV.rp (zmv c0).cells] (· = slI r) := by
 unfold Qo at h0
 refine waf Tryz.func116 rfl Tryz.ntmps116 (by simp) fun W => A2 0 (e_ (I a0)) 1 (e_ (PV.rp (zmv c0).cells)) fun F f0 f1 => ?_
 generalize PHeap.empty = H
 refine SR fun K1 hK1 => q3 (zln (k := 1)) <| nl hK1 <| A2 0 f0 1 f1 fun F f0 f1 => ?_
 refine SR fun K2 hK2 => q1 (zf0 za2 f1) <| m_ f0 <| bk h0 fun x3 hx3 h0 => q1 (zff (rep := slI) (xs := c0) zge rfl rfl hx3) <| q1 (zf0 zeo rfl) <| q1 (Qn (e_ (slI x3))) <| nl hK2 <| A1 3 (e_ (slI x3)) fun F f3 => ?_
 refine PC.ret ?_
 obtain rfl := pz h0
 exact fin (.inr rfl) (zcp Tryz.results116 f3) (zc5 _)
noncomputable def Za(a0:qd):G (List Bool):=
 G.bind (Yl a0) λx4=>G.cond (!x4) (G.pure []) (G.bind (G.lift (mkS 24 ([]:(List Int)) (a0.jw.length:Int))) λx8=>G.bind (G.loop (σ:=(Int×(List Int)×(List (List Int)))) (α:=((List Int)×(List (List Int)))) (λ(x22,x23,x25)=>G.cond (decide (x22<(a0.Ja.length:Int))) (G.bind (α:=((List Int)×(List (List Int)))) (G.bind (G.lift (idx a0.Ja x22)) λx42=>G.bind (Zf a0 x22) λx45=>G.bind (G.loop (σ:=(Int×(List (List Int)))) (α:=(List (List Int))) (λ(x51,x52)=>G.cond (decide (x51<(x45.length:Int))) (G.bind (G.lift (idx x45 x51)) λx64=>G.bind (G.lift (idx x52 x64)) λx65=>G.bind (G.lift (app 8 x65 ([x22]:List Int))) λx67=>G.bind (G.lift (idx x52 x64)) λx70=>G.pure (.inl ((w64 (x51+1)),(x52.set (x64:Int).toNat x67)))) (G.pure (.inr x52))) (0,x25)) λx77=>G.cond (decide (0<=x42)) (G.bind (G.lift (app 8 x23 ([x22]:List Int))) λx81=>G.pure (x81,x77)) (G.pure (x23,x77))) λ(x37,x39)=>G.pure (.inl ((w64 (x22+1)),x37,x39))) (G.pure (.inr (x23,x25)))) (0,[],x8)) λ(x91,x93)=>G.bind (Qc (a0.jw.length:Int) x91 (λy98=>Qo y98 x93)) λx99=>G.pure x99)
theorem zso {nn : Nat} {a0 : qd} {r : (List Bool)} (h0 : Za a0 nn = some r) : PCall Tryz.prog 77 [qn a0] (· = slB r) := by
 unfold Za at h0
 refine waf Tryz.func77 rfl Tryz.ntmps77 (by simp) fun W => A1 0 (e_ (qn a0)) fun F f0 => ?_
 generalize PHeap.empty = H
 refine SR fun K1 hK1 => q3 (z8m f0 (zeq _ _)) <| q3 (zln (k := 1)) <| nl hK1 <| A1 1 (e_ (PV.rp (qn a0).cells)) fun F f1 => ?_
 refine PC.seq fun K2 hK2 => SR fun K3 hK3 => q1 (zyc zv0 f1 (Z5 _)) <| bk h0 fun x4 hx4 h0 => q3 (zu5 (by kernel_rfl) (am rfl (am0)) (zdk (J9 _) (zf3)) (zhz hx4)) <| q1 (z1y rfl) <| nl hK3 <| A2 1 f1 11 (e_ (B (!x4))) fun F f1 f11 => ?_
 refine cd f11 h0 (fun hb5 h0 => ?_) fun hb5 h0 => ?_
 refine SR fun K6 hK6 => q3 (zln (k := 1)) <| nl hK6 <| A1 2 (e_ (slB [])) fun F f2 => ?_
 refine PC.ret ?_
 obtain rfl := pz h0
 exact fin (.inr rfl) (zcp Tryz.results77 f2) (zj4 _)
 refine sk hK2 <| A1 1 f1 fun F f1 => ?_
 refine SR fun K7 hK7 => q1 (zpy zkg za2 (by decide) f1) <| q1 (zjl za2 rfl (Zy a0)) <| q1 (zgr (rep := slI) (xs := a0.jw) zil rfl) <| bk h0 fun x8 hx8 h0 => wde (e := 3) (rep := I) 1015 100000 (by decide) rfl rfl rfl (by decide) zzj (e_ (I (a0.jw.length : Int))) hx8 fun q9 H o1015 fz10 => war 203 (cs := [(PV.u (.slice none 0 0))]) rfl rfl rfl (by decide) jad (by kernel_rfl) (by kernel_rfl) fun v203 H b203 fz11 => have o1015 := o1015.mono (fz11 1015 (by decide)) (fun j hj => fz11 j (by omega)); PL.recell (cs' := [(zmv [])]) b203 (WeakL.cons (Weak.nil _) WeakL.nil) fun H b203 fz12 => have o1015 := o1015.mono (fz12 1015 (by decide)) (fun j hj => fz12 j (by omega)); wao (ag := false) (cs' := [q9]) (ps := [q9]) rfl rfl (fun _ h => by cases h) (e_ (PV.pp 203 0 v203)) b203 za2 (e_ q9) (ll_ok o1015) (jbv o1015) rfl (by decide) rfl fun H b203 fz13 => have o1015 := o1015.mono (fz13 1015 (by decide)) (fun j hj => fz13 j (by omega)); nl hK7 <| A2 1 f1 3 (e_ (PV.pp 203 0 v203)) fun F f1 f3 => ?_
 refine SR fun K14 hK14 => q1 (Qn rfl) ?_
 have o1004 : ownL 3 1 I H 1004 (PV.u (.slice none 0 0)) [] := ownL.nil _ _
 refine nl hK14 <| A3 1 f1 3 f3 4 (e_ (PV.u (.slice none 0 0))) fun F f1 f3 f4 => ?_
 refine PC.seq fun K15 hK15 => SR fun K16 hK16 => q1 (zpy jbe zeo (by decide) f1) <| q1 (zjl zeo rfl (ztq a0)) <| q1 (zgr (rep := I) (xs := a0.Ja) Zp rfl) <| m_ (e_ (I 0)) <| nl hK16 <| A6 1 f1 3 f3 4 f4 17 (e_ (slI a0.Ja)) 18 (e_ (I (a0.Ja.length : Int))) 19 (e_ (I 0)) fun F f1 f3 f4 f17 f18 f19 => ?_
 refine PC.block <| bk h0 fun o27 ho27 h0 => ?_
 obtain ⟨B28, hB28, ho27⟩ := wa1 ho27
 refine PC.loop (fun m31 F H => ∃ s100 : (Int × (List Int) × (List (List Int))), ∃ q24, ∃ q26, zcj B28 m31 s100 = some o27 ∧ F 1 = (PV.rp (qn a0).cells) ∧ F 3 = (PV.pp 203 0 v203) ∧ F 4 = q24 ∧ F 17 = (slI a0.Ja) ∧ F 18 = (I (a0.Ja.length : Int)) ∧ F 19 = (I s100.1) ∧ H 203 = ⟨v203, some (.box 30 [q26])⟩ ∧ ownL 3 1 I H 1004 q24 s100.2.1 ∧ ownLL 31 3 100000 I H 1015 q26 s100.2.2) (m := nn) ⟨(0, [], x8), (PV.u (.slice none 0 0)), q9, ho27, f1, f3, f4, f17, f18, f19, b203, o1004, o1015⟩ fun m31 F H hI => ?_
 obtain ⟨⟨x22, x23, x25⟩, q24, q26, ho27, f1, f3, f4, f17, f18, f19, b203, o1004, o1015⟩ := hI
 obtain ⟨m31, rfl, st29, hs30, ho27⟩ := Zq ho27
 rw [hB28] at hs30
 try dsimp only at hs30
 refine SR fun K32 hK32 => q1 (Ze rfl f19 f18 zdv) <| nl hK32 <| A7 1 f1 3 f3 4 f4 17 f17 18 f18 19 f19 20 (e_ (B (decide (x22 < (a0.Ja.length : Int))))) fun F f1 f3 f4 f17 f18 f19 f20 => ?_
 refine PC.seq fun K33 hK33 => ?_
 refine cd f20 hs30 (fun hb34 hs30 => ?_) fun hb34 hs30 => ?_
 refine sk hK33 <| A6 1 f1 3 f3 4 f4 17 f17 18 f18 19 f19 fun F f1 f3 f4 f17 f18 f19 => ?_
 obtain ⟨o36, ho36, hs30⟩ := bs hs30
 refine wca (fun F H => ∃ s85 : ((List Int) × (List (List Int))), ∃ q38, ∃ q40, o36 = s85 ∧ F 1 = (PV.rp (qn a0).cells) ∧ F 3 = (PV.pp 203 0 v203) ∧ F 4 = q38 ∧ F 17 = (slI a0.Ja) ∧ F 18 = (I (a0.Ja.length : Int)) ∧ F 19 = (I x22) ∧ H 203 = ⟨v203, some (.box 30 [q40])⟩ ∧ ownL 3 1 I H 1004 q38 s85.1 ∧ ownLL 31 3 100000 I H 1015 q40 s85.2) ?_ ?_
 refine PC.block <| SR fun K41 hK41 => m_ f19 <| bk ho36 fun x42 hx42 ho36 => q1 (zff (rep := I) (xs := a0.Ja) zch f17 f19 hx42) <| q1 (zf0 znp rfl) <| q1 (Qn (e_ (I x22))) <| q1 (Qn (e_ (I x42))) <| nl hK41 <| A8 1 f1 3 f3 4 f4 5 (e_ (I x22)) 6 (e_ (I x42)) 17 f17 18 f18 19 f19 fun F f1 f3 f4 f5 f6 f17 f18 f19 => ?_
 refine PC.seq fun K43 hK43 => SR fun K44 hK44 => q1 (zyc zv0 f1 (Z5 _)) <| m_ f5 <| bk ho36 fun x45 hx45 ho36 => q3 (zu5 (by kernel_rfl) (am rfl (am rfl (am0))) (zdk (J9 _) (zdk (.u _) (zf3))) (zm8 hx45)) <| q1 (zgr (rep := I) (xs := x45) Zp rfl) <| m_ (e_ (I 0)) <| nl hK44 <| A11 1 f1 3 f3 4 f4 5 f5 6 f6 17 f17 18 f18 19 f19 26 (e_ (slI x45)) 27 (e_ (I (x45.length : Int))) 28 (e_ (I 0)) fun F f1 f3 f4 f5 f6 f17 f18 f19 f26 f27 f28 => ?_
 refine PC.block <| bk ho36 fun o54 ho54 ho36 => ?_
 obtain ⟨B55, hB55, ho54⟩ := wa1 ho54
 refine PC.loop (fun m58 F H => ∃ s84 : (Int × (List (List Int))), ∃ q53, zcj B55 m58 s84 = some o54 ∧ F 1 = (PV.rp (qn a0).cells) ∧ F 3 = (PV.pp 203 0 v203) ∧ F 4 = q24 ∧ F 5 = (I x22) ∧ F 6 = (I x42) ∧ F 17 = (slI a0.Ja) ∧ F 18 = (I (a0.Ja.length : Int)) ∧ F 19 = (I x22) ∧ F 26 = (slI x45) ∧ F 27 = (I (x45.length : Int)) ∧ F 28 = (I s84.1) ∧ H 203 = ⟨v203, some (.box 30 [q53])⟩ ∧ ownL 3 1 I H 1004 q24 x23 ∧ ownLL 31 3 100000 I H 1015 q53 s84.2) (m := nn) ⟨(0, x25), q26, ho54, f1, f3, f4, f5, f6, f17, f18, f19, f26, f27, f28, b203, o1004, o1015⟩ fun m58 F H hI => ?_
 obtain ⟨⟨x51, x52⟩, q53, ho54, f1, f3, f4, f5, f6, f17, f18, f19, f26, f27, f28, b203, o1004, o1015⟩ := hI
 obtain ⟨m58, rfl, st56, hs57, ho54⟩ := Zq ho54
 rw [hB55] at hs57
 try dsimp only at hs57
 refine SR fun K59 hK59 => q1 (Ze rfl f28 f27 zdv) <| nl hK59 <| A12 1 f1 3 f3 4 f4 5 f5 6 f6 17 f17 18 f18 19 f19 26 f26 27 f27 28 f28 29 (e_ (B (decide (x51 < (x45.length : Int))))) fun F f1 f3 f4 f5 f6 f17 f18 f19 f26 f27 f28 f29 => ?_
 refine PC.seq fun K60 hK60 => ?_
 refine cd f29 hs57 (fun hb61 hs57 => ?_) fun hb61 hs57 => ?_
 refine sk hK60 <| A11 1 f1 3 f3 4 f4 5 f5 6 f6 17 f17 18 f18 19 f19 26 f26 27 f27 28 f28 fun F f1 f3 f4 f5 f6 f17 f18 f19 f26 f27 f28 => ?_
 refine PC.seq fun K62 hK62 => PC.block <| SR fun K63 hK63 => bk hs57 fun x64 hx64 hs57 => q1 (zff (rep := I) (xs := x45) zch f26 f28 hx64) <| q1 (zf0 znp rfl) <| q1 (Qn (e_ (I x64))) <| nl hK63 <| A12 1 f1 3 f3 4 f4 5 f5 6 f6 8 (e_ (I x64)) 17 f17 18 f18 19 f19 26 f26 27 f27 28 f28 fun F f1 f3 f4 f5 f6 f8 f17 f18 f19 f26 f27 f28 => ?_
 obtain ⟨x65, hx65, hs57⟩ := bs hs57
 obtain ⟨x67, hx67, hs57⟩ := bs hs57
 refine wc3 (fun H' => ∀ j, j < 100000 → H' j = H j) (fun pq H' => ownL 3 1 I H' (100000 + (x64 : Int).toNat) pq x67 ∧ ∀ j, j ≠ (100000 + (x64 : Int).toNat) → H' j = H j) 9 8 [0, 1, 2, 3, 4, 5, 6, 7] [9, 10] mixed (by kernel_rfl) rfl rfl (by decide) rfl (fun _ _ => rfl) (fun p H' h j hj => h.2 j (by omega)) <| JF.q (p := q53) rfl (Y6 (by decide)) (fun hJ => jat za2 f3 ((hJ 203 (by decide)).trans b203) rfl) <| JF.q (p := (I x64)) rfl (Y6 (by decide)) (fun hJ => z4u f8) <| JF.q (p := q53) rfl (Y6 (by decide)) (fun hJ => jat za2 f3 ((hJ 203 (by decide)).trans b203) rfl) <| JF.q (p := (I x64)) rfl (Y6 (by decide)) (fun hJ => z4u f8) <| JF.q (p := (PV.pp 1015 ((x64 : Int).toNat * 1) (za5 q53))) rfl (Y6 (by decide)) (fun hJ => z4r zge o1015 (hJ 1015 (by decide)) (e_ q53) (e_ (I x64)) hx65) <| JF.ex rfl (Y6 (by decide)) (ll_ldJ zeo o1015 (fun H' hJ => hJ 1015 (by decide)) (e_ (PV.pp 1015 ((x64 : Int).toNat * 1) (za5 q53))) hx65) fun p66 cp66 => JF.q (p := (I x22)) rfl (Y6 (by decide)) (fun hJ => z4u f5) <| JF.qq (p := (slI ([x22] : List Int))) rfl (Y6 (by decide)) (fun hJ => z1j (rep := I) (xs := [x22]) zz rfl (by decide) (bm (e_ (I x22)) (bm0)) rfl rfl) ?_
 refine JF.nil ⟨fun F2 hF2 => wdk (rep := I) (ys := ([x22] : List Int)) (id := (100000 + (x64 : Int).toNat)) rfl rfl (by decide) zz ((hF2 37 (by simp [Op.operands, Call.operands])).trans (e_ p66)) (cp66.inner hx65) ((hF2 39 (by simp [Op.operands, Call.operands])).trans (e_ (slI ([x22] : List Int)))) (fun _ => rfl) (fun _ => rfl) hx67, fun q68 H ⟨oiq68, fz69⟩ => ?_⟩
 obtain ⟨x70, hx70, hs57⟩ := bs hs57
 refine q1 (z4r zge o1015 (fz69 1015 (by omega)) (e_ q53) (e_ (I x64)) hx70) <| wdd (by decide) rfl rfl rfl zeo cp66 fz69 oiq68 hx65 (e_ q68) (e_ (PV.pp 1015 ((x64 : Int).toNat * 1) (za5 q53))) fun H o1015 fz71 => have b203 := (fz71 203 (by decide) (by decide)).trans b203; have o1004 := o1004.mono (fz71 1004 (by decide) (by decide)); nl hK62 <| A11 1 f1 3 f3 4 f4 5 f5 6 f6 17 f17 18 f18 19 f19 26 f26 27 f27 28 f28 fun F f1 f3 f4 f5 f6 f17 f18 f19 f26 f27 f28 => ?_
 refine PC.region <| q1 (Ze rfl f28 rfl zqg) <| m_ (e_ (I (w64 (x51 + 1)))) <| PL.nil ?_
 obtain rfl := pz hs57
 exact ⟨m58, wgz _, _, q53, ho54, f1, f3, f4, f5, f6, f17, f18, f19, f26, f27, rfl, b203, o1004, o1015⟩
 refine PC.exit ?_
 obtain rfl := pz hs57
 try dsimp only at ho54
 subst ho54
 try dsimp only at ho36
 refine hK43 _ _ <| A8 1 f1 3 f3 4 f4 5 f5 6 f6 17 f17 18 f18 19 f19 fun F f1 f3 f4 f5 f6 f17 f18 f19 => ?_
 refine SR fun K72 hK72 => m_ f6 <| q1 (Ze rfl rfl rfl zqw) <| nl hK72 <| A8 1 f1 3 f3 4 f4 5 f5 17 f17 18 f18 19 f19 44 (e_ (B (decide (0 ≤ x42)))) fun F f1 f3 f4 f5 f17 f18 f19 f44 => ?_
 refine cd f44 ho36 (fun hb73 ho36 => ?_) fun hb73 ho36 => ?_
 refine PC.region <| m_ f4 <| m_ f5 <| q3 (z1j (rep := I) (xs := [x22]) zz rfl (by decide) (bm (e_ (I x22)) (bm0)) rfl rfl) <| bk ho36 fun x74 hx74 ho36 => wdh (rep := I) (ys := ([x22] : List Int)) rfl rfl rfl (by decide) zz (e_ q24) o1004 (e_ (slI ([x22] : List Int))) (fun _ => rfl) (lf1 (fun _ => rfl) (fun _ => rfl)) hx74 fun q75 H o1004 fz76 => have o1015 := o1015.mono (fz76 1015 (by decide)) (fun j hj => fz76 j (by omega)); have b203 := (fz76 203 (by decide)).trans b203; q1 (Qn (e_ q75)) <| PL.nil ?_
 obtain rfl := pz ho36
 exact ⟨(x74, x52), q75, q53, rfl, f1, f3, (e_ q75), f17, f18, f19, b203, o1004, o1015⟩
 refine PC.skip ?_
 obtain rfl := pz ho36
 exact ⟨(x23, x52), q24, q53, rfl, f1, f3, f4, f17, f18, f19, b203, o1004, o1015⟩
 intro F H hI
 obtain ⟨⟨x37, x39⟩, q38, q40, ho, f1, f3, f4, f17, f18, f19, b203, o1004, o1015⟩ := hI
 have ho := ho.symm
 subst ho
 try dsimp only at hs30
 refine PC.region <| q1 (Ze rfl f19 rfl zqg) <| m_ (e_ (I (w64 (x22 + 1)))) <| PL.nil ?_
 obtain rfl := pz hs30
 exact ⟨m31, wgz _, _, q38, q40, ho27, f1, f3, f4, f17, f18, rfl, b203, o1004, o1015⟩
 refine PC.exit ?_
 obtain rfl := pz hs30
 try dsimp only at ho27
 subst ho27
 try dsimp only at h0
 refine hK15 _ _ <| A3 1 f1 3 f3 4 f4 fun F f1 f3 f4 => ?_
 refine PC.seq fun K86 hK86 => wb8 (rep := I) 4 f4 o1004 (fun _ => rfl) fun H fz87 => have o1015 := o1015.mono (fz87 1015 (by decide)) (fun j hj => fz87 j (by omega)); have b203 := (fz87 203 (by decide)).trans b203; wc4 (fun i => i == 203 || i == 1015 || decide (100000 ≤ i)) 3 f3 (z14 b203 o1015 (fun _ => rfl) (fun _ => (.u _)) rfl rfl (fun j hj => by simp [hj])) (.rp _ (zbt (p := zmv x25) (zbw _))) fun H fz88 => PC.region <| q1 (zpy zkg za2 (by decide) f1) <| q1 (zjl za2 rfl (Zy a0)) <| q1 (zgr (rep := slI) (xs := a0.jw) zil rfl) <| m_ (e_ (slI x23)) <| q1 (z9i (am0) (am rfl (am0))) <| bk h0 fun x90 hx90 h0 => q3 (zu5 (by kernel_rfl) (am rfl (am rfl (am rfl (am0)))) (zdk (.u _) (zdk (zc5 _) (zdk (.fn _ _ _ (zf3) (zdk (.rp _ (zbt (zbw _))) (zf3))) (zf3)))) (zfo (zf3) (zdk (.rp _ (zbt (zbw _))) (zf3)) (by kernel_rfl) (fun h => zm5 h) hx90)) <| q1 (Qn (e_ (slB x90))) <| nl hK86 <| A1 2 (e_ (slB x90)) fun F f2 => ?_
 refine PC.ret ?_
 obtain rfl := pz h0
 exact fin (.inr rfl) (zcp Tryz.results77 f2) (zj4 _)
end Go.Proofs.YtdllbdlnmjngcaaGreat
namespace Go.Proofs.YtdllbdlnmjngcaaGreat.T
set_option maxRecDepth 100000
set_option maxHeartbeats 8000000
set_option linter.unusedVariables false
set_option linter.unusedSimpArgs false
open Go Go.RowKit L
noncomputable def Qk(nn:Nat)(a0:D_api_Dfa):Option (List Bool):=Qs (zhc a0) nn
noncomputable abbrev zr2 (nn:Nat):PF:=⟨[Y_api_Dfa],(.sl .bool),λt=>Qk nn t⟩
theorem zc4(nn:Nat):jz 76 (zr2 nn):=⟨by kernel_rfl,λt r h=>by
 have:=zla h;rw[<- zm1]at this;exact this⟩
noncomputable def ze7(nn:Nat)(a0:D_api_Dfa):Option (List Bool):=Za (zhc a0) nn
noncomputable abbrev zwj (nn:Nat):PF:=⟨[Y_api_Dfa],(.sl .bool),λt=>ze7 nn t⟩
theorem zn5(nn:Nat):jz 77 (zwj nn):=⟨by kernel_rfl,λt r h=>by
 have:=zso h;rw[<- zm1]at this;exact this⟩
noncomputable def Ji(nn:Nat)(a0:D_api_Dfa):Option (List Int):=jb (Qk nn a0) λa=>jm (σ:=(List Bool)×Int×Int×D_api_Dfa×(List Int)) (λ(b,c,d,e,f)g=>ifB (decide (d<c)) (J (σ:=(List Bool)×Int×Int×D_api_Dfa×(List Int)) (λ(h,i,j,k,l)=>jb (some (w64 (j+1))) λn=>g (h,i,n,k,l)) λm=>jb (atL b d) λo=>J (σ:=Int×(List Bool)×Int×Int×Bool×D_api_Dfa×(List Int)) (λ(p,q,r,s,u,v,w)=>ifB u (jb (atL v.2.2.2.1 p) λy=>jb (apO 8 w [y]) λz=>m (q,r,s,v,z)) (m (q,r,s,v,w))) λx=>ifB o (jb (atL e.2.2.2.1 d) λb0=>x (d,b,c,d,decide (0<=b0),e,f)) (x (d,b,c,d,false,e,f))) (jb (small7 f (Zd f)) λb1=>jb (small7 b1 (Qj b1)) λb2=>some b2)) nn (a,(a.length:Int),0,a0,[])
noncomputable def ztb:=lk (α:=HK) [(58,me [vp 1 0,vo 3 1,(7,.v LB),vi 8,vi 9] [.box 33 [.v Y_api_Dfa],.row 3 I6] 2),(934,me [vp 1 0,vo 3 1,(7,.v LB),vi 8,vi 9] [.box 33 [.v Y_api_Dfa],.row 3 I6] 2),(7474,me [vp 1 0,vo 3 1,vi 4,(7,.v LB),vi 8,vi 9,vb 22] [.box 33 [.v Y_api_Dfa],.row 3 I6] 2)]
theorem zmz(nn:Nat):FFOk 106 ⟨[Y_api_Dfa],3,I6,λt=>Ji nn t⟩:=mk2 Tryz.func106 nn 0 [(0,[31])] [(0,[(29,.told I6)])] [] [] itn ztb rn gn (tc (zc4 nn) tn) (by kernel_rfl) λt=>by kernel_rfl
theorem zld(nn:Nat):jz 106 ⟨[Y_api_Dfa],L6,λt=>Ji nn t⟩:=(zmz nn).pure
noncomputable def yu(nn:Nat)(a0:(List Int))(a1:Int):Option Int:=jm (σ:=(List Int)×Int×Int×Int) (λ(a,b,c,d)e=>ifB (decide (d<c)) (jb (atL a d) λf=>ifB (decide (b=f)) (some d) (jb (some (w64 (d+1))) λg=>e (a,b,c,g))) (some (-1))) nn (a0,a1,(a0.length:Int),0)
noncomputable def zck:=lk (α:=HK) [(26,me [vl 0,vi 1,vi 7,vi 8] [] 0)]
theorem zax(nn:Nat):jz 165 ⟨[L6,I6],I6,λt=>yu nn (t.1) (t.2)⟩:=mk1 Tryz.func165 nn 0 [(0,[18])] [] [] [] itn zck rn gn tn (by kernel_rfl) λt=>by kernel_rfl
noncomputable def ya(nn:Nat)(a0:(List Int))(a1:Int):Option Bool:=jb (yu nn a0 a1) λa=>some (decide (0<=a))
theorem Zc(nn:Nat):jz 108 ⟨[L6,I6],.bool,λt=>ya nn (t.1) (t.2)⟩:=mk1 Tryz.func108 nn 0 [] [] [] [] itn h0 rn gn (tc (zax nn) tn) (by kernel_rfl) λt=>by kernel_rfl
noncomputable def zk(nn:Nat)(a0:(Option Jk)):Option jc:=jb (a0) λa=>jb (Ji nn a.2.1) λb=>J (λ(c:jc)=>some c) λd=>jb (a0) λe=>jm (σ:=Int×Int×Int×Int×(List Int)×jc) (λ(f,g,h,i,j,k)l=>ifB (decide (i<h)) (jb (ya nn j i) λm=>ifB (!m) (d (f,i,g,())) (jb (some (w64 (i+1))) λn=>l (f,g,h,n,j,k))) (d (0,0,0,()))) nn (13,1,(e.1.1.length:Int),0,b,(0,0,0,()))
noncomputable def zd5:=lk (α:=HK) [(14,me [vp 2 0] [.box 36 [.v jd]] 1)]
noncomputable def zb9:=lk (α:=HK) [(26,me [vi 1,vi 2,(3,.fn 107 [] [.pt 0 0]),vp 8 1,vi 10,vi 11] [.box 31 [.v L6],.box 36 [.v jd]] 2)]
theorem zcd(nn:Nat):jz 71 ⟨[(.ref Jj)],jd,λt=>zk nn t⟩:=mk1 Tryz.func71 nn 9 [(1,[22])] [] [] [] (itc 1350059 Tryz.func59 zb9 1 [] (itc 10002580107 Tryz.func107 h0 2 [] itn (by kernel_rfl)) (by kernel_rfl)) zd5 rn gn (tc (zld nn) (tc (Zc nn) tn)) (by kernel_rfl) λt=>by kernel_rfl
noncomputable def zcx(nn:Nat)(a0:D_api_Dfa):Option D_api_Dfa:=jb (p_dfa_Right nn a0) λa=>ifB (!a) (some (⟨List.replicate 256 0,wd6⟩,0,[],[],())) (jb (Qk nn a0) λb=>jb (ze7 nn a0) λc=>jb (some (a0.2.2.1.length:Int)) λd=>jb (mkO 8 d) λe=>jm (σ:=(List Bool)×(List Bool)×Int×Int×D_api_Dfa×(Arr 256 Int)×Int×(List Int)×(List Int)×(List (List Int))×(List Int)) (λ(f,g,h,i,j,k,l,m,n,o,p)q=>ifB (decide (i<h)) (J (σ:=(List Bool)×(List Bool)×Int×Int×D_api_Dfa×(Arr 256 Int)×Int×(List Int)×(List Int)×(List (List Int))×(List Int)) (λ(r,s,u,v,w,x,y,z,b0,b1,b2)=>jb (some (w64 (v+1))) λb4=>q (r,s,u,b4,w,x,y,z,b0,b1,b2)) λb3=>jb (qu m.length i) λb5=>jb (Yc m b5 (-1)) λb6=>J (σ:=(List Bool)×(List Bool)×Int×Int×Int×Bool×D_api_Dfa×(Arr 256 Int)×Int×(List Int)×(List Int)×(List (List Int))×(List Int)) (λ(b7,b8,b9,c0,c1,c2,c3,c4,c5,c6,c7,c8,c9)=>ifB c2 (jb (qu c6.length b9) λd1=>jb (Yc c6 d1 (c7.length:Int)) λd2=>jb (apO 8 c7 [b9]) λd3=>b3 (b7,b8,c0,c1,c3,c4,c5,d2,d3,c8,c9)) (b3 (b7,b8,c0,c1,c3,c4,c5,c6,c7,c8,c9))) λd0=>jb (some (decide (i=0))) λd4=>ifB d4 (d0 (f,g,i,h,i,true,j,k,l,b6,n,o,p)) (jb (atL f i) λd5=>ifB d5 (jb (atL g i) λd6=>d0 (f,g,i,h,i,d6,j,k,l,b6,n,o,p)) (d0 (f,g,i,h,i,false,j,k,l,b6,n,o,p)))) (jm (σ:=Int×Int×D_api_Dfa×(Arr 256 Int)×Int×(List Int)×(Arr 256 Int)×Int×(List Int)×(List (List Int))×(List Int)×(List (List Int))×(List Int)) (λ(d7,d8,d9,e0,e1,e2,e3,e4,e5,e6,e7,e8,e9)f0=>ifB (decide (d8<d7)) (jb (qu e5.length d8) λf1=>jb (atL e5 f1) λf2=>jb (mkO 8 d9.2.1) λf3=>jb (atL d9.2.2.1 f2) λf4=>jb (jbl (List.replicate f3 (0:Int)) f4) λf5=>jm (σ:=Int×Int×Int×Int×Int×D_api_Dfa×(Arr 256 Int)×Int×(List Int)×(Arr 256 Int)×Int×(List Int)×(List Int)×(List (List Int))×(List Int)×(List (List Int))×(List Int)) (λ(f6,f7,f8,f9,g0,g1,g2,g3,g4,g5,g6,g7,g8,g9,h0,h1,h2)h3=>ifB (decide (g0<f9)) (J (σ:=Int×Int×Int×Int×Int×D_api_Dfa×(Arr 256 Int)×Int×(List Int)×(Arr 256 Int)×Int×(List Int)×(List Int)×(List (List Int))×(List Int)×(List (List Int))×(List Int)) (λ(h4,h5,h6,h7,h8,h9,i0,i1,i2,i3,i4,i5,i6,i7,i8,i9,j0)=>jb (some (w64 (h8+1))) λj2=>h3 (h4,h5,h6,h7,j2,h9,i0,i1,i2,i3,i4,i5,i6,i7,i8,i9,j0)) λj1=>jb (qu g7.length g0) λj3=>jb (atL g7 j3) λj4=>ifB (decide (0<=j4)) (jb (qu g4.length j4) λj5=>jb (atL g4 j5) λj6=>jb (qu g7.length g0) λj7=>jb (Yc g7 j7 j6) λj8=>j1 (f6,f7,f8,f9,g0,g1,g2,g3,g4,g5,g6,j8,g8,g9,h0,h1,h2)) (j1 (f6,f7,f8,f9,g0,g1,g2,g3,g4,g5,g6,g7,g8,g9,h0,h1,h2))) (jb (apO 24 h1 [g7]) λj9=>jb (atL g1.2.2.2.1 f6) λk0=>jb (apO 8 h2 [k0]) λk1=>jb (some (w64 (f8+1))) λk2=>f0 (f7,k2,g1,g2,g3,g4,g5,g6,g8,g9,h0,j9,k1))) nn (f2,d7,d8,(f5.2.length:Int),0,d9,e0,e1,e2,e3,e4,f5.2,e5,e6,e7,e8,e9)) (some (e3,e4,e8,e9,()))) nn ((n.length:Int),0,j,k,l,m,j.1,j.2.1,n,o,p,[],[]))) nn (b,c,((List.replicate e (0:Int)).length:Int),0,a0,⟨List.replicate 256 0,wd6⟩,0,(List.replicate e (0:Int)),[],[],[]))
noncomputable def zyt:=lk (α:=HK) [(506,me [vp 1 0,vp 2 1,(3,.v LB),(4,.v LB),vo 5 2,vo 6 3,vi 27,vi 28] [.box 33 [.v Y_api_Dfa],.box 33 [.v (.arr 256 U8),.v I6,.own 4,.own 5],.row 3 I6,.row 3 I6,.row 31 L6,.row 3 I6] 6),(2042,me [vp 1 0,vp 2 1,vo 5 2,vp 8 3,vo 63 4,vi 64,vi 65] [.box 33 [.v Y_api_Dfa],.box 33 [.v (.arr 256 U8),.v I6,.own 5,.own 6],.row 3 I6,.box 33 [.v (.arr 256 U8),.v I6,.own 7,.own 8],.row 3 I6,.row 31 L6,.row 3 I6,.row 31 L6,.row 3 I6] 9),(8102,me [vp 1 0,vp 2 1,(3,.v LB),(4,.v LB),vo 5 2,vo 6 3,vi 27,vi 28] [.box 33 [.v Y_api_Dfa],.box 33 [.v (.arr 256 U8),.v I6,.own 4,.own 5],.row 3 I6,.row 3 I6,.row 31 L6,.row 3 I6] 6),(129638,me [vp 1 0,vp 2 1,(3,.v LB),(4,.v LB),vo 5 2,vo 6 3,vi 7,vi 27,vi 28,vb 47] [.box 33 [.v Y_api_Dfa],.box 33 [.v (.arr 256 U8),.v I6,.own 4,.own 5],.row 3 I6,.row 3 I6,.row 31 L6,.row 3 I6] 6),(4182842,me [vp 1 0,vp 2 1,vo 5 2,vp 8 3,vi 10,vo 11 4,vo 63 5,vi 64,vi 65,vo 79 4,vi 80,vi 81] [.box 33 [.v Y_api_Dfa],.box 33 [.v (.arr 256 U8),.v I6,.own 6,.own 7],.row 3 I6,.box 33 [.v (.arr 256 U8),.v I6,.own 8,.own 9],.row 3 I6,.row 3 I6,.row 31 L6,.row 3 I6,.row 31 L6,.row 3 I6] 10),(66925478,me [vp 1 0,vp 2 1,vo 5 2,vp 8 3,vi 10,vo 11 4,vo 63 5,vi 64,vi 65,vo 79 4,vi 80,vi 81] [.box 33 [.v Y_api_Dfa],.box 33 [.v (.arr 256 U8),.v I6,.own 6,.own 7],.row 3 I6,.box 33 [.v (.arr 256 U8),.v I6,.own 8,.own 9],.row 3 I6,.row 3 I6,.row 31 L6,.row 3 I6,.row 31 L6,.row 3 I6] 10)]
theorem zp9(nn:Nat):jz 27 ⟨[Y_api_Dfa],Y_api_Dfa,λt=>zcx nn t⟩:=mk1 Tryz.func27 nn 0 [(0,[24,35,57,95,112])] [(0,[(55,.told I6),(99,.ownx),(109,.told I6)])] [(1668,[(99,M6)])] [] itn zyt rn gn (tc (P_dfa_Right_ok nn) (tc (zc4 nn) (tc (zn5 nn) tn))) (by kernel_rfl) λt=>by kernel_rfl
noncomputable def Jq(nn:Nat)(a0:ja):Option (D_api_Dfa×(List (List Int))×jc×Unit):=J (σ:=ja×(Arr 256 Int)×jc×ja×D_api_Dfa×jc×(List (List Int))×(List Int)×(List (List Int))) (λ(a,b,c,d,e,f,g,h,i)=>ifB (decide (¬f.1=0)) (some ((⟨List.replicate 256 0,wd6⟩,0,[],[],()),[],f,())) (jb (J7 nn a) λk=>jb (zcx nn e) λl=>some (l,k.1,f,()))) λj=>jb (Vd nn (some (a0,(⟨List.replicate 256 0,wd6⟩,0,[],[],()),[],()))) λm=>ifB (decide (¬m.1=0)) (j (a0,⟨List.replicate 256 0,wd6⟩,(0,0,0,()),a0,(⟨List.replicate 256 0,wd6⟩,0,[],[],()),m,[],[],[])) (jb (Jp nn (some (a0,(⟨List.replicate 256 0,wd6⟩,0,[],[],()),[],()))) λn=>ifB (decide (¬n.1=0)) (j (a0,⟨List.replicate 256 0,wd6⟩,(0,0,0,()),a0,(⟨List.replicate 256 0,wd6⟩,0,[],[],()),n,[],[],[])) (jb (Jv nn (some (a0,(⟨List.replicate 256 0,wd6⟩,0,[],[],()),[],()))) λo=>ifB (decide (¬o.1=0)) (j (a0,⟨List.replicate 256 0,wd6⟩,(0,0,0,()),a0,(⟨List.replicate 256 0,wd6⟩,0,[],[],()),o,[],[],[])) (jb (Jo nn (some (a0,(⟨List.replicate 256 0,wd6⟩,0,[],[],()),[],()))) λp=>ifB (decide (¬p.1=0)) (j (a0,⟨List.replicate 256 0,wd6⟩,(0,0,0,()),a0,(⟨List.replicate 256 0,wd6⟩,0,[],[],()),p,[],[],[])) (jb (Ve nn (some (a0,(⟨List.replicate 256 0,wd6⟩,0,[],[],()),[],()))) λq=>ifB (decide (¬q.1=0)) (j (a0,⟨List.replicate 256 0,wd6⟩,(0,0,0,()),a0,(⟨List.replicate 256 0,wd6⟩,0,[],[],()),q,[],[],[])) (J (σ:=ja×(Arr 256 Int)×jc×ja×D_api_Dfa×jc×(List (List Int))×(List Int)×(List (List Int))) (λ(r,s,u,v,w,x,y,z,b0)=>ifB (decide (¬x.1=0)) (j (r,s,u,v,w,x,y,z,b0)) (jb (zk nn (some (v,w,b0,()))) λb2=>ifB (decide (¬b2.1=0)) (j (r,s,u,v,w,b2,y,z,b0)) (j (r,s,u,v,w,b2,y,z,b0)))) λb1=>jb (zat nn a0.1) λb3=>jb (zad nn b3 a0.2.2.2.2.1) λb4=>ifB (decide (¬b4.2.2.1=0)) (b1 (a0,⟨List.replicate 256 0,wd6⟩,(0,0,0,()),a0,(⟨List.replicate 256 0,wd6⟩,0,[],[],()),(16,0,0,()),[],[],[])) (b1 (a0,⟨List.replicate 256 0,wd6⟩,(0,0,0,()),a0,b4.1,(0,0,0,()),[],[],[])))))))
noncomputable def zq3:=lk (α:=HK) [(221,me [vp 1 0,vp 2 1,vp 4 2,vp 5 3,vp 6 4] [.box 26 [.v Y_api_Grammar],.box 33 [.v (.arr 256 U8),.ci .i64 (0),.own 5,.own 6],.box 36 [.v jd],.box 69 [.v Y_api_Grammar,.v Y_api_Dfa,.own 7],.box 36 [.v jd],.row 31 L6,.row 3 I6,.row 31 L6] 8),(442,.unroll 24),(1814450,me [vp 1 0,vp 2 1,vp 4 2,vp 5 3,vp 6 4,vo 12 5,(13,.ci .i64 (7)),(14,.ci .i64 (5))] [.box 26 [.v Y_api_Grammar],.box 33 [.v (.arr 256 U8),.ci .i64 (0),.own 6,.own 7],.box 36 [.v jd],.box 69 [.v Y_api_Grammar,.v Y_api_Dfa,.own 8],.box 36 [.v jd],.rowx 74 1 [.agg [.fn 56 [] []],.agg [.fn 58 [] []],.agg [.fn 62 [] []],.agg [.fn 65 [] []],.agg [.fn 68 [] []],.agg [.fn 70 [] []],.agg [.fn 71 [] []]],.row 31 L6,.row 3 I6,.row 31 L6] 9)]
theorem zkk(nn:Nat):jz 9 ⟨[Y_api_Grammar],(.tup (.cons Y_api_Dfa (.cons M6 (.cons jd .nil)))),λt=>Jq nn t⟩:=mk1 Tryz.func9 nn 9 [] [(1,[(8,.ownx)])] [] [] (itc 1920025 Tryz.func25 h0 1 [] (itc 3870070 Tryz.func70 h0 2 [] itn (by kernel_rfl)) (by kernel_rfl)) zq3 rn gn (tc (zmi nn) (tc (zp9 nn) (tc (zhv nn) (tc (zhw nn) (tc (zho nn) (tc (zhs nn) (tc (zhh nn) (tc (zcd nn) (tc (zp7 nn) (tc (zr4 nn) tn)))))))))) (by kernel_rfl) λt=>by kernel_rfl
noncomputable def yb(nn:Nat)(a0:ja):Option jc:=jb (Jq nn a0) λa=>some a.2.2.1
theorem zbv(nn:Nat):jz 13 ⟨[Y_api_Grammar],jd,λt=>yb nn t⟩:=mk1 Tryz.func13 nn 0 [] [] [] [] itn h0 rn gn (tc (zkk nn) tn) (by kernel_rfl) λt=>by kernel_rfl
noncomputable def zjn(nn:Nat)(a0:(Arr 4 Int))(a1:Int):Option (Arr 4 Int):=jb (zw3 .i64 a1 64) λa=>jb (zw3 .i64 a1 64) λb=>jb (qu 4 b) λc=>jb (atL a0.l c) λd=>jb (z1i .u64 (wr .u64 a1) 64) λe=>jb (z2k .u64 1 e) λf=>jb (qu 4 a) λg=>jb (zsu a0 g (orI .u64 d f)) λh=>some h
theorem zoz(nn:Nat):jz 91 ⟨[(.arr 4 (.int .u64)),I6],(.arr 4 (.int .u64)),λt=>zjn nn (t.1) (t.2)⟩:=mk1 Tryz.func91 nn 0 [] [] [] [] itn h0 rn gn tn (by kernel_rfl) λt=>by kernel_rfl
noncomputable def zng(nn:Nat)(a0:Int):Option (Arr 4 Int):=jb (zjn nn (⟨List.replicate 4 0,wd6⟩) (wr .i64 a0)) λa=>some a
theorem zp3(nn:Nat):jz 54 ⟨[U8],(.arr 4 (.int .u64)),λt=>zng nn t⟩:=mk1 Tryz.func54 nn 0 [] [] [] [] itn h0 rn gn (tc (zoz nn) tn) (by kernel_rfl) λt=>by kernel_rfl
noncomputable def zgw(nn:Nat)(a0:(Arr 4 Int)):Option (List ji):=some [(1,a0,())]
theorem zq1(nn:Nat):FFOk 53 ⟨[(.arr 4 (.int .u64))],126,Y_api_Rx,λt=>zgw nn t⟩:=mk2 Tryz.func53 nn 0 [] [(0,[(5,.own Y_api_Rx)])] [] [] itn h0 rn gn tn (by kernel_rfl) λt=>by kernel_rfl
theorem zqa(nn:Nat):jz 53 ⟨[(.arr 4 (.int .u64))],(.sl Y_api_Rx),λt=>zgw nn t⟩:=(zq1 nn).pure
noncomputable def zh1(nn:Nat):Option (List ji):=some [(2,⟨List.replicate 4 0,wd6⟩,())]
theorem zms(nn:Nat):FFOk 92 ⟨[],126,Y_api_Rx,λt=>zh1 nn⟩:=mk2 Tryz.func92 nn 0 [] [(0,[(2,.own Y_api_Rx)])] [] [] itn h0 rn gn tn (by kernel_rfl) λt=>by kernel_rfl
noncomputable abbrev zt5:=zh1
noncomputable def zjo(nn:Nat)(a0:(List (List ji)))(a1:Int):Option (List ji):=jm (σ:=(List (List ji))×Int×Int×(List ji)) (λ(a,b,c,d)e=>ifB (decide (c<(a.length:Int))) (J (σ:=(List (List ji))×Int×Int×(List ji)) (λ(f,g,h,i)=>jb (some (w64 (h+1))) λk=>e (f,g,k,i)) λj=>jb (atL a c) λl=>jb (apO 40 d l) λm=>ifB (decide (0<c)) (jb (apO 40 m [(b,⟨List.replicate 4 0,wd6⟩,())]) λn=>j (a,b,c,n)) (j (a,b,c,m))) (some d)) nn (a0,a1,0,[])
noncomputable def zwe:=lk (α:=HK) [(58,me [(0,.v (.sl (.sl Y_api_Rx))),vi 1,vo 5 0,vi 6] [.row 126 Y_api_Rx] 1),(466,me [(0,.v (.sl (.sl Y_api_Rx))),vi 1,vo 5 0,vi 6] [.row 126 Y_api_Rx] 1)]
theorem zoq(nn:Nat):FFOk 93 ⟨[(.sl (.sl Y_api_Rx)),I6],126,Y_api_Rx,λt=>zjo nn (t.1) (t.2)⟩:=mk2 Tryz.func93 nn 0 [(0,[13])] [(0,[(7,.own Y_api_Rx),(25,.told Y_api_Rx)])] [] [] itn zwe rn gn tn (by kernel_rfl) λt=>by kernel_rfl
noncomputable abbrev zyn:=zjo
noncomputable def znc(nn:Nat)(a0:(List (List ji))):Option (List ji):=ifB (decide ((a0.length:Int)=0)) (jb (zt5 nn) λa=>some a) (jb (zyn nn a0 3) λb=>some b)
theorem zqh(nn:Nat):FFOk 55 ⟨[(.sl (.sl Y_api_Rx))],126,Y_api_Rx,λt=>znc nn t⟩:=mk2 Tryz.func55 nn 0 [] [] [] [128,193] itn h0 rn (gc (zms nn) (gc (zoq nn) gn)) tn (by kernel_rfl) λt=>by kernel_rfl
noncomputable abbrev z1t:=znc
noncomputable def zbe(nn:Nat)(a0:(List UInt8)):Option (List ji):=jm (σ:=(List UInt8)×Int×(List (List ji))) (λ(a,b,c)d=>ifB (decide (b<(a.length:Int))) (jb (zlz a b) λe=>jb (zng nn e) λf=>jb (zgw nn f) λg=>jb (apO 24 c [g]) λh=>jb (some (w64 (b+1))) λi=>d (a,i,h)) (jb (z1t nn c) λj=>some j)) nn (a0,0,[])
noncomputable def zyi:=lk (α:=HK) [(58,me [(0,.v .str),vo 3 0,vi 4] [.row 45 (.sl Y_api_Rx)] 1)]
theorem zos(nn:Nat):FFOk 24 ⟨[.str],126,Y_api_Rx,λt=>zbe nn t⟩:=mk2 Tryz.func24 nn 0 [(0,[11])] [(0,[(5,.own (.sl Y_api_Rx)),(18,.told (.sl Y_api_Rx))])] [] [385] itn zyi rn (gc (zqh nn) gn) (tc (zqa nn) (tc (zp3 nn) tn)) (by kernel_rfl) λt=>by kernel_rfl
theorem zn7(nn:Nat):jz 24 ⟨[.str],(.sl Y_api_Rx),λt=>zbe nn t⟩:=(zos nn).pure
noncomputable def y0(nn:Nat):Option Bool:=jb (zbe nn [97]) λa=>jb (zbe nn [97]) λb=>J (λ(c:Bool)=>some c) λd=>jb (yb nn ([([97],a,0,())],[[115]],[(0,[(true,0,0,0,()),(false,0,0,0,())],())],0,9,1,1,1,())) λe=>jb (some (z7h [e.1 == (14,0,0,()).1,e.2.1 == (14,0,0,()).2.1,e.2.2.1 == (14,0,0,()).2.2.1])) λf=>ifB f (jb (yb nn ([([97],a,0,()),([98],b,0,())],[[115]],[(0,[(false,0,0,0,())],())],0,9,1,1,1,())) λg=>d (z7h [g.1 == (13,1,1,()).1,g.2.1 == (13,1,1,()).2.1,g.2.2.1 == (13,1,1,()).2.2.1])) (d false)
noncomputable def ztd:=lk (α:=HK) [(126,me [vb 0] [] 0)]
theorem zk9(nn:Nat):jz 8 ⟨[],.bool,λt=>y0 nn⟩:=mk1 Tryz.func8 nn 0 [(0,[30])] [(0,[(10,.told Y_api_Token),(11,.told .str),(14,.told Y_api_Item),(16,.told Y_api_Prod),(20,.told Y_api_Token),(21,.told .str),(23,.told Y_api_Item),(25,.told Y_api_Prod)])] [] [] itn ztd rn gn (tc (zbv nn) (tc (zn7 nn) tn)) (by kernel_rfl) λt=>by kernel_rfl
noncomputable def V6(nn:Nat)(a0:Int):Option Int:=J (σ:=Int×Bool) (λ(a,b)=>ifB b (some 0) (J (σ:=Int×Bool) (λ(d,e)=>ifB e (some 2) (J (λ(g:Bool)=>ifB g (some 1) (some (-1))) λh=>jb (some (decide (d=5))) λi=>ifB i (h true) (ifB (decide (d=6)) (h true) (h (decide (d=7)))))) λf=>jb (some (decide (a=3))) λj=>ifB j (f (a,true)) (f (a,decide (a=4))))) λc=>jb (some (decide (a0=1))) λk=>ifB k (c (a0,true)) (c (a0,decide (a0=2)))
noncomputable def z3g:=lk (α:=HK) [(12,me [vi 0,vb 8] [] 0),(28,me [vi 0,vb 14] [] 0),(60,me [vb 24] [] 0)]
theorem zh7(nn:Nat):jz 125 ⟨[I6],I6,λt=>V6 nn t⟩:=mk1 Tryz.func125 nn 0 [(0,[4,10,16])] [] [] [] itn z3g rn gn tn (by kernel_rfl) λt=>by kernel_rfl
noncomputable def Vq(nn:Nat)(a0:(List ji)):Option Int:=ifB (decide (512<(a0.length:Int))) (some 4) (jm (σ:=(List ji)×Int×Int) (λ(a,b,c)d=>ifB (decide (c<(a.length:Int))) (jb (atL a c) λe=>jb (V6 nn e.1) λf=>J (σ:=(List ji)×Int×Int×Int×Bool) (λ(g,h,i,j,k)=>ifB k (some 1) (ifB (decide (h<j)) (some 3) (jb (some (w64 ((w64 (h-j))+1))) λm=>jb (some (w64 (i+1))) λn=>d (g,m,n)))) λl=>jb (some (decide (f<0))) λo=>ifB o (l (a,b,c,f,true)) (jb (atL a c) λp=>jb (some (decide (¬p.1=1))) λq=>ifB q (jb (atL a c) λr=>l (a,b,c,f,!(r.2.1.l == (⟨List.replicate 4 0,wd6⟩:Arr 4 Int).l))) (l (a,b,c,f,false)))) (ifB (decide (¬b=1)) (some 3) (some 0))) nn (a0,0,0))
noncomputable def zti:=lk (α:=HK) [(122,me [(0,.v (.sl Y_api_Rx)),vi 3,vi 4] [] 0),(15652,me [(0,.v (.sl Y_api_Rx)),vi 3,vi 4,vi 5,vb 39] [] 0)]
theorem zdz(nn:Nat):jz 82 ⟨[(.sl Y_api_Rx)],I6,λt=>Vq nn t⟩:=mk1 Tryz.func82 nn 0 [(0,[14,22,29,46])] [] [] [] itn zti rn gn (tc (zh7 nn) tn) (by kernel_rfl) λt=>by kernel_rfl
noncomputable def Yh(nn:Nat)(a0:(List Int))(a1:Int):Option Bool:=jm (σ:=(List Int)×Int×Int) (λ(a,b,c)d=>ifB (decide (c<(a.length:Int))) (jb (atL a c) λe=>ifB (decide (e=b)) (some true) (jb (some (w64 (c+1))) λf=>d (a,b,f))) (some false)) nn (a0,a1,0)
noncomputable def zzx:=lk (α:=HK) [(26,me [vl 0,vi 1,vi 5] [] 0)]
theorem zcc(nn:Nat):jz 29 ⟨[L6,I6],.bool,λt=>Yh nn (t.1) (t.2)⟩:=mk1 Tryz.func29 nn 0 [(0,[11])] [] [] [] itn zzx rn gn tn (by kernel_rfl) λt=>by kernel_rfl
noncomputable def zew(nn:Nat)(a0:(List Int)):Option (List Int):=jm (σ:=(List Int)×Int×(List Int)) (λ(a,b,c)d=>ifB (decide (b<(a.length:Int))) (J (σ:=(List Int)×Int×(List Int)) (λ(e,f,g)=>jb (some (w64 (f+1))) λi=>d (e,i,g)) λh=>jb (atL a b) λj=>jb (Yh nn c j) λk=>ifB k (h (a,b,c)) (jm (σ:=Int×Int×(List Int)×(List Int)) (λ(l,m,n,o)p=>J (σ:=Int×Int×Bool×(List Int)×(List Int)) (λ(q,r,s,u,v)=>ifB s (jb (qu u.length r) λx=>jb (atL u x) λy=>jb (apO 8 v [y]) λz=>jb (some (w64 (r+1))) λb0=>p (q,b0,u,z)) (jb (apO 8 v [q]) λb1=>jm (σ:=Int×(List Int)×(List Int)) (λ(b2,b3,b4)b5=>ifB (decide (b2<(b3.length:Int))) (jb (qu b3.length b2) λb6=>jb (atL b3 b6) λb7=>jb (apO 8 b4 [b7]) λb8=>jb (some (w64 (b2+1))) λb9=>b5 (b9,b3,b8)) (h (a,b,b4))) nn ((v.length:Int),u,b1))) λw=>jb (some (decide (m<(n.length:Int)))) λc0=>ifB c0 (jb (qu n.length m) λc1=>jb (atL n c1) λc2=>w (l,m,decide (c2<l),n,o)) (w (l,m,false,n,o))) nn (j,0,c,[]))) (some c)) nn (a0,0,[])
noncomputable def z15:=lk (α:=HK) [(58,me [vl 0,vo 3 0,vi 4] [.row 3 I6] 1),(932,me [vl 0,vo 3 0,vi 4] [.row 3 I6] 1)]
noncomputable def zts:=lk (α:=HK) [(122,me [vo 0 0,vi 1,vo 5 1,vi 6] [.row 3 I6,.row 3 I6] 2),(976,me [vo 0 0,vi 1,vo 5 1,vi 6,vb 25] [.row 3 I6,.row 3 I6] 2),(1018,me [vo 0 0,vo 5 1,vi 8] [.row 3 I6,.row 3 I6] 2)]
theorem zs6(nn:Nat):FFOk 51 ⟨[L6],3,I6,λt=>zew nn t⟩:=mk2 Tryz.func51 nn 9 [(0,[11]),(1,[17,27,47])] [(0,[(5,.own I6)]),(1,[(13,.own I6),(33,.told I6),(39,.told I6),(53,.told I6)])] [] [] (itc 3250090 Tryz.func90 zts 1 [] itn (by kernel_rfl)) z15 rn gn (tc (zcc nn) tn) (by kernel_rfl) λt=>by kernel_rfl
noncomputable abbrev z34:=zew
noncomputable def Z4(nn:Nat)(a0:ja):Option jc:=ifB (decide (64<(a0.1.length:Int))) (some (4,0,0,())) (ifB (decide (64<(a0.2.1.length:Int))) (some (4,1,0,())) (ifB (decide (256<(a0.2.2.1.length:Int))) (some (4,2,0,())) (J (σ:=Bool×ja×jc) (λ(a,b,c)=>ifB a (some (2,0,0,())) (J (σ:=Bool×ja×jc) (λ(e,f,g)=>ifB e (some (2,1,0,())) (J (σ:=Bool×ja×jc) (λ(i,j,k)=>ifB i (some (2,2,0,())) (J (σ:=Bool×jc) (λ(m,n)=>ifB m (some (2,3,0,())) (some (0,0,0,()))) λo=>jb (some (decide (j.2.2.2.2.2.2.2.1<1))) λp=>ifB p (o (true,k)) (o (decide (1048576<j.2.2.2.2.2.2.2.1),k)))) λl=>jb (some (decide (f.2.2.2.2.2.2.1<1))) λq=>ifB q (l (true,f,g)) (l (decide (65536<f.2.2.2.2.2.2.1),f,g)))) λh=>jb (some (decide (b.2.2.2.2.2.1<0))) λr=>ifB r (h (true,b,c)) (h (decide (65536<b.2.2.2.2.2.1),b,c)))) λd=>jb (some (decide (a0.2.2.2.2.1<1))) λs=>ifB s (d (true,a0,(0,0,0,()))) (d (decide (4096<a0.2.2.2.2.1),a0,(0,0,0,()))))))
noncomputable def zs2:=lk (α:=HK) [(124,me [vp 1 0,vp 2 1,vb 25] [.box 26 [.v Y_api_Grammar],.box 36 [.v jd]] 2),(252,me [vp 1 0,vp 2 1,vb 34] [.box 26 [.v Y_api_Grammar],.box 36 [.v jd]] 2),(508,me [vp 1 0,vp 2 1,vb 43] [.box 26 [.v Y_api_Grammar],.box 36 [.v jd]] 2),(1020,me [vp 2 0,vb 52] [.box 36 [.v jd]] 1)]
theorem zmq(nn:Nat):jz 117 ⟨[Y_api_Grammar],jd,λt=>Z4 nn t⟩:=mk1 Tryz.func117 nn 0 [(0,[20,29,38,47])] [] [] [] itn zs2 rn gn tn (by kernel_rfl) λt=>by kernel_rfl
noncomputable def Qe(nn:Nat)(a0:ja):Option (List (List UInt8)):=jm (σ:=Int×ja×(List (List UInt8))) (λ(a,b,c)d=>ifB (decide (a<(b.1.length:Int))) (jb (atL b.1 a) λe=>jb (apO 16 c [e.1]) λf=>jb (some (w64 (a+1))) λg=>d (g,b,f)) (jm (σ:=Int×ja×(List (List UInt8))) (λ(h,i,j)k=>ifB (decide (h<(i.2.1.length:Int))) (jb (atL i.2.1 h) λl=>jb (apO 16 j [l]) λm=>jb (some (w64 (h+1))) λn=>k (n,i,m)) (some j)) nn (0,b,c))) nn (0,a0,[])
noncomputable def ztk:=lk (α:=HK) [(58,me [vp 1 0,vo 3 1,vi 4] [.box 26 [.v Y_api_Grammar],.row 9 .str] 2),(122,me [vp 1 0,vo 3 1,vi 5] [.box 26 [.v Y_api_Grammar],.row 9 .str] 2)]
theorem zmn(nn:Nat):FFOk 120 ⟨[Y_api_Grammar],9,.str,λt=>Qe nn t⟩:=mk2 Tryz.func120 nn 0 [(0,[13,29])] [(0,[(6,.own .str),(21,.told .str),(36,.told .str)])] [] [] itn ztk rn gn tn (by kernel_rfl) λt=>by kernel_rfl
theorem zdr(nn:Nat):jz 120 ⟨[Y_api_Grammar],(.sl .str),λt=>Qe nn t⟩:=(zmn nn).pure
noncomputable def za9(nn:Nat)(a0:(List UInt8)):Option Bool:=jm (σ:=(List UInt8)×Int) (λ(a,b)c=>ifB (decide (b<(a.length:Int))) (jb (zlz a b) λd=>J (σ:=(List UInt8)×Int×Int×Bool) (λ(e,f,g,h)=>J (σ:=(List UInt8)×Int×Bool×Bool) (λ(j,k,l,m)=>J (σ:=(List UInt8)×Int×Bool) (λ(o,p,q)=>ifB q (some false) (jb (some (w64 (p+1))) λs=>c (o,s))) λr=>jb (some (!l)) λu=>ifB u (ifB (!m) (r (j,k,true)) (jb (some (decide (k=0))) λv=>ifB v (r (j,k,m)) (r (j,k,false)))) (jb (some (decide (k=0))) λw=>ifB w (r (j,k,m)) (r (j,k,false)))) λn=>jb (some (decide (48<=g))) λx=>ifB x (n (e,f,h,decide (g<=57))) (n (e,f,h,false))) λi=>jb (some (decide (97<=d))) λy=>ifB y (ifB (decide (d<=122)) (i (a,b,d,true)) (jb (some (decide (65<=d))) λz=>ifB z (ifB (decide (d<=90)) (i (a,b,d,true)) (i (a,b,d,decide (d=95)))) (i (a,b,d,decide (d=95))))) (jb (some (decide (65<=d))) λb0=>ifB b0 (ifB (decide (d<=90)) (i (a,b,d,true)) (i (a,b,d,decide (d=95)))) (i (a,b,d,decide (d=95))))) (J (λ(b1:Bool)=>some b1) λb2=>jb (some (decide (1<=(a.length:Int)))) λb3=>ifB b3 (b2 (decide ((a.length:Int)<=32))) (b2 false))) nn (a0,0)
noncomputable def zw5:=lk (α:=HK) [(14,me [vb 2] [] 0),(26,me [(0,.v .str),vi 3] [] 0),(1682,me [(0,.v .str),vi 3,(4,.v U8),vb 5] [] 0),(3366,me [(0,.v .str),vi 3,vb 5,vb 6] [] 0),(6734,me [(0,.v .str),vi 3,vb 52] [] 0)]
theorem zoj(nn:Nat):jz 175 ⟨[.str],.bool,λt=>za9 nn t⟩:=mk1 Tryz.func175 nn 0 [(0,[12,17,24,35,41,48,55])] [] [] [] itn zw5 rn gn tn (by kernel_rfl) λt=>by kernel_rfl
noncomputable def zbc(nn:Nat)(a0:(List (List UInt8)))(a1:(List UInt8)):Option Int:=jm (σ:=(List (List UInt8))×(List UInt8)×Int) (λ(a,b,c)d=>ifB (decide (c<(a.length:Int))) (jb (atL a c) λe=>ifB (e == b) (some c) (jb (some (w64 (c+1))) λf=>d (a,b,f))) (some (-1))) nn (a0,a1,0)
noncomputable def zyg:=lk (α:=HK) [(26,me [(0,.v (.sl .str)),(1,.v .str),vi 5] [] 0)]
theorem zom(nn:Nat):jz 176 ⟨[(.sl .str),.str],I6,λt=>zbc nn (t.1) (t.2)⟩:=mk1 Tryz.func176 nn 0 [(0,[11])] [] [] [] itn zyg rn gn tn (by kernel_rfl) λt=>by kernel_rfl
noncomputable def Ym(nn:Nat)(a0:(List (List UInt8)))(a1:Int):Option Int:=jb (atL a0 a1) λa=>jb (za9 nn a) λb=>ifB (!b) (some 7) (jb (atL a0 a1) λc=>jb (zbc nn a0 c) λd=>ifB (decide (d<a1)) (some 8) (some 0))
theorem zft(nn:Nat):jz 119 ⟨[(.sl .str),I6],I6,λt=>Ym nn (t.1) (t.2)⟩:=mk1 Tryz.func119 nn 0 [] [] [] [] itn h0 rn gn (tc (zoj nn) (tc (zom nn) tn)) (by kernel_rfl) λt=>by kernel_rfl
noncomputable def Zz(nn:Nat)(a0:ja)(a1:Int):Option jc:=jb (atL a0.1 a1) λa=>jb (Qe nn a0) λb=>jb (Ym nn b a1) λc=>ifB (decide (¬c=0)) (some (c,a1,0,())) (jb (Vq nn a.2.1) λd=>ifB (decide (¬d=0)) (some (9,a1,d,())) (J (σ:=Int×Bool×jc) (λ(e,f,g)=>ifB f (some (1,e,0,())) (some (0,0,0,()))) λh=>jb (some (decide (a.2.2.1<0))) λi=>ifB i (h (a1,true,(0,0,0,()))) (h (a1,decide (3<a.2.2.1),(0,0,0,())))))
noncomputable def zsy:=lk (α:=HK) [(124,me [vi 1,vp 4 0,vb 37] [.box 36 [.v jd]] 1)]
theorem zlw(nn:Nat):jz 118 ⟨[Y_api_Grammar,I6],jd,λt=>Zz nn (t.1) (t.2)⟩:=mk1 Tryz.func118 nn 0 [(0,[32])] [] [] [] itn zsy rn gn (tc (zdz nn) (tc (zft nn) (tc (zdr nn) tn))) (by kernel_rfl) λt=>by kernel_rfl
noncomputable def za7(nn:Nat)(a0:ja)(a1:je):Option Int:=J (σ:=Int×ja×je) (λ(a,b,c)=>J (σ:=Bool×ja×je) (λ(e,f,g)=>ifB e (some 11) (J (σ:=Bool×je) (λ(i,j)=>ifB i (some 12) (J (λ(l:Bool)=>ifB l (some 2) (some 0)) λm=>jb (some (decide (j.2.2.1<0))) λn=>ifB n (m true) (ifB (decide (2<j.2.2.1)) (m true) (ifB (decide (j.2.2.2.1<0)) (m true) (m (decide (8<j.2.2.2.1))))))) λk=>jb (some (!g.1)) λo=>ifB o (jb (atL f.1 g.2.1) λp=>k (decide (¬p.2.2.1=0),g)) (k (false,g)))) λh=>jb (some (decide (c.2.1<0))) λq=>ifB q (h (true,b,c)) (h (decide (a<=c.2.1),b,c))) λd=>ifB a1.1 (d ((a0.2.1.length:Int),a0,a1)) (d ((a0.1.length:Int),a0,a1))
noncomputable def zxs:=lk (α:=HK) [(7,me [vp 2 0,vp 3 1,vi 5] [.box 26 [.v Y_api_Grammar],.box 54 [.v Y_api_Item]] 2),(60,me [vp 2 0,vp 3 1,vb 22] [.box 26 [.v Y_api_Grammar],.box 54 [.v Y_api_Item]] 2),(124,me [vp 3 0,vb 35] [.box 54 [.v Y_api_Item]] 1),(252,me [vb 53] [] 0)]
theorem zou(nn:Nat):jz 177 ⟨[Y_api_Grammar,Y_api_Item],I6,λt=>za7 nn (t.1) (t.2)⟩:=mk1 Tryz.func177 nn 0 [(0,[16,25,38])] [] [] [] itn zxs rn gn tn (by kernel_rfl) λt=>by kernel_rfl
noncomputable def zbb(nn:Nat)(a0:ja)(a1:Int):Option jc:=jb (atL a0.2.2.1 a1) λa=>J (σ:=Int×Bool×ja×jc×jf) (λ(b,c,d,e,f)=>ifB c (some (11,b,0,())) (ifB (decide (16<(f.2.1.length:Int))) (some (4,b,0,())) (jm (σ:=Int×Int×ja×jc×jf) (λ(h,i,j,k,l)m=>ifB (decide (i<(l.2.1.length:Int))) (jb (atL l.2.1 i) λn=>jb (za7 nn j n) λo=>ifB (decide (¬o=0)) (some (o,h,w64 (i+1),())) (jb (some (w64 (i+1))) λp=>m (h,p,j,k,l))) (some (0,0,0,()))) nn (b,0,d,e,f)))) λg=>jb (some (decide (a.1<0))) λq=>ifB q (g (a1,true,a0,(0,0,0,()),a)) (g (a1,decide ((a0.2.1.length:Int)<=a.1),a0,(0,0,0,()),a))
noncomputable def zwt:=lk (α:=HK) [(28,me [vi 1,vp 2 0,vp 4 1,vp 5 2,vb 23] [.box 26 [.v Y_api_Grammar],.box 36 [.v jd],.box 66 [.v Y_api_Prod]] 3),(250,me [vi 1,vp 2 0,vp 4 1,vp 5 2,vi 6] [.box 26 [.v Y_api_Grammar],.box 36 [.v jd],.box 66 [.v Y_api_Prod]] 3)]
theorem znw(nn:Nat):jz 121 ⟨[Y_api_Grammar,I6],jd,λt=>zbb nn (t.1) (t.2)⟩:=mk1 Tryz.func121 nn 0 [(0,[15,38])] [] [] [] itn zwt rn gn (tc (zou nn) tn) (by kernel_rfl) λt=>by kernel_rfl
noncomputable def zb0(nn:Nat)(a0:ja)(a1:Int):Option (List Int):=jm (σ:=Int×Int×ja×(List Int)) (λ(a,b,c,d)e=>ifB (decide (b<(c.2.2.1.length:Int))) (J (σ:=Int×Int×ja×(List Int)) (λ(f,g,h,i)=>jb (some (w64 (g+1))) λk=>e (f,k,h,i)) λj=>jb (atL c.2.2.1 b) λl=>ifB (decide (l.1=a)) (jb (apO 8 d [b]) λm=>j (a,b,c,m)) (j (a,b,c,d))) (some d)) nn (a1,0,a0,[])
noncomputable def z3c:=lk (α:=HK) [(58,me [vi 1,vp 2 0,vo 5 1,vi 6] [.box 26 [.v Y_api_Grammar],.row 3 I6] 2),(466,me [vi 1,vp 2 0,vo 5 1,vi 6] [.box 26 [.v Y_api_Grammar],.row 3 I6] 2)]
theorem ztp(nn:Nat):FFOk 122 ⟨[Y_api_Grammar,I6],3,I6,λt=>zb0 nn (t.1) (t.2)⟩:=mk2 Tryz.func122 nn 0 [(0,[14])] [(0,[(7,.own I6),(25,.told I6)])] [] [] itn z3c rn gn tn (by kernel_rfl) λt=>by kernel_rfl
theorem ztl(nn:Nat):jz 122 ⟨[Y_api_Grammar,I6],L6,λt=>zb0 nn (t.1) (t.2)⟩:=(ztp nn).pure
noncomputable def Zt(nn:Nat)(a0:ja):Option jc:=jb (Z4 nn a0) λa=>jm (σ:=Int×ja×jc×jc) (λ(b,c,d,e)f=>J (σ:=Int×Bool×ja×jc×jc) (λ(g,h,i,j,k)=>ifB h (jb (Zz nn i g) λm=>jb (some (w64 (g+1))) λn=>f (n,i,j,m)) (jm (σ:=Int×ja×jc×jc) (λ(o,p,q,r)s=>J (σ:=Int×Bool×ja×jc×jc) (λ(u,v,w,x,y)=>ifB v (J (σ:=Int×ja×jc×jc) (λ(b0,b1,b2,b3)=>jb (some (w64 (b0+1))) λb5=>s (b5,b1,b2,b3)) λb4=>jb (Qe nn w) λb6=>jb (Ym nn b6 (w64 ((w.1.length:Int)+u))) λb7=>ifB (decide (¬b7=0)) (b4 (u,w,x,(b7,u,0,()))) (b4 (u,w,x,y))) (jm (σ:=Int×ja×jc×jc) (λ(b8,b9,c0,c1)c2=>J (σ:=Int×Bool×ja×jc×jc) (λ(c3,c4,c5,c6,c7)=>ifB c4 (jb (zbb nn c5 c3) λc9=>jb (some (w64 (c3+1))) λd0=>c2 (d0,c5,c6,c9)) (J (σ:=ja×jc×jc) (λ(d1,d2,d3)=>jm (σ:=Int×ja×jc×jc) (λ(d5,d6,d7,d8)d9=>J (σ:=Int×Bool×ja×jc×jc) (λ(e0,e1,e2,e3,e4)=>ifB e1 (J (σ:=Int×ja×jc×jc) (λ(e6,e7,e8,e9)=>jb (some (w64 (e6+1))) λf1=>d9 (f1,e7,e8,e9)) λf0=>jb (zb0 nn e2 e0) λf2=>ifB (decide ((f2.length:Int)=0)) (f0 (e0,e2,e3,(5,e0,0,()))) (f0 (e0,e2,e3,e4))) (some e4)) λe5=>jb (some (decide (d8.1=0))) λf3=>ifB f3 (e5 (d5,decide (d5<(d6.2.1.length:Int)),d6,d7,d8)) (e5 (d5,false,d6,d7,d8))) nn (0,d1,d2,d3)) λd4=>J (σ:=Bool×ja×jc×jc) (λ(f4,f5,f6,f7)=>ifB f4 (d4 (f5,f6,(11,(-1),0,()))) (d4 (f5,f6,f7))) λf8=>jb (some (decide (c7.1=0))) λf9=>ifB f9 (jb (some (decide (c5.2.2.2.1<0))) λg0=>ifB g0 (f8 (true,c5,c6,c7)) (f8 (decide ((c5.2.1.length:Int)<=c5.2.2.2.1),c5,c6,c7))) (f8 (false,c5,c6,c7)))) λc8=>jb (some (decide (c1.1=0))) λg1=>ifB g1 (c8 (b8,decide (b8<(b9.2.2.1.length:Int)),b9,c0,c1)) (c8 (b8,false,b9,c0,c1))) nn (0,w,x,y))) λz=>jb (some (decide (r.1=0))) λg2=>ifB g2 (z (o,decide (o<(p.2.1.length:Int)),p,q,r)) (z (o,false,p,q,r))) nn (0,i,j,k))) λl=>jb (some (decide (e.1=0))) λg3=>ifB g3 (l (b,decide (b<(c.1.length:Int)),c,d,e)) (l (b,false,c,d,e))) nn (0,a0,(0,0,0,()),a)
noncomputable def zsv:=lk (α:=HK) [(58,me [vp 1 0,vp 2 1,vp 3 2,vi 4] [.box 26 [.v Y_api_Grammar],.box 36 [.v jd],.box 36 [.v jd]] 3),(63,me [vp 1 0,vp 2 1,vp 3 2] [.box 26 [.v Y_api_Grammar],.box 36 [.v jd],.box 36 [.v jd]] 3),(122,me [vp 1 0,vp 2 1,vp 3 2,vi 5] [.box 26 [.v Y_api_Grammar],.box 36 [.v jd],.box 36 [.v jd]] 3),(250,me [vp 1 0,vp 2 1,vp 3 2,vi 7] [.box 26 [.v Y_api_Grammar],.box 36 [.v jd],.box 36 [.v jd]] 3),(252,me [vp 1 0,vp 2 1,vp 3 2,vb 81] [.box 26 [.v Y_api_Grammar],.box 36 [.v jd],.box 36 [.v jd]] 3),(464,me [vp 1 0,vp 2 1,vp 3 2,vi 4,vb 20] [.box 26 [.v Y_api_Grammar],.box 36 [.v jd],.box 36 [.v jd]] 3),(976,me [vp 1 0,vp 2 1,vp 3 2,vi 5,vb 35] [.box 26 [.v Y_api_Grammar],.box 36 [.v jd],.box 36 [.v jd]] 3),(978,me [vp 1 0,vp 2 1,vp 3 2,vi 5] [.box 26 [.v Y_api_Grammar],.box 36 [.v jd],.box 36 [.v jd]] 3),(1018,me [vp 1 0,vp 2 1,vp 3 2,vi 8] [.box 26 [.v Y_api_Grammar],.box 36 [.v jd],.box 36 [.v jd]] 3),(2000,me [vp 1 0,vp 2 1,vp 3 2,vi 7,vb 60] [.box 26 [.v Y_api_Grammar],.box 36 [.v jd],.box 36 [.v jd]] 3),(8144,me [vp 1 0,vp 2 1,vp 3 2,vi 8,vb 92] [.box 26 [.v Y_api_Grammar],.box 36 [.v jd],.box 36 [.v jd]] 3),(8146,me [vp 1 0,vp 2 1,vp 3 2,vi 8] [.box 26 [.v Y_api_Grammar],.box 36 [.v jd],.box 36 [.v jd]] 3)]
theorem zl8(nn:Nat):jz 78 ⟨[Y_api_Grammar],jd,λt=>Zt nn t⟩:=mk1 Tryz.func78 nn 0 [(0,[13,22,28,37,53,62,68,72,85,94])] [] [] [] itn zsv rn gn (tc (zmq nn) (tc (zlw nn) (tc (zft nn) (tc (zdr nn) (tc (znw nn) (tc (ztl nn) tn)))))) (by kernel_rfl) λt=>by kernel_rfl
noncomputable def v8(nn:Nat)(a0:ja):Option Bool:=jb (Zt nn a0) λa=>some (z7h [a.1 == (0,0,0,()).1,a.2.1 == (0,0,0,()).2.1,a.2.2.1 == (0,0,0,()).2.2.1])
theorem yw(nn:Nat):jz 33 ⟨[Y_api_Grammar],.bool,λt=>v8 nn t⟩:=mk1 Tryz.func33 nn 0 [] [] [] [] itn h0 rn gn (tc (zl8 nn) tn) (by kernel_rfl) λt=>by kernel_rfl
noncomputable def q7(nn:Nat)(a0:ja):Option (List Bool):=jb (v8 nn a0) λa=>ifB (!a) (some []) (jb (some (a0.2.1.length:Int)) λb=>jb (mkO 1 b) λc=>jb (qu (List.replicate c false).length a0.2.2.2.1) λd=>jb (Yc (List.replicate c false) d true) λe=>jm (σ:=Int×ja×(List Bool)) (λ(f,g,h)i=>ifB (decide (f<=(g.2.1.length:Int))) (jm (σ:=Int×Int×ja×(List Bool)) (λ(j,k,l,m)n=>ifB (decide (k<(l.2.2.1.length:Int))) (jm (σ:=Int×Int×Int×ja×(List Bool)) (λ(o,p,q,r,s)u=>J (σ:=Int×Int×Int×Bool×ja×(List Bool)) (λ(v,w,x,y,z,b0)=>ifB y (J (σ:=Int×Int×Int×ja×(List Bool)) (λ(b2,b3,b4,b5,b6)=>jb (some (w64 (b4+1))) λb8=>u (b2,b3,b8,b5,b6)) λb7=>jb (atL z.2.2.1 w) λb9=>jb (atL b9.2.1 x) λc0=>ifB c0.1 (jb (qu b0.length c0.2.1) λc1=>jb (Yc b0 c1 true) λc2=>b7 (v,w,x,z,c2)) (b7 (v,w,x,z,b0))) (jb (some (w64 (w+1))) λc3=>n (v,c3,z,b0))) λb1=>jb (atL r.2.2.1 p) λc4=>jb (qu s.length c4.1) λc5=>jb (atL s c5) λc6=>ifB c6 (jb (atL r.2.2.1 p) λc7=>b1 (o,p,q,decide (q<(c7.2.1.length:Int)),r,s)) (b1 (o,p,q,false,r,s))) nn (j,k,0,l,m)) (jb (some (w64 (j+1))) λc8=>i (c8,l,m))) nn (f,0,g,h)) (some h)) nn (0,a0,e))
noncomputable def zn8:=lk (α:=HK) [(250,me [vp 1 0,vo 3 1,vi 4] [.box 26 [.v Y_api_Grammar],.row 4 .bool] 2),(16018,me [vp 1 0,vo 3 1,vi 4,vi 5] [.box 26 [.v Y_api_Grammar],.row 4 .bool] 2),(1025170,me [vp 1 0,vo 3 1,vi 4,vi 5,vi 6] [.box 26 [.v Y_api_Grammar],.row 4 .bool] 2),(8201360,me [vp 1 0,vo 3 1,vi 4,vi 5,vi 6,vb 53] [.box 26 [.v Y_api_Grammar],.row 4 .bool] 2),(8201362,me [vp 1 0,vo 3 1,vi 4,vi 5,vi 6] [.box 26 [.v Y_api_Grammar],.row 4 .bool] 2)]
theorem zi2(nn:Nat):FFOk 15 ⟨[Y_api_Grammar],4,.bool,λt=>q7 nn t⟩:=mk2 Tryz.func15 nn 0 [(0,[14,26,33,55])] [(0,[(11,.own .bool)])] [] [] itn zn8 rn gn (tc (yw nn) tn) (by kernel_rfl) λt=>by kernel_rfl
theorem zci(nn:Nat):jz 15 ⟨[Y_api_Grammar],LB,λt=>q7 nn t⟩:=(zi2 nn).pure
noncomputable def zae(nn:Nat)(a0:(List je))(a1:(List Bool))(a2:Bool):Option Bool:=jm (σ:=(List je)×(List Bool)×Bool×Int) (λ(a,b,c,d)e=>ifB (decide (d<(a.length:Int))) (J (σ:=(List je)×(List Bool)×Bool×Int×Bool) (λ(f,g,h,i,j)=>ifB j (some false) (jb (some (w64 (i+1))) λl=>e (f,g,h,l))) λk=>jb (atL a d) λm=>jb (some (!m.1)) λn=>ifB n (ifB (!c) (k (a,b,c,d,true)) (jb (atL a d) λo=>ifB o.1 (jb (atL a d) λp=>jb (atL b p.2.1) λq=>k (a,b,c,d,!q)) (k (a,b,c,d,false)))) (jb (atL a d) λr=>ifB r.1 (jb (atL a d) λs=>jb (atL b s.2.1) λu=>k (a,b,c,d,!u)) (k (a,b,c,d,false)))) (some true)) nn (a0,a1,a2,0)
noncomputable def zz7:=lk (α:=HK) [(26,me [(0,.v (.sl Y_api_Item)),(1,.v LB),vb 2,vi 7] [] 0),(840,me [(0,.v (.sl Y_api_Item)),(1,.v LB),vb 2,vi 7,vb 41] [] 0)]
theorem zg0(nn:Nat):jz 81 ⟨[(.sl Y_api_Item),LB,.bool],.bool,λt=>zae nn (t.1) (t.2.1) (t.2.2)⟩:=mk1 Tryz.func81 nn 0 [(0,[13,19])] [] [] [] itn zz7 rn gn tn (by kernel_rfl) λt=>by kernel_rfl
noncomputable def Vz(nn:Nat)(a0:ja)(a1:Bool):Option (List Bool):=jb (v8 nn a0) λa=>ifB (!a) (some []) (jb (some (a0.2.1.length:Int)) λb=>jb (mkO 1 b) λc=>jm (σ:=Bool×Int×ja×(List Bool)) (λ(d,e,f,g)h=>ifB (decide (e<=(f.2.1.length:Int))) (jm (σ:=Bool×Int×Int×ja×(List Bool)) (λ(i,j,k,l,m)n=>ifB (decide (k<(l.2.2.1.length:Int))) (J (σ:=Bool×Int×Int×ja×(List Bool)) (λ(o,p,q,r,s)=>jb (some (w64 (q+1))) λv=>n (o,p,v,r,s)) λu=>jb (atL l.2.2.1 k) λw=>jb (zae nn w.2.1 m i) λx=>ifB x (jb (atL l.2.2.1 k) λy=>jb (qu m.length y.1) λz=>jb (Yc m z true) λb0=>u (i,j,k,l,b0)) (u (i,j,k,l,m))) (jb (some (w64 (j+1))) λb1=>h (i,b1,l,m))) nn (d,e,0,f,g)) (some g)) nn (a1,0,a0,(List.replicate c false)))
noncomputable def zto:=lk (α:=HK) [(122,me [vb 1,vp 2 0,vo 5 1,vi 6] [.box 26 [.v Y_api_Grammar],.row 4 .bool] 2),(7826,me [vb 1,vp 2 0,vo 5 1,vi 6,vi 7] [.box 26 [.v Y_api_Grammar],.row 4 .bool] 2),(62610,me [vb 1,vp 2 0,vo 5 1,vi 6,vi 7] [.box 26 [.v Y_api_Grammar],.row 4 .bool] 2)]
theorem zd2(nn:Nat):FFOk 34 ⟨[Y_api_Grammar,.bool],4,.bool,λt=>Vz nn (t.1) (t.2)⟩:=mk2 Tryz.func34 nn 0 [(0,[14,22,29])] [(0,[(11,.own .bool)])] [] [] itn zto rn gn (tc (yw nn) (tc (zg0 nn) tn)) (by kernel_rfl) λt=>by kernel_rfl
noncomputable abbrev Z7:=Vz
noncomputable def y5(nn:Nat)(a0:ja):Option (List Bool):=jb (Z7 nn a0 true) λa=>some a
theorem zly(nn:Nat):FFOk 16 ⟨[Y_api_Grammar],4,.bool,λt=>y5 nn t⟩:=mk2 Tryz.func16 nn 0 [] [] [] [65] itn h0 rn (gc (zd2 nn) gn) tn (by kernel_rfl) λt=>by kernel_rfl
theorem zli(nn:Nat):jz 16 ⟨[Y_api_Grammar],LB,λt=>y5 nn t⟩:=(zly nn).pure
noncomputable def Vs(nn:Nat)(a0:ja)(a1:(List je)):Option Bool:=jm (σ:=(List je)×Int×ja) (λ(a,b,c)d=>ifB (decide (b<(a.length:Int))) (J (σ:=(List je)×Int×Bool×ja) (λ(e,f,g,h)=>ifB g (some false) (jb (some (w64 (f+1))) λj=>d (e,j,h))) λi=>jb (atL a b) λk=>jb (some (decide (k.2.1<0))) λl=>ifB l (i (a,b,true,c)) (jb (atL a b) λm=>ifB m.1 (jb (atL a b) λn=>ifB (decide ((c.2.1.length:Int)<=n.2.1)) (i (a,b,true,c)) (jb (atL a b) λo=>jb (some (!o.1)) λp=>ifB p (jb (atL a b) λq=>i (a,b,decide ((c.1.length:Int)<=q.2.1),c)) (i (a,b,false,c)))) (jb (atL a b) λr=>jb (some (!r.1)) λs=>ifB s (jb (atL a b) λu=>i (a,b,decide ((c.1.length:Int)<=u.2.1),c)) (i (a,b,false,c))))) (some true)) nn (a1,0,a0)
noncomputable def zt1:=lk (α:=HK) [(26,me [(1,.v (.sl Y_api_Item)),vp 2 0,vi 5] [.box 26 [.v Y_api_Grammar]] 1),(840,me [(1,.v (.sl Y_api_Item)),vp 2 0,vi 5,vb 54] [.box 26 [.v Y_api_Grammar]] 1)]
theorem zeh(nn:Nat):jz 179 ⟨[Y_api_Grammar,(.sl Y_api_Item)],.bool,λt=>Vs nn (t.1) (t.2)⟩:=mk1 Tryz.func179 nn 0 [(0,[11,17,42])] [] [] [] itn zt1 rn gn tn (by kernel_rfl) λt=>by kernel_rfl
noncomputable def y9(nn:Nat)(a0:ja):Option (List Bool):=jb (Z7 nn a0 false) λa=>some a
theorem zmr(nn:Nat):FFOk 180 ⟨[Y_api_Grammar],4,.bool,λt=>y9 nn t⟩:=mk2 Tryz.func180 nn 0 [] [] [] [65] itn h0 rn (gc (zd2 nn) gn) tn (by kernel_rfl) λt=>by kernel_rfl
theorem zdt(nn:Nat):jz 180 ⟨[Y_api_Grammar],LB,λt=>y9 nn t⟩:=(zmr nn).pure
abbrev zay:LH:=⟨[(0,.v Y_api_Grammar),(1,.v LB),(2,.v (.sl Y_api_Item)),(3,.v I6),(4,.own 0)],[(0,.row 4 .bool)],1⟩
abbrev za3:LH:=⟨[(10,.v .bool)],[(0,.row 4 .bool)],1⟩
noncomputable def Q5(nn:Nat)(rec:(ja×(List Bool)×(List je)×Int×(List Bool))->Option (Bool×(List Bool)))(t:ja×(List Bool)×(List je)×Int×(List Bool)):Option (Bool×(List Bool)):=jm (σ:=(List Bool)×(List je)×Int×Int×(List Bool)×ja) (λ(a,b,c,d,e,f)g=>ifB (decide (d<(b.length:Int))) (jb (atL b d) λh=>ifB (!h.1) (jb (atL b d) λi=>some (decide (i.2.1=c),e)) (J (σ:=(List Bool)×(List je)×Int×Int×Bool×(List Bool)×ja) (λ(j,k,l,m,n,o,p)=>ifB n (some (true,o)) (jb (atL k m) λr=>jb (atL j r.2.1) λs=>ifB (!s) (some (false,o)) (jb (some (w64 (m+1))) λu=>g (j,k,l,u,o,p)))) λq=>jb (atL b d) λv=>jb (qu e.length v.2.1) λw=>jb (atL e w) λx=>ifB x (q (a,b,c,d,false,e,f)) (jb (qu e.length v.2.1) λy=>jb (Yc e y true) λz=>jm (σ:=(List Bool)×Int×Int×Int×(List Bool)×ja) (λ(b0,b1,b2,b3,b4,b5)b6=>ifB (decide (b3<(b5.2.2.1.length:Int))) (J (σ:=(List Bool)×Int×Int×Int×Bool×(List Bool)×ja) (λ(b7,b8,b9,c0,c1,c2,c3)=>ifB c1 (q (a,b,c,d,true,c2,f)) (jb (some (w64 (c0+1))) λc5=>b6 (b7,b8,b9,c5,c2,c3))) λc4=>jb (atL b5.2.2.1 b3) λc6=>jb (some (decide (c6.1=b1))) λc7=>ifB c7 (jb (atL b5.2.2.1 b3) λc8=>jb (rec (b5,b0,c8.2.1,b2,b4)) λc9=>c4 (b0,b1,b2,b3,c9.1,c9.2,b5)) (c4 (b0,b1,b2,b3,false,b4,b5))) (q (a,b,c,d,false,b4,f))) nn (a,v.2.1,c,0,z,f)))) (some (false,e))) nn (t.2.1,t.2.2.1,t.2.2.2.1,0,t.2.2.2.2,t.1)
noncomputable def ym(nn:Nat):Nat->(ja×(List Bool)×(List je)×Int×(List Bool))->Option (Bool×(List Bool))
 |0,_=>none
 |m+1,t=>Q5 nn (ym nn m) t
noncomputable def zrw:=lk (α:=HK) [(26,me [(1,.v LB),(2,.v (.sl Y_api_Item)),vi 3,vo 4 0,vp 5 1,vi 11] [.row 4 .bool,.box 26 [.v Y_api_Grammar]] 2),(3364,me [(1,.v LB),(2,.v (.sl Y_api_Item)),vi 3,vo 4 0,vp 5 1,vi 11,vb 40] [.row 4 .bool,.box 26 [.v Y_api_Grammar]] 2)]
noncomputable def zjx:=lk (α:=HK) [(122,me [(1,.v LB),vi 2,vi 3,vo 4 0,vp 5 1,vi 11] [.row 4 .bool,.box 26 [.v Y_api_Grammar]] 2),(3912,me [(1,.v LB),vi 2,vi 3,vo 4 0,vp 5 1,vi 11,vb 46] [.row 4 .bool,.box 26 [.v Y_api_Grammar]] 2)]
theorem zjm(nn:Nat):∀m,zjq Tryz.prog ⟨181,Tryz.f181.ntmps,Tryz.f181.results.toList,1,[],zay,za3,ym nn m⟩:=mk5 (hin:=zay) (hout:=za3) (bo:=Q5 nn) (q:=ym nn) Tryz.func181 nn 9 [(0,[17]),(1,[25,33])] [] [] [] (itc 3930205 Tryz.func205 zjx 1 [] itn (by kernel_rfl)) zrw (λrec h=>rc h rn) gn tn (by kernel_rfl) (λrec t=>by kernel_rfl) (λ_=>rfl) λ_ _=>rfl
noncomputable abbrev zpo (nn:Nat):RE:=⟨181,Tryz.f181.ntmps,Tryz.f181.results.toList,1,[],zay,za3,ym nn nn⟩
theorem zk6(nn:Nat):zjq Tryz.prog (zpo nn):=zjm nn nn
noncomputable def Zm(nn:Nat)(a0:ja)(a1:(List je)):Option (List Int):=J (σ:=(List je)×Bool×ja×(List Int)) (λ(a,b,c,d)=>ifB b (some d) (jb (y9 nn c) λf=>jm (σ:=(List je)×(List Bool)×Int×ja×(List Int)) (λ(g,h,i,j,k)l=>ifB (decide (i<(j.1.length:Int))) (J (σ:=(List je)×(List Bool)×Int×ja×(List Int)) (λ(m,n,o,p,q)=>jb (some (w64 (o+1))) λs=>l (m,n,s,p,q)) λr=>jb (some (j.2.1.length:Int)) λu=>jb (mkO 1 u) λv=>jb (ym nn nn (j,h,g,i,(List.replicate v false))) λw=>ifB w.1 (jb (apO 8 k [i]) λx=>r (g,h,i,j,x)) (r (g,h,i,j,k))) (some k)) nn (a,f,0,c,d))) λe=>jb (v8 nn a0) λy=>jb (some (!y)) λz=>ifB z (e (a1,true,a0,[])) (jb (Vs nn a0 a1) λb0=>e (a1,!b0,a0,[]))
noncomputable def z2u:=lk (α:=HK) [(28,me [(1,.v (.sl Y_api_Item)),vp 2 0,vo 5 1,vb 17] [.box 26 [.v Y_api_Grammar],.row 3 I6] 2),(250,me [(1,.v (.sl Y_api_Item)),vp 2 0,vo 5 1,(6,.v LB),vi 7] [.box 26 [.v Y_api_Grammar],.row 3 I6] 2),(2002,me [(1,.v (.sl Y_api_Item)),vp 2 0,vo 5 1,(6,.v LB),vi 7] [.box 26 [.v Y_api_Grammar],.row 3 I6] 2)]
theorem zh4(nn:Nat):FFOk 131 ⟨[Y_api_Grammar,(.sl Y_api_Item)],3,I6,λt=>Zm nn (t.1) (t.2)⟩:=mk2 Tryz.func131 nn 0 [(0,[11,27,34])] [(0,[(8,.own I6),(39,.told I6)])] [] [] itn z2u (rc (zk6 nn) rn) gn (tc (yw nn) (tc (zeh nn) (tc (zdt nn) tn))) (by kernel_rfl) λt=>by kernel_rfl
noncomputable abbrev zst:=Zm
theorem ztf(nn:Nat):jz 131 ⟨[Y_api_Grammar,(.sl Y_api_Item)],L6,λt=>Zm nn (t.1) (t.2)⟩:=(zh4 nn).pure
noncomputable def Y5(nn:Nat)(a0:ja)(a1:(List je)):Option Bool:=J (λ(a:Bool)=>some a) λb=>jb (v8 nn a0) λc=>ifB c (jb (Vs nn a0 a1) λd=>ifB d (jb (y9 nn a0) λe=>jb (zae nn a1 e false) λf=>b f) (b false)) (b false)
noncomputable def zx0:=lk (α:=HK) [(6,me [vb 4] [] 0)]
theorem zfk(nn:Nat):jz 132 ⟨[Y_api_Grammar,(.sl Y_api_Item)],.bool,λt=>Y5 nn (t.1) (t.2)⟩:=mk1 Tryz.func132 nn 0 [] [] [] [] itn zx0 rn gn (tc (yw nn) (tc (zg0 nn) (tc (zeh nn) (tc (zdt nn) tn)))) (by kernel_rfl) λt=>by kernel_rfl
noncomputable def Ys(nn:Nat)(a0:ja)(a1:jf)(a2:Int):Option ((List Int)×Bool×Unit):=jb (zhi a1.2.1 (some (w64 (a2+1))) none) λa=>jb (Zm nn a0 a) λb=>jb (Y5 nn a0 a) λc=>some (b,c,())
theorem zk0(nn:Nat):jz 182 ⟨[Y_api_Grammar,Y_api_Prod,I6],(.tup (.cons L6 (.cons .bool .nil))),λt=>Ys nn (t.1) (t.2.1) (t.2.2)⟩:=mk1 Tryz.func182 nn 0 [] [] [] [] itn h0 rn gn (tc (ztf nn) (tc (zfk nn) tn)) (by kernel_rfl) λt=>by kernel_rfl
noncomputable def Jh(nn:Nat)(a0:(List Int))(a1:(List Int)):Option (List Int):=jb (z34 nn a0) λa=>jm (σ:=(List Int)×Int×(List Int)) (λ(b,c,d)e=>ifB (decide (c<(b.length:Int))) (J (σ:=(List Int)×Int×(List Int)) (λ(f,g,h)=>jb (some (w64 (g+1))) λj=>e (f,j,h)) λi=>jb (atL b c) λk=>jb (Yh nn d k) λl=>ifB l (i (b,c,d)) (jm (σ:=Int×Int×(List Int)×(List Int)) (λ(m,n,o,p)q=>J (σ:=Int×Int×Bool×(List Int)×(List Int)) (λ(r,s,u,v,w)=>ifB u (jb (qu v.length s) λy=>jb (atL v y) λz=>jb (apO 8 w [z]) λb0=>jb (some (w64 (s+1))) λb1=>q (r,b1,v,b0)) (jb (apO 8 w [r]) λb2=>jm (σ:=Int×(List Int)×(List Int)) (λ(b3,b4,b5)b6=>ifB (decide (b3<(b4.length:Int))) (jb (qu b4.length b3) λb7=>jb (atL b4 b7) λb8=>jb (apO 8 b5 [b8]) λb9=>jb (some (w64 (b3+1))) λc0=>b6 (c0,b4,b9)) (i (b,c,b5))) nn ((w.length:Int),v,b2))) λx=>jb (some (decide (n<(o.length:Int)))) λc1=>ifB c1 (jb (qu o.length n) λc2=>jb (atL o c2) λc3=>x (m,n,decide (c3<m),o,p)) (x (m,n,false,o,p))) nn (k,0,d,[]))) (some d)) nn (a1,0,a)
noncomputable def ztz:=lk (α:=HK) [(58,me [vl 1,vo 5 0,vi 6] [.row 3 I6] 1),(932,me [vl 1,vo 5 0,vi 6] [.row 3 I6] 1)]
noncomputable def zlf:=lk (α:=HK) [(122,me [vo 0 0,vi 1,vo 5 1,vi 6] [.row 3 I6,.row 3 I6] 2),(976,me [vo 0 0,vi 1,vo 5 1,vi 6,vb 25] [.row 3 I6,.row 3 I6] 2),(1018,me [vo 0 0,vo 5 1,vi 8] [.row 3 I6,.row 3 I6] 2)]
theorem zdx(nn:Nat):FFOk 133 ⟨[L6,L6],3,I6,λt=>Jh nn (t.1) (t.2)⟩:=mk2 Tryz.func133 nn 9 [(0,[14]),(1,[17,27,47])] [(1,[(13,.own I6),(33,.told I6),(39,.told I6),(53,.told I6)])] [] [65] (itc 3250090 Tryz.func90 zlf 1 [] itn (by kernel_rfl)) ztz rn (gc (zs6 nn) gn) (tc (zcc nn) tn) (by kernel_rfl) λt=>by kernel_rfl
noncomputable abbrev zh8:=Jh
theorem zm0(nn:Nat):jz 133 ⟨[L6,L6],L6,λt=>Jh nn (t.1) (t.2)⟩:=(zdx nn).pure
noncomputable def zao(nn:Nat)(a0:ja):Option (List (List Int)):=jb (v8 nn a0) λa=>ifB (!a) (some []) (jb (q7 nn a0) λb=>jm (σ:=(List Bool)×Int×ja×(List (List Int))) (λ(c,d,e,f)g=>ifB (decide (d<(e.2.1.length:Int))) (jb (apO 24 f [[]]) λh=>jb (some (w64 (d+1))) λi=>g (c,i,e,h)) (jb (qu f.length e.2.2.2.1) λj=>jb (Yc f j [(e.1.length:Int)]) λk=>J (λ(l:(List (List Int)))=>some l) λm=>jm (σ:=(List Bool)×Int×ja×(List (List Int))) (λ(n,o,p,q)r=>ifB (decide (o<=(w64 ((p.2.1.length:Int)*(w64 ((p.1.length:Int)+1)))))) (jm (σ:=(List Bool)×Int×Bool×Int×ja×(List (List Int))) (λ(s,u,v,w,x,y)z=>ifB (decide (w<(x.2.2.1.length:Int))) (jb (atL x.2.2.1 w) λb0=>jm (σ:=(List Bool)×Int×Bool×Int×Int×ja×(List (List Int))×jf) (λ(b1,b2,b3,b4,b5,b6,b7,b8)b9=>J (σ:=(List Bool)×Int×Bool×Int×Int×Bool×ja×(List (List Int))×jf) (λ(c0,c1,c2,c3,c4,c5,c6,c7,c8)=>ifB c5 (J (σ:=(List Bool)×Int×Bool×Int×Int×ja×(List (List Int))×jf) (λ(d0,d1,d2,d3,d4,d5,d6,d7)=>jb (some (w64 (d4+1))) λd9=>b9 (d0,d1,d2,d3,d9,d5,d6,d7)) λd8=>jb (atL c8.2.1 c4) λe0=>ifB (!e0.1) (d8 (c0,c1,c2,c3,c4,c6,c7,c8)) (jb (Ys nn c6 c8 c4) λe1=>J (σ:=(List Bool)×Int×Bool×Int×Int×(List Int)×ja×(List (List Int))×jf×je) (λ(e2,e3,e4,e5,e6,e7,e8,e9,f0,f1)=>jb (qu e9.length f1.2.1) λf3=>jb (atL e9 f3) λf4=>jb (Jh nn e7 f4) λf5=>J (σ:=(List Bool)×Int×Bool×Int×Int×(List Int)×ja×(List (List Int))×jf×je) (λ(f6,f7,f8,f9,g0,g1,g2,g3,g4,g5)=>jb (qu g3.length g5.2.1) λg7=>jb (Yc g3 g7 g1) λg8=>d8 (f6,f7,f8,f9,g0,g2,g8,g4)) λg6=>ifB e4 (g6 (e2,e3,true,e5,e6,f5,e8,e9,f0,f1)) (jb (qu e9.length f1.2.1) λg9=>jb (atL e9 g9) λh0=>g6 (e2,e3,decide ((h0.length:Int)<(f5.length:Int)),e5,e6,f5,e8,e9,f0,f1))) λf2=>ifB e1.2.1 (jb (qu c7.length c8.1) λh1=>jb (atL c7 h1) λh2=>jb (Jh nn e1.1 h2) λh3=>f2 (c0,c1,c2,c3,c4,h3,c6,c7,c8,e0)) (f2 (c0,c1,c2,c3,c4,e1.1,c6,c7,c8,e0)))) (jb (some (w64 (c3+1))) λh4=>z (c0,c1,c2,h4,c6,c7))) λc9=>jb (atL b1 b8.1) λh5=>ifB h5 (c9 (b1,b2,b3,b4,b5,decide (b5<(b8.2.1.length:Int)),b6,b7,b8)) (c9 (b1,b2,b3,b4,b5,false,b6,b7,b8))) nn (s,u,v,w,0,x,y,b0)) (ifB (!v) (m y) (jb (some (w64 (u+1))) λh6=>r (s,h6,x,y)))) nn (n,o,false,0,p,q)) (m q)) nn (c,0,e,k))) nn (b,0,a0,[]))
noncomputable def zyw:=lk (α:=HK) [(250,me [vp 1 0,vo 3 1,(4,.v LB),vi 5] [.box 26 [.v Y_api_Grammar],.row 31 L6] 2),(509,me [vo 3 0] [.row 31 L6] 1),(1018,me [vp 1 0,vo 3 1,(4,.v LB),vi 6] [.box 26 [.v Y_api_Grammar],.row 31 L6] 2),(260682,me [vp 1 0,vo 3 1,(4,.v LB),vi 6,vb 7,vi 8] [.box 26 [.v Y_api_Grammar],.row 31 L6] 2),(33367334,me [vp 1 0,vo 3 1,(4,.v LB),vi 6,vb 7,vi 8,vp 9 2,vi 10] [.box 26 [.v Y_api_Grammar],.row 31 L6,.box 66 [.v Y_api_Prod]] 3),(266938672,me [vp 1 0,vo 3 1,(4,.v LB),vi 6,vb 7,vi 8,vp 9 2,vi 10,vb 75] [.box 26 [.v Y_api_Grammar],.row 31 L6,.box 66 [.v Y_api_Prod]] 3),(266938674,me [vp 1 0,vo 3 1,(4,.v LB),vi 6,vb 7,vi 8,vp 9 2,vi 10] [.box 26 [.v Y_api_Grammar],.row 31 L6,.box 66 [.v Y_api_Prod]] 3),(4271018791,me [vp 1 0,vo 3 1,(4,.v LB),vi 6,vb 7,vi 8,vp 9 2,vi 10,vp 11 3,vl 12] [.box 26 [.v Y_api_Grammar],.row 31 L6,.box 66 [.v Y_api_Prod],.box 54 [.v Y_api_Item]] 4),(34168150334,me [vp 1 0,vo 3 1,(4,.v LB),vi 6,vb 7,vi 8,vp 9 2,vi 10,vp 11 3,vl 12] [.box 26 [.v Y_api_Grammar],.row 31 L6,.box 66 [.v Y_api_Prod],.box 54 [.v Y_api_Item]] 4)]
theorem zri(nn:Nat):jz 134 ⟨[Y_api_Grammar],M6,λt=>zao nn t⟩:=mk1 Tryz.func134 nn 0 [(0,[27,51,58,77])] [(0,[(14,.own L6),(29,.told I6),(30,.told L6),(38,.own I6)])] [(584,[(38,L6)])] [] itn zyw rn gn (tc (zci nn) (tc (yw nn) (tc (zm0 nn) (tc (zk0 nn) tn)))) (by kernel_rfl) λt=>by kernel_rfl
noncomputable def J3(nn:Nat)(a0:ja)(a1:Int):Option (List Int):=J (σ:=Int×Bool×ja) (λ(a,b,c)=>ifB b (some []) (jb (atL c.2.2.1 a) λe=>jb (zst nn c e.2.1) λf=>J (λ(g:(List Int))=>some g) λh=>jb (atL c.2.2.1 a) λi=>jb (Y5 nn c i.2.1) λj=>ifB j (jb (zao nn c) λk=>jb (atL c.2.2.1 a) λl=>jb (atL k l.1) λm=>jb (zh8 nn f m) λn=>h n) (h f))) λd=>jb (v8 nn a0) λo=>jb (some (!o)) λp=>ifB p (d (a1,true,a0)) (ifB (decide (a1<0)) (d (a1,true,a0)) (d (a1,decide ((a0.2.2.1.length:Int)<=a1),a0)))
noncomputable def zoe:=lk (α:=HK) [(12,me [vi 1,vp 2 0,vb 19] [.box 26 [.v Y_api_Grammar]] 1),(15,me [vo 5 0] [.row 3 I6] 1)]
theorem zia(nn:Nat):FFOk 84 ⟨[Y_api_Grammar,I6],3,I6,λt=>J3 nn (t.1) (t.2)⟩:=mk2 Tryz.func84 nn 0 [(0,[8])] [(0,[(20,.own I6)])] [] [199,331] itn zoe rn (gc (zh4 nn) (gc (zdx nn) gn)) (tc (yw nn) (tc (zfk nn) (tc (zri nn) tn))) (by kernel_rfl) λt=>by kernel_rfl
theorem zid(nn:Nat):jz 84 ⟨[Y_api_Grammar,I6],L6,λt=>J3 nn (t.1) (t.2)⟩:=(zia nn).pure
noncomputable def Qg(nn:Nat)(a0:ja):Option (List (List Int)):=jm (σ:=Int×ja×(List (List Int))) (λ(a,b,c)d=>ifB (decide (a<(b.2.2.1.length:Int))) (jb (J3 nn b a) λe=>jb (apO 24 c [e]) λf=>jb (some (w64 (a+1))) λg=>d (g,b,f)) (some c)) nn (0,a0,[])
noncomputable def zk1:=lk (α:=HK) [(58,me [vp 1 0,vo 3 1,vi 4] [.box 26 [.v Y_api_Grammar],.row 31 L6] 2)]
theorem zgq(nn:Nat):jz 36 ⟨[Y_api_Grammar],M6,λt=>Qg nn t⟩:=mk1 Tryz.func36 nn 0 [(0,[12])] [(0,[(5,.own L6),(17,.told L6)])] [] [] itn zk1 rn gn (tc (zid nn) tn) (by kernel_rfl) λt=>by kernel_rfl
noncomputable def Ju(nn:Nat)(a0:ja)(a1:(List (List Int)))(a2:Int)(a3:Int):Option (List Int):=jm (σ:=(List (List Int))×Int×Int×Int×ja×(List Int)) (λ(a,b,c,d,e,f)g=>ifB (decide (d<(e.2.2.1.length:Int))) (J (σ:=(List (List Int))×Int×Int×Int×ja×(List Int)) (λ(h,i,j,k,l,m)=>jb (some (w64 (k+1))) λo=>g (h,i,j,o,l,m)) λn=>J (σ:=(List (List Int))×Int×Int×Int×Bool×ja×(List Int)) (λ(p,q,r,s,u,v,w)=>ifB u (jb (apO 8 w [s]) λy=>n (p,q,r,s,v,y)) (n (p,q,r,s,v,w))) λx=>jb (atL e.2.2.1 d) λz=>jb (some (decide (z.1=b))) λb0=>ifB b0 (jb (atL a d) λb1=>jb (Yh nn b1 c) λb2=>x (a,b,c,d,b2,e,f)) (x (a,b,c,d,false,e,f))) (some f)) nn (a1,a2,a3,0,a0,[])
noncomputable def zl4:=lk (α:=HK) [(58,me [(1,.v M6),vi 2,vi 3,vp 4 0,vo 9 1,vi 10] [.box 26 [.v Y_api_Grammar],.row 3 I6] 2),(466,me [(1,.v M6),vi 2,vi 3,vp 4 0,vo 9 1,vi 10] [.box 26 [.v Y_api_Grammar],.row 3 I6] 2),(1864,me [(1,.v M6),vi 2,vi 3,vp 4 0,vo 9 1,vi 10,vb 34] [.box 26 [.v Y_api_Grammar],.row 3 I6] 2)]
theorem zhm(nn:Nat):FFOk 37 ⟨[Y_api_Grammar,M6,I6,I6],3,I6,λt=>Ju nn (t.1) (t.2.1) (t.2.2.1) (t.2.2.2)⟩:=mk2 Tryz.func37 nn 0 [(0,[18,26])] [(0,[(11,.own I6),(37,.told I6)])] [] [] itn zl4 rn gn (tc (zcc nn) tn) (by kernel_rfl) λt=>by kernel_rfl
theorem zhn(nn:Nat):jz 37 ⟨[Y_api_Grammar,M6,I6,I6],L6,λt=>Ju nn (t.1) (t.2.1) (t.2.2.1) (t.2.2.2)⟩:=(zhm nn).pure
noncomputable def Vx(nn:Nat)(a0:ja):Option (jc×Int×Unit):=jb (v8 nn a0) λa=>ifB (!a) (some ((0,0,0,()),(-1),())) (jb (Qg nn a0) λb=>jm (σ:=(List (List Int))×Int×ja×jc) (λ(c,d,e,f)g=>ifB (decide (d<(e.2.1.length:Int))) (jm (σ:=(List (List Int))×Int×Int×ja×jc) (λ(h,i,j,k,l)m=>ifB (decide (j<=(k.1.length:Int))) (jb (Ju nn k h i j) λn=>ifB (decide (1<(n.length:Int))) (jb (atL n 1) λo=>some ((15,i,j,()),o,())) (jb (some (w64 (j+1))) λp=>m (h,i,p,k,l))) (jb (some (w64 (i+1))) λq=>g (h,q,k,l))) nn (c,d,0,e,f)) (some ((0,0,0,()),(-1),()))) nn (b,0,a0,(0,0,0,())))
noncomputable def zsx:=lk (α:=HK) [(122,me [vp 1 0,vp 2 1,(4,.v M6),vi 5] [.box 26 [.v Y_api_Grammar],.box 36 [.v jd]] 2),(7826,me [vp 1 0,vp 2 1,(4,.v M6),vi 5,vi 6] [.box 26 [.v Y_api_Grammar],.box 36 [.v jd]] 2)]
theorem zme(nn:Nat):jz 18 ⟨[Y_api_Grammar],(.tup (.cons jd (.cons I6 .nil))),λt=>Vx nn t⟩:=mk1 Tryz.func18 nn 0 [(0,[20,27])] [] [] [] itn zsx rn gn (tc (yw nn) (tc (zgq nn) (tc (zhn nn) tn))) (by kernel_rfl) λt=>by kernel_rfl
structure Fi(ι:Type)where
 ev:(ι->Prop)->Prop
 mono:∀{P Q:ι->Prop},(∀i,P i->Q i)->ev P->ev Q
 and:∀{P Q:ι->Prop},ev P->ev Q->ev λi=>P i/\Q i
 top:ev λ_=>True
def wcy:Fi Nat where
 ev P:=∃N,∀n,N<=n->P n
 mono:=λh⟨N,hN⟩=>⟨N,λn hn=>h n (hN n hn)⟩
 and:=λ⟨N,hN⟩ ⟨M,hM⟩=>⟨max N M,λn hn=>⟨hN n (by omega),hM n (by omega)⟩⟩
 top:=⟨0,λ_ _=>trivial⟩
def Fi.mul{ι:Type}(D:Fi ι):Fi (ι×Nat) where
 ev P:=∃N,D.ev λi=>∀n,N<=n->P (i,n)
 mono:=λh⟨N,hN⟩=>⟨N,D.mono (λi hi n hn=>h (i,n) (hi n hn)) hN⟩
 and:=λ⟨N,hN⟩ ⟨M,hM⟩=>⟨max N M,D.mono (λi hi n hn=>⟨hi.1 n (by omega),hi.2 n (by omega)⟩) (D.and hN hM)⟩
 top:=⟨0,D.mono (λ_ _ _ _=>trivial) D.top⟩
section
variable{ι α β σ:Type}{D:Fi ι}
def Big(D:Fi ι)(φ:ι->Nat):Prop:=∀N,D.ev λi=>N<=φ i
theorem waa:Big wcy λn=>n:=λN=>⟨N,λn h=>h⟩
theorem Big.fst{φ:ι->Nat}(h:Big D φ):Big D.mul λp=>φ p.1:=λN=>⟨0,D.mono (λi hi n _=>hi) (h N)⟩
def Tt(D:Fi ι)(f:ι->Option α)(Q:α->Prop):Prop:=∃r,D.ev (λi=>f i=some r)/\Q r
abbrev Tn(f:Nat->Option α)(Q:α->Prop):Prop:=Tt wcy f Q
theorem Tt.mono{f:ι->Option α}{Q R:α->Prop}(h:Tt D f Q)(hq:∀r,Q r->R r):Tt D f R:=by
 obtain⟨r,h1,h2⟩:=h;exact⟨r,h1,hq r h2⟩
theorem Tt.pure{a:α}{Q:α->Prop}(h:Q a):Tt D (λ_=>some a) Q:=⟨a,D.mono (λ_ _=>rfl) D.top,h⟩
theorem Tt.bind{f:ι->Option α}{k:ι->α->Option β}{R:α->Prop}{Q:β->Prop}(h:Tt D f R)(hk:∀x,R x->Tt D (λi=>k i x) Q):Tt D (λi=>jb (f i) (k i)) Q:=by
 obtain⟨x,h1,h2⟩:=h;obtain⟨r,h3,h4⟩:=hk x h2;exact⟨r,D.mono (λi hi=>by show jb (f i) (k i)=some r;rw[hi.1];exact hi.2) (D.and h1 h3),h4⟩
theorem wac{o:Option α}{k:ι->α->Option β}{Q:β->Prop}(x:α)(ho:o=some x)(hk:Tt D (λi=>k i x) Q):Tt D (λi=>jb o (k i)) Q:=
 Tt.bind (R:=λy=>y=x) (by rw[ho];exact Tt.pure rfl) λy hy=>by subst hy;exact hk
theorem wad{x:α}{k:ι->α->Option β}{Q:β->Prop}(hk:Tt D (λi=>k i x) Q):Tt D (λi=>jb (some x) (k i)) Q:=wac x rfl hk
theorem waq{c:Bool}{x y:ι->Option β}{Q:β->Prop}(hc:c=true)(h:Tt D x Q):Tt D (λi=>ifB c (x i) (y i)) Q:=by subst hc;exact h
theorem wap{c:Bool}{x y:ι->Option β}{Q:β->Prop}(hc:c=false)(h:Tt D y Q):Tt D (λi=>ifB c (x i) (y i)) Q:=by subst hc;exact h
theorem wab{c:Bool}{x y:ι->Option β}{Q:β->Prop}(h1:c=true->Tt D x Q)(h2:c=false->Tt D y Q):Tt D (λi=>ifB c (x i) (y i)) Q:=by
 cases c
 ·exact h2 rfl
 ·exact h1 rfl
def Nx(D:Fi ι)(Q:β->Prop)(R:σ->Prop)(nx:ι->σ->Option β):Prop:=∀s,R s->Tt D (λi=>nx i s) Q
theorem Tt.fst{f:ι->Option β}{Q:β->Prop}(h:Tt D f Q):Tt D.mul (λp=>f p.1) Q:=by
 obtain⟨r,h1,h2⟩:=h;exact⟨r,⟨0,D.mono (λi hi n _=>hi) h1⟩,h2⟩
theorem Nx.fst{Q:β->Prop}{R:σ->Prop}{nx:ι->σ->Option β}(h:Nx D Q R nx):Nx D.mul Q R (λp s=>nx p.1 s):=λs hs=>Tt.fst (h s hs)
theorem Tt.J{rest:ι->σ->Option β}{A:ι->(σ->Option β)->Option β}{Q:β->Prop}(R:σ->Prop)(h1:∀nx:ι->σ->Option β,Nx D Q R nx->Tt D (λi=>A i (nx i)) Q)(h2:∀s,R s->Tt D (λi=>rest i s) Q):Tt D (λi=>T.J (rest i) (A i)) Q:=h1 rest h2
theorem Tt.call{p:Nat->Option α}{φ:ι->Nat}{Q:α->Prop}(h:Tn p Q)(hφ:Big D φ):Tt D (λi=>p (φ i)) Q:=by
 obtain⟨r,⟨N,h1⟩,h2⟩:=h;exact⟨r,D.mono (λi hi=>h1 _ hi) (hφ N),h2⟩
theorem Tt.loop{B:ι->σ->(σ->Option β)->Option β}{φ:ι->Nat}{Q:β->Prop}{s:σ}(I:Nat->σ->Prop)(m:Nat)(hφ:Big D φ)(h0:I m s)
  (step:∀m s,I m s->∀nx:ι×Nat->σ->Option β,(∀m' s',m'<m->I m' s'->Tt D.mul (λp=>nx p s') Q)->Tt D.mul (λp=>B p.1 s (nx p)) Q):Tt D (λi=>jm (B i) (φ i) s) Q:=by
 have key:∀m s,I m s->Tt D.mul (λp=>jm (B p.1) p.2 s) Q:=by
  intro m;induction m using Nat.strongRecOn with
  |ind m ih=>
   intro s hs;obtain⟨r,⟨N,h1⟩,h2⟩:=step m s hs (λp=>jm (B p.1) p.2) λm' s' hm hs'=>ih m' hm s' hs';refine⟨r,⟨N+1,D.mono (λi hi n hn=>?_) h1⟩,h2⟩
   match n,hn with
   |0,hn=>omega
   |n+1,hn=>exact hi n (by omega)
 obtain⟨r,⟨N,h1⟩,h2⟩:=key m s h0;exact⟨r,D.mono (λi hi=>hi.1 _ hi.2) (D.and h1 (hφ N)),h2⟩
end
theorem Yr{α:Type}{l:List α}{z:Int}{x:α}(h0:0<=z)(h:l[z.toNat]?=some x):atL l z=some x:=by
 unfold atL;rw[wfb h0];exact h
theorem atN{α:Type}{l:List α}{k:Nat}(h:k<l.length):atL l (k:Int)=some l[k]:=Yr (by omega) (by simp[h])
structure GLen(g:ja):Prop where
 t:g.1.length<=1000000
 r:g.2.1.length<=1000000
 p:g.2.2.1.length<=1000000
theorem wI{z:Int}(h1 : -9223372036854775808<=z)(h2:z<=9223372036854775807):T.w64 z=z:=w64_of h1 h2
structure jct(g:ja):Prop where
 t:g.1.length<=9223372036854775807
 r:g.2.1.length<=9223372036854775807
 p:g.2.2.1.length<=9223372036854775807
theorem jfg(g:ja)(hg:jct g):Tn (λnn=>zcs nn g) (λb=>b=true->g.1.length<=70/\g.2.1.length<=70/\g.2.2.1.length<=260):=by
 have m1:=hg.t;have m2:=hg.r;have m3:=hg.p;unfold zcs;refine Tt.loop (λm s=>∃(k:Nat)(a:Int),k<=g.1.length/\m=g.1.length-k/\s=(a,(k:Int),g)) g.1.length waa ⟨0,_,by omega,by omega,rfl⟩ λm s⟨k,a,hk,hm,hs⟩ nx hnx=>?_;subst hs;dsimp only;refine wab (λc=>?_) (λc=>?_)
 ·have c:=wd3 c;have hlt:k<g.1.length:=by omega
  refine wac _ (atN hlt) (wac _ (atN hlt) (wad (wad ?_)));rw[wI (z:=(k:Int)+1) (by omega) (by omega)];exact hnx (g.1.length-(k+1)) _ (by omega) ⟨k+1,_,by omega,rfl,rfl⟩
 refine Tt.loop (λm s=>∃(k:Nat)(a:Int),k<=g.2.1.length/\m=g.2.1.length-k/\s=(a,(k:Int),g)) g.2.1.length waa.fst ⟨0,_,by omega,by omega,rfl⟩ λm s⟨k,a,hk,hm,hs⟩ nx hnx=>?_;subst hs;dsimp only;refine wab (λc=>?_) (λc=>?_)
 ·have c:=wd3 c;have hlt:k<g.2.1.length:=by omega
  refine wac _ (atN hlt) (wad (wad ?_));rw[wI (z:=(k:Int)+1) (by omega) (by omega)];exact hnx (g.2.1.length-(k+1)) _ (by omega) ⟨k+1,_,by omega,rfl,rfl⟩
 refine Tt.loop (λm s=>∃(k:Nat)(a:Int),k<=g.2.2.1.length/\m=g.2.2.1.length-k/\s=(a,(k:Int),g)) g.2.2.1.length waa.fst.fst ⟨0,_,by omega,by omega,rfl⟩ λm s⟨k,a,hk,hm,hs⟩ nx hnx=>?_;subst hs;dsimp only;refine wab (λc=>?_) (λc=>?_)
 ·have c:=wd3 c;have hlt:k<g.2.2.1.length:=by omega
  refine wac _ (atN hlt) (wad (wad ?_));rw[wI (z:=(k:Int)+1) (by omega) (by omega)];exact hnx (g.2.2.1.length-(k+1)) _ (by omega) ⟨k+1,_,by omega,rfl,rfl⟩
 refine Tt.J (λb=>b=true->g.1.length<=70/\g.2.1.length<=70/\g.2.2.1.length<=260) (λnx hnx=>?_) λs hs=>Tt.pure hs;refine wad (wab (λc1=>wab (λc2=>wab (λc3=>hnx _ λ_=>?_) λ_=>hnx _ λh=>by cases h) λ_=>hnx _ λh=>by cases h) λ_=>hnx _ λh=>by cases h);have c1:=wd3 c1;have c2:=wd3 c2;have c3:=wd3 c3;exact⟨by omega,by omega,by omega⟩
structure GSm(g:ja):Prop where
 few:g.1.length<=70/\g.2.1.length<=70/\g.2.2.1.length<=260
 r:g.2.1.length<=12
 t:g.1.length<=12
 p:g.2.2.1.length<=30
theorem z0h(g:ja)(hg:jct g):Tn (λnn=>Zv nn g) (λb=>b=true->GSm g):=by
 unfold Zv;refine Tt.J (λb=>b=true->GSm g) (λnx hnx=>?_) λs hs=>Tt.pure hs;refine Tt.bind (Tt.call (jfg g hg) waa) λb hb=>?_;refine wab (λc1=>wab (λc2=>wab (λc3=>hnx _ λc4=>?_) λ_=>hnx _ λh=>by cases h) λ_=>hnx _ λh=>by cases h) λ_=>hnx _ λh=>by cases h
 have c2:=wd3 c2;have c3:=wd3 c3;have c4:=wd3 c4;exact⟨hb c1,by omega,by omega,by omega⟩
def zdf(l:List qg):Nat:=(l.map λt=>min t.2.1.length 1000).sum
theorem zt9{l:List qg}{k:Nat}(h:k<l.length):zdf (l.take (k+1))=zdf (l.take k)+min (l[k]).2.1.length 1000:=by
 unfold zdf;rw[wel h];simp only[wfl,List.sum_append,wen,wfk,List.sum_cons,List.sum_nil,wfu]
theorem z0r:∀{l:List qg}{t:qg},t∈l->min t.2.1.length 1000<=zdf l
 |x::l,t,h=>by
  have e:zdf (x::l)=min x.2.1.length 1000+zdf l:=by unfold zdf;rw[wen,List.sum_cons]
  rcases wep.1 h with rfl|h
  ·omega
  ·have:=z0r h;omega
structure GBu(g:ja):Prop extends GSm g where
 n:zdf g.1<=120
 s:g.2.2.2.2.1<=200
theorem z71(g:ja)(hg:jct g):Tn (λnn=>Vr nn g) (λb=>b=true->GBu g):=by
 have m1:=hg.t;unfold Vr;refine Tt.loop (λm s=>∃(k:Nat)(a:Int),k<=g.1.length/\m=g.1.length-k/\s=(a,(k:Int),g)/\(g.1.length<=1000->a=(zdf (g.1.take k):Int)/\zdf (g.1.take k)<=1000*k)) g.1.length waa ⟨0,_,by omega,by omega,rfl,λ_=>by simp[zdf]⟩ λm s⟨k,a,hk,hm,hs,hi⟩ nx hnx=>?_;subst hs;dsimp only;refine wab (λc=>?_) (λc=>?_)
 ·have c:=wd3 c;have hlt:k<g.1.length:=by omega
  refine wac _ (atN hlt) (wad (wad ?_));rw[wI (z:=(k:Int)+1) (by omega) (by omega)];refine hnx (g.1.length-(k+1)) _ (by omega) ⟨k+1,_,by omega,rfl,rfl,λh=>?_⟩;obtain⟨e1,e2⟩:=hi h;have es:=zt9 hlt;rw[wI (by omega) (by omega)];omega
 ·have c:=wd4 c;have hke:k=g.1.length:=by omega
  rw[hke,we1]at hi;refine Tt.J (λb=>b=true->GBu g) (λnx hnx=>?_) λs hs=>Tt.pure hs;refine Tt.bind (Tt.call (z0h g hg) waa.fst) λb hb=>?_;refine wab (λc1=>wab (λc2=>hnx _ λc3=>?_) λ_=>hnx _ λh=>by cases h) λ_=>hnx _ λh=>by cases h
  have c2:=wd3 c2;have c3:=wd3 c3;have hs:=hb c1;have:=hs.t;have:=hi (by omega);exact⟨hs,by omega,c3⟩
theorem zss{l:List UInt8}{p:Int}:zgm l p=true↔p.toNat<l.length:=by
 unfold zgm;simp[wg1]
def zai(g:ja)(x:je):Prop:=0<=x.2.1/\x.2.1<(if x.1=true then(g.2.1.length:Int)else g.1.length)
theorem Jw{α:Type}{b:Nat}{l r:List α}(h1:l.length+r.length<=2000000)(h2:b<=1000):apO b l r=some (l++r):=by
 unfold apO;have e1:decide (l.length+r.length<=maxLen)=true:=wfb (by simp only[maxLen];omega);have e2:decide ((l.length+r.length)*b<=140737488355328)=true:=wfb (by
  have:=Nat.mul_le_mul h1 h2;omega)
 rw[e1,e2];rfl
def arK(k:Int):Option Nat:=if k=3\/k=4 then some 2 else if k=5\/k=6\/k=7 then some 1 else if k=1\/k=2 then some 0 else none
theorem w01:T.w64 1=1:=wI (by omega) (by omega)
theorem w11:T.w64 2=2:=wI (by omega) (by omega)
theorem jea(nn:Nat)(x:ji):zkm nn x=some (match arK x.1 with|some n=>((n:Int),true,())|none=>(0,false,())):=by
 unfold zkm arK;by_cases h3:x.1=3
 ·simp[T.J,jb,ifB,h3,w01,w11]
 by_cases h4:x.1=4
 ·simp[T.J,jb,ifB,h4,w01,w11]
 by_cases h5:x.1=5
 ·simp[T.J,jb,ifB,h5,w01]
 by_cases h6:x.1=6
 ·simp[T.J,jb,ifB,h6,w01]
 by_cases h7:x.1=7
 ·simp[T.J,jb,ifB,h7,w01]
 by_cases h1:x.1=1
 ·simp[T.J,jb,ifB,h1]
 by_cases h2:x.1=2
 ·simp[T.J,jb,ifB,h2]
 ·simp[T.J,jb,ifB,h1,h2,h3,h4,h5,h6,h7]
theorem z0n(x:ji):Tn (λnn=>zkm nn x) (λr=>r=(match arK x.1 with|some n=>((n:Int),true,())|none=>(0,false,()))):=⟨_,⟨0,λnn _=>jea nn x⟩,rfl⟩
def zdh:List ji->Nat->Option Nat
 |[],d=>some d
 |x::l,d=>match arK x.1 with
  |none=>none
  |some n=>if n<=d then zdh l (d-n+1)else none
theorem zc3:∀(l m:List ji)(d:Nat),zdh (l++m) d=(zdh l d).bind (zdh m)
 |[],m,d=>rfl
 |x::l,m,d=>by
  simp only[wha,zdh];cases arK x.1 with
  |none=>rfl
  |some n=>
   simp only;split
   ·exact zc3 l m _
   ·rfl
theorem z79(l:List ji)(hl:l.length<=1000000):Tn (λnn=>zbn nn l) (λr=>(r.2.2.1=0->∃d:Nat,zdh l 0=some d/\r.1=d/\l.length<=512)):=by
 unfold zbn;refine wab (λc=>Tt.pure (λh=>by cases h)) (λc=>?_);have c:=wd4 c;have hl5:l.length<=512:=by omega
 refine Tt.loop (λm s=>∃(k d:Nat)(x:Int),k<=l.length/\m=l.length-k/\zdh (l.take k) 0=some d/\d<=k/\s=((d:Int),x,l,(l.length:Int),(k:Int))) l.length waa ⟨0,0,0,by omega,by omega,rfl,by omega,rfl⟩ λm s⟨k,d,mx,hk,hm,hd,hdk,hs⟩ nx hnx=>?_;subst hs;dsimp only;refine wab (λc=>?_) (λc=>Tt.pure (λ_=>?_))
 ·have c:=wd3 c;have hlt:k<l.length:=by omega
  refine wac _ (atN hlt) (Tt.bind (Tt.call (z0n _) waa.fst) λr4 hr4=>?_);subst hr4;have htk:zdh (l.take (k+1)) 0=match arK (l[k]).1 with|none=>none|some n=>if n<=d then some (d-n+1)else none:=by
   rw[wel hlt,zc3,hd];simp only[wfp,zdh]
  cases har:arK (l[k]).1 with
  |none=>
   dsimp only;refine Tt.J (λs=>s.2.2.2.2.2.2=true) (λny hny=>?_) (λs hs=>?_)
   ·exact wad (waq rfl (hny _ rfl))
   ·exact waq hs (Tt.pure (λh=>by cases h))
  |some n=>
   rw[har]at htk;dsimp only at htk⊢;refine Tt.J (λs=>∃b,s=((d:Int),mx,(n:Int),l,(l.length:Int),(k:Int),b)) (λny hny=>?_) (λs⟨b,hs⟩=>?_)
   ·refine wad (wap rfl ?_);refine Tt.J (λs=>∃b,s=((d:Int),mx,(n:Int),l,(l.length:Int),(k:Int),b)) (λnz hnz=>?_) (λs⟨b,hs⟩=>?_)
    ·exact wad (wab (λ_=>hnz _ ⟨_,rfl⟩) (λ_=>hnz _ ⟨_,rfl⟩))
    ·subst hs;exact hny _ ⟨_,rfl⟩
   ·subst hs;dsimp only;refine wab (λ_=>Tt.pure (λh=>by cases h)) (λ_=>wab (λ_=>Tt.pure (λh=>by cases h)) (λc2=>?_));have c2:=wd4 c2;have hnd:n<=d:=by omega
    have hn2:n<=2:=by
     unfold arK at har;split at har
     ·cases har;omega
     ·split at har
      ·cases har;omega
      ·split at har<;>cases har;omega
    rw[if_pos hnd]at htk;refine wad (wad (wad ?_));rw[wI (z:=1-(n:Int)) (by omega) (by omega),wI (by omega) (by omega),wI (by omega) (by omega)];exact hnx (l.length-(k+1)) _ (by omega) ⟨k+1,d-n+1,_,by omega,rfl,htk,by omega,by
     have e:(d:Int)+(1-(n:Int))=((d-n+1:Nat):Int):=by omega
     rw[e];rfl⟩
 ·have c:=wd4 c;have hke:k=l.length:=by omega
  rw[hke,we1]at hd;exact⟨d,hd,rfl,hl5⟩
def RxW(l:List ji):Prop:=zdh l 0=some 1/\l.length<=512
theorem zvj(l:List ji)(hl:l.length<=1000000):Tn (λnn=>Qw nn l) (λe=>e=0->RxW l):=by
 unfold Qw;refine Tt.bind (Tt.call (z79 l hl) waa) λr hr=>?_;obtain⟨d,mx,e,u⟩:=r;simp only at hr;dsimp only;refine Tt.J (λs=>s.1=e/\(e=0->s.2=false->RxW l)) (λnx hnx=>?_) (λs⟨h1,h2⟩=>?_)
 ·refine wad (wab (λc=>hnx _ ⟨rfl,λh0 hf=>?_⟩) (λc=>hnx _ ⟨rfl,λh0 _=>?_⟩))
  ·obtain⟨dd,k1,k2,k3⟩:=hr h0;have hf:=wd4 hf;have:d=1:=wgc.1 hf;have:dd=1:=by omega
   subst this;exact⟨k1,k3⟩
  ·exact absurd h0 (wd4 c)
 ·refine wab (λ_=>Tt.pure (λh=>by cases h)) (λc=>Tt.pure (λh=>?_));exact h2 (h1▸h) c
structure GOk(g:ja):Prop where
 t:g.1.length<=64
 r:g.2.1.length<=64
 p:g.2.2.1.length<=256
 rx:∀x∈g.1,RxW x.2.1
 left:∀p∈g.2.2.1,0<=p.1/\p.1<g.2.1.length
 len:∀p∈g.2.2.1,p.2.1.length<=16
 items:∀p∈g.2.2.1,∀x∈p.2.1,zai g x
 start:0<=g.2.2.2.1/\g.2.2.2.1<g.2.1.length
structure Qv(g:ja):Prop extends GLen g where
 tn:∀x∈g.1,x.2.1.length<=1000000
theorem sliT{α:Type}{l:List α}{k:Nat}(h:k<=l.length):zhi l none (some (k:Int))=some (l.take k):=by
 unfold zhi bdN;simp[h]
abbrev c0(g:ja):jv:=(g,(0,0,0,()),())
structure PrOk(g:ja)(p:jf):Prop where
 l0:0<=p.1
 l1:p.1<g.2.1.length
 n:p.2.1.length<=16
 it:∀x∈p.2.1,zai g x
def zgb(c:Int):Prop:=(97<=c/\c<=122)\/(65<=c/\c<=90)\/c=95
def zju(c:Int):Prop:=48<=c/\c<=57
theorem partE(c:Int):Tn (λnn=>zda nn c) (λr=>r=2/\zgb c\/r=1/\¬zgb c/\zju c\/r=0/\¬zgb c/\¬zju c):=by
 unfold zda;refine Tt.J (λs=>s.1=c/\(s.2=true↔zgb c)) (λnx hnx=>?_) (λs⟨h1,h2⟩=>?_)
 ·refine Tt.J (λs=>s.1=c/\(s.2=true↔97<=c/\c<=122)) (λny hny=>?_) (λs⟨h1,h2⟩=>?_)
  ·refine wad (wab (λc1=>hny _ ⟨rfl,?_⟩) λc1=>hny _ ⟨rfl,?_⟩)
   ·have c1:=wd3 c1;simp;omega
   ·have c1:=wd4 c1;simp;omega
  ·obtain⟨x,b⟩:=s;simp only at h1 h2;subst h1;refine wab (λc1=>hnx _ ⟨rfl,?_⟩) λc1=>?_
   ·have:=h2.1 c1;exact⟨λ_=> .inl this,λ_=>c1⟩
   ·have hn:¬(97<=x/\x<=122):=λh=>by rw[h2.2 h]at c1;cases c1
    refine Tt.J (λs=>s.1=x/\(s.2=true↔65<=x/\x<=90)) (λnz hnz=>?_) (λs⟨h3,h4⟩=>?_)
    ·refine wad (wab (λc1=>hnz _ ⟨rfl,?_⟩) λc1=>hnz _ ⟨rfl,?_⟩)
     ·have c1:=wd3 c1;simp;omega
     ·have c1:=wd4 c1;simp;omega
    ·obtain⟨y,b2⟩:=s;simp only at h3 h4;subst h3;refine wab (λc1=>hnx _ ⟨rfl,?_⟩) λc1=>wad (hnx _ ⟨rfl,?_⟩)
     ·have:=h4.1 c1;exact⟨λ_=> .inr (.inl this),λ_=>c1⟩
     ·have hn2:¬(65<=y/\y<=90):=λh=>by rw[h4.2 h]at c1;cases c1
      simp only[wed];unfold zgb;omega
 ·obtain⟨x,b⟩:=s;simp only at h1 h2;subst h1;refine wab (λc1=>Tt.pure (.inl ⟨rfl,h2.1 c1⟩)) λc1=>?_;have hn:¬zgb x:=λh=>by rw[h2.2 h]at c1;cases c1
  refine Tt.J (λb=>b=true↔zju x) (λnx hnx=>?_) (λs hs=>?_)
  ·refine wad (wab (λc1=>hnx _ ?_) λc1=>hnx _ ?_)
   ·have c1:=wd3 c1;simp[zju];omega
   ·have c1:=wd4 c1;simp[zju];omega
  ·exact wab (λc1=>Tt.pure (.inr (.inl ⟨rfl,hn,hs.1 c1⟩))) λc1=>Tt.pure (.inr (.inr ⟨rfl,hn,λh=>by rw[hs.2 h]at c1;cases c1⟩))
def chP(k:Nat)(b:UInt8):Prop:=zgb (b.toNat:Int)\/zju (b.toNat:Int)/\k≠0
def Vy(l:List UInt8):Prop:=1<=l.length/\l.length<=32/\∀(k:Nat)(b:UInt8),l[k]?=some b->chP k b
theorem z31{l:List UInt8}{k:Nat}(hk:k<l.length)(h:(l[k]).toNat<128):Utf8.decode ⟨⟨l⟩⟩ k=((l[k]).toNat,1):=by
 have e:(ByteArray.mk ⟨l⟩).get! (k+0)=l[k]:=by
  show(Array.mk l)[k+0]! = _;simp[hk]
 unfold Utf8.decode;simp only[e];rw[if_pos (by omega)]
theorem z60{l:List UInt8}{k:Nat}(hk:k<l.length)(h:¬(l[k]).toNat<128):128<=(Utf8.decode ⟨⟨l⟩⟩ k).1:=by
 have e:(ByteArray.mk ⟨l⟩).get! (k+0)=l[k]:=by
  show(Array.mk l)[k+0]! = _;simp[hk]
 unfold Utf8.decode;simp only[e];rw[if_neg (by omega)]
 repeat' split
 all_goals first|(simp only[Utf8.runeError];omega)|(simp only;omega)|(rename_i h1 h2;simp only[wd8,wed,ge_iff_le]at h2;simp only;omega)
theorem jfs(l:List UInt8):Tn (λnn=>zab nn l) (λr=>r=true↔Vy l):=by
 unfold zab;refine Tt.loop (λm s=>∃p:Nat,s=(l,(l,(p:Int),()))/\m=l.length-p/\p<=l.length/\∀(k:Nat)(b:UInt8),k<p->l[k]?=some b->chP k b) l.length waa ⟨0,rfl,by omega,by omega,λk b h=>by omega⟩ λm s⟨p,hs,hm,hp,hi⟩ nx hnx=>?_;subst hs;dsimp only;refine wab (λc=>?_) (λc=>?_)
 ·have c:=zss.1 c;have hlt:p<l.length:=by simpa using c
  have hno:¬chP p l[p]->¬Vy l:=λh hN=>h (hN.2.2 p _ (wd2 hlt));refine Tt.bind (Tt.call (partE _) waa.fst) λr hr=>?_;have er:zxd l (p:Int)=((Utf8.decode ⟨⟨l⟩⟩ p).1:Int):=by unfold zxd;simp
  have en:zf5 l (p:Int)=((p+(Utf8.decode ⟨⟨l⟩⟩ p).2:Nat):Int):=by unfold zf5;simp
  have ep:z42 (p:Int)=(p:Int):=by unfold z42;simp
  rw[er]at hr;rw[en,ep];by_cases h128:(l[p]).toNat<128
  ·rw[z31 hlt h128]at hr⊢;simp only at hr⊢;refine Tt.J (λs=>∃f,s=(l,f,(l,((p+1:Nat):Int),()))/\(f=true↔¬chP p l[p])) (λny hny=>?_) (λs⟨f,hs,hf⟩=>?_)
   ·unfold chP at *;refine wad (wab (λc1=>hny _ ⟨_,rfl,?_⟩) λc1=>wad (wab (λc2=>hny _ ⟨_,rfl,?_⟩) λc2=>hny _ ⟨_,rfl,?_⟩))
    ·have c1:=wd3 c1;rcases hr with⟨h,_⟩|⟨h,_⟩|⟨h,h1,h2⟩
     ·omega
     ·omega
     ·simp[h1,h2]
    ·have c2:=wd3 c2;rcases hr with⟨h,_⟩|⟨h,h1,h2⟩|⟨h,_⟩
     ·omega
     ·simp[h1,h2]
     ·omega
    ·have c1:=wd4 c1;have c2:=wd4 c2;rcases hr with⟨h,h1⟩|⟨h,_⟩|⟨h,_⟩
     ·simp[h1]
     ·omega
     ·omega
   ·subst hs;dsimp only;refine wab (λc1=>Tt.pure ?_) λc1=>?_
    ·have:=hno (hf.1 c1);simp[this]
    ·refine hnx (l.length-(p+1)) _ (by omega) ⟨p+1,rfl,rfl,by omega,λk b hk hb=>?_⟩;by_cases e:k=p
     ·subst e;rw[wd2 hlt]at hb;cases hb;exact wf3 λh=>by rw[hf.2 h]at c1;cases c1
     ·exact hi k b (by omega) hb
  ·have hh:=z60 hlt h128;have h0:r=0:=by
    rcases hr with⟨h,h1⟩|⟨h,_,h1⟩|⟨h,_⟩
    ·unfold zgb at h1;omega
    ·unfold zju at h1;omega
    ·exact h
   subst h0;refine Tt.J (λs=>s.2.1=true) (λny hny=>wad (waq rfl (hny _ rfl))) (λs hs=>waq hs (Tt.pure ?_));have:=hno (by unfold chP zgb zju;omega);simp[this]
 ·have hpe:p=l.length:=by
   have:¬p<l.length:=λh=>by rw[zss.2 (by simpa using h)]at c;cases c
   omega
  subst hpe;refine Tt.J (λb=>b=true↔Vy l) (λny hny=>?_) (λs hs=>Tt.pure hs);have hall:∀(k:Nat)(b:UInt8),l[k]?=some b->chP k b:=λk b h=>hi k b (wd5.1 h).1 h;refine wad (wab (λc1=>hny _ ?_) λc1=>hny _ ?_)
  ·have hne:l≠[]:=by simpa using c1
   have:1<=l.length:=List.length_pos_iff.2 hne;unfold Vy;simp only[wed];constructor
   ·intro h;exact⟨this,by omega,hall⟩
   ·intro h;have:=h.2.1;omega
  ·have hne:l=[]:=by simpa using c1
   subst hne;unfold Vy;simp
theorem jb1(l:List UInt8)(hl:l.length<=9223372036854775807):Tn (λnn=>za9 nn l) (λr=>r=true↔Vy l):=by
 unfold za9;refine Tt.loop (λm s=>∃p:Nat,s=(l,(p:Int))/\m=l.length-p/\p<=l.length/\∀(k:Nat)(b:UInt8),k<p->l[k]?=some b->chP k b) l.length waa ⟨0,rfl,by omega,by omega,λk b h=>by omega⟩ λm s⟨p,hs,hm,hp,hi⟩ nx hnx=>?_;subst hs;dsimp only;refine wab (λc=>?_) (λc=>?_)
 ·have c:=wd3 c;have hlt:p<l.length:=by omega
  have hno:¬chP p l[p]->¬Vy l:=λh hN=>h (hN.2.2 p _ (wd2 hlt));have hby:zlz l (p:Int)=some ((l[p]).toNat:Int):=by unfold zlz;simp[hlt]
  refine wac _ hby ?_;generalize hc:((l[p]).toNat:Int)=ch;refine Tt.J (λs=>∃f,s=(l,(p:Int),ch,f)/\(f=true↔zgb ch)) (λny hny=>?_) (λs⟨f,hs,hf⟩=>?_)
  ·have fin:Tt wcy.mul (λi=>jb (some (decide (65<=ch))) λx16=>ifB x16 (ifB (decide (ch<=90)) (ny i (l,(p:Int),ch,true)) (ny i (l,(p:Int),ch,decide (ch=95)))) (ny i (l,(p:Int),ch,decide (ch=95)))) (λr=>r=true↔Vy l)\/(97<=ch/\ch<=122):=by
    by_cases h:97<=ch/\ch<=122
    ·exact .inr h
    ·refine .inl (wad (wab (λc1=>wab (λc2=>hny _ ⟨_,rfl,?_⟩) λc2=>hny _ ⟨_,rfl,?_⟩) λc1=>hny _ ⟨_,rfl,?_⟩))
     ·have c1:=wd3 c1;have c2:=wd3 c2;simp only[true_iff];exact .inr (.inl ⟨c1,c2⟩)
     ·have c2:=wd4 c2;unfold zgb;simp only[wed];omega
     ·have c1:=wd4 c1;unfold zgb;simp only[wed];omega
   refine wad (wab (λc1=>wab (λc2=>hny _ ⟨_,rfl,?_⟩) λc2=>?_) λc1=>?_)
   ·have c1:=wd3 c1;have c2:=wd3 c2;simp only[true_iff];exact .inl ⟨c1,c2⟩
   ·have c2:=wd4 c2;rcases fin with h|h
    ·exact h
    ·omega
   ·have c1:=wd4 c1;rcases fin with h|h
    ·exact h
    ·omega
  ·subst hs;dsimp only;refine Tt.J (λs=>∃d,s=(l,(p:Int),f,d)/\(d=true↔zju ch)) (λny hny=>?_) (λs⟨d,hs,hd⟩=>?_)
   ·refine wad (wab (λc1=>hny _ ⟨_,rfl,?_⟩) λc1=>hny _ ⟨_,rfl,?_⟩)
    ·have c1:=wd3 c1;simp[zju];omega
    ·have c1:=wd4 c1;simp[zju];omega
   ·subst hs;dsimp only;refine Tt.J (λs=>∃w,s=(l,(p:Int),w)/\(w=true↔¬chP p l[p])) (λny hny=>?_) (λs⟨w,hs,hw⟩=>?_)
    ·unfold chP at *;rw[hc]at *;have hex:zgb ch->¬zju ch:=by unfold zgb zju;omega
     refine wad (wab (λc1=>wab (λc2=>hny _ ⟨_,rfl,?_⟩) λc2=>wad (wab (λc3=>hny _ ⟨_,rfl,?_⟩) λc3=>hny _ ⟨_,rfl,?_⟩)) λc1=>wad (wab (λc3=>hny _ ⟨_,rfl,?_⟩) λc3=>hny _ ⟨_,rfl,?_⟩))
     ·have h1:¬zgb ch:=λh=>by rw[hf.2 h]at c1;cases c1
      have h2:¬zju ch:=λh=>by rw[hd.2 h]at c2;cases c2
      simp[h1,h2]
     ·have h1:¬zgb ch:=λh=>by rw[hf.2 h]at c1;cases c1
      have h2:d=true:=by simpa using c2
      have c3:=wd3 c3;have:p=0:=by omega
      simp[h1,h2,this]
     ·have h1:¬zgb ch:=λh=>by rw[hf.2 h]at c1;cases c1
      have h2:d=true:=by simpa using c2
      have c3:=wd4 c3;have:p≠0:=by omega
      simp[hd.1 h2,this]
     ·have h1:f=true:=by simpa using c1
      have h2:=hex (hf.1 h1);have:d=false:=by cases d;rfl;exact absurd (hd.1 rfl) h2
      simp[this,hf.1 h1]
     ·have h1:f=true:=by simpa using c1
      simp[hf.1 h1]
    ·subst hs;dsimp only;refine wab (λc1=>Tt.pure ?_) λc1=>wad ?_
     ·have:=hno (hw.1 c1);simp[this]
     ·rw[wI (by omega) (by omega)];refine hnx (l.length-(p+1)) _ (by omega) ⟨p+1,rfl,rfl,by omega,λk b hk hb=>?_⟩;by_cases e:k=p
      ·subst e;rw[wd2 hlt]at hb;cases hb;exact wf3 λh=>by rw[hw.2 h]at c1;cases c1
      ·exact hi k b (by omega) hb
 ·have c:=wd4 c;have hpe:p=l.length:=by omega
  subst hpe;refine Tt.J (λb=>b=true↔Vy l) (λny hny=>?_) (λs hs=>Tt.pure hs);have hall:∀(k:Nat)(b:UInt8),l[k]?=some b->chP k b:=λk b h=>hi k b (wd5.1 h).1 h;refine wad (wab (λc1=>hny _ ?_) λc1=>hny _ ?_)
  ·have c1:=wd3 c1;unfold Vy;simp only[wed];constructor
   ·intro h;exact⟨by omega,by omega,hall⟩
   ·intro h;have:=h.2.1;omega
  ·have c1:=wd4 c1;constructor
   ·intro h;cases h
   ·intro h;have:=h.1;omega
def fIx(l:List (List UInt8))(x:List UInt8):Int:=if x∈l then(l.idxOf x:Int)else -1
theorem z89{l:List (List UInt8)}{k:Nat}(hk:k<l.length)(h:l[k]∉l.take k):fIx l l[k]=k:=by
 unfold fIx;rw[if_pos (wec hk)];have e:l=l.take k++l[k]::l.drop (k+1):=by
  rw[List.getElem_cons_drop,wfh]
 have:(l.take k++l[k]::l.drop (k+1)).idxOf l[k]=k:=by
  rw[List.idxOf_append,if_neg h,List.idxOf_cons_self,wfg];omega
 rw[<- e]at this;rw[this]
theorem zyy{l:List (List UInt8)}{x:List UInt8}(h:x∉l):fIx l x=-1:=by unfold fIx;rw[if_neg h]
theorem zuw{α:Type}{l:List α}{k:Nat}{x:α}(hk:k<l.length)(h:x∉l.take k)(h2:l[k]≠x):x∉l.take (k+1):=λhm=>by
 rw[wel hk]at hm;rcases wej.1 hm with e|e
 ·exact h e
 ·exact h2 (wea.1 e).symm
theorem IndexE(l:List (List UInt8))(x:List UInt8)(hl:l.length<=2000000):Tn (λnn=>vm nn l x) (λr=>r=fIx l x):=by
 unfold vm;refine Tt.loop (λm s=>∃k:Nat,k<=l.length/\m=l.length-k/\s=(l,x,(l.length:Int),(k:Int))/\x∉l.take k) l.length waa ⟨0,by omega,by omega,rfl,by simp⟩ λm s⟨k,hk,hm,hs,hi⟩ nx hnx=>?_;subst hs;dsimp only;refine wab (λc=>?_) (λc=>Tt.pure ?_)
 ·have c:=wd3 c;have hlt:k<l.length:=by omega
  refine wac _ (atN hlt) (wab (λc2=>Tt.pure ?_) (λc2=>wad ?_))
  ·have e:x=l[k]:=by simpa using c2
   subst e;exact(z89 hlt hi).symm
  ·have e:¬x=l[k]:=by simpa using c2
   rw[wI (by omega) (by omega)];exact hnx (l.length-(k+1)) _ (by omega) ⟨k+1,by omega,rfl,rfl,zuw hlt hi λh=>e h.symm⟩
 ·have c:=wd4 c;have hke:k=l.length:=by omega
  rw[hke,we1]at hi;exact(zyy hi).symm
theorem jfq(l:List (List UInt8))(x:List UInt8)(hl:l.length<=2000000):Tn (λnn=>zas nn l x) (λr=>r=fIx l x):=by
 unfold zas;exact Tt.bind (Tt.call (IndexE l x hl) waa) λ_ h=>Tt.pure h
theorem z8h(l:List (List UInt8))(x:List UInt8)(hl:l.length<=2000000):Tn (λnn=>zbc nn l x) (λr=>r=fIx l x):=by
 unfold zbc;refine Tt.loop (λm s=>∃k:Nat,k<=l.length/\m=l.length-k/\s=(l,x,(k:Int))/\x∉l.take k) l.length waa ⟨0,by omega,by omega,rfl,by simp⟩ λm s⟨k,hk,hm,hs,hi⟩ nx hnx=>?_;subst hs;dsimp only;refine wab (λc=>?_) (λc=>Tt.pure ?_)
 ·have c:=wd3 c;have hlt:k<l.length:=by omega
  refine wac _ (atN hlt) (wab (λc2=>Tt.pure ?_) (λc2=>wad ?_))
  ·have e:l[k]=x:=by simpa using c2
   subst e;exact(z89 hlt hi).symm
  ·have e:¬l[k]=x:=by simpa using c2
   rw[wI (by omega) (by omega)];exact hnx (l.length-(k+1)) _ (by omega) ⟨k+1,by omega,rfl,rfl,zuw hlt hi e⟩
 ·have c:=wd4 c;have hke:k=l.length:=by omega
  rw[hke,we1]at hi;exact(zyy hi).symm
theorem jbm(l:List qg)(hl:l.length<=1000000):Tn (λnn=>Vg nn l) (λr=>r=l.map (·.1)):=by
 unfold Vg;refine Tt.loop (λm s=>∃(k:Nat),k<=l.length/\m=l.length-k/\s=(l,(l.length:Int),(k:Int),(l.take k).map (·.1))) l.length waa ⟨0,by omega,by omega,rfl⟩ λm s⟨k,hk,hm,hs⟩ nx hnx=>?_;subst hs;dsimp only;refine wab (λc=>?_) (λc=>Tt.pure ?_)
 ·have c:=wd3 c;have hlt:k<l.length:=by omega
  refine wac _ (atN hlt) (wac _ (Jw (by simp;omega) (by omega)) (wad ?_));rw[wI (by omega) (by omega)];exact hnx (l.length-(k+1)) _ (by omega) ⟨k+1,by omega,rfl,by rw[wel hlt,wfl];rfl⟩
 ·have c:=wd4 c;rw[show k=l.length by omega,we1]
def Zj(g:ja):List (List UInt8):=g.1.map (·.1)++g.2.1
theorem zu9(g:ja)(hg:GLen g):Tn (λnn=>Qe nn g) (λr=>r=Zj g):=by
 have ht:=hg.t;have hr:=hg.r;unfold Qe;refine Tt.loop (λm s=>∃(k:Nat),k<=g.1.length/\m=g.1.length-k/\s=((k:Int),g,(g.1.take k).map (·.1))) g.1.length waa ⟨0,by omega,by omega,rfl⟩ λm s⟨k,hk,hm,hs⟩ nx hnx=>?_;subst hs;dsimp only;refine wab (λc=>?_) (λc=>?_)
 ·have c:=wd3 c;have hlt:k<g.1.length:=by omega
  refine wac _ (atN hlt) (wac _ (Jw (by simp;omega) (by omega)) (wad ?_));rw[wI (by omega) (by omega)];exact hnx (g.1.length-(k+1)) _ (by omega) ⟨k+1,by omega,rfl,by rw[wel hlt,wfl];rfl⟩
 ·have c:=wd4 c;rw[show k=g.1.length by omega,we1];refine Tt.loop (λm s=>∃(k:Nat),k<=g.2.1.length/\m=g.2.1.length-k/\s=((k:Int),g,g.1.map (·.1)++g.2.1.take k)) g.2.1.length waa.fst ⟨0,by omega,by omega,by simp⟩ λm s⟨k,hk,hm,hs⟩ nx hnx=>?_;subst hs;dsimp only;refine wab (λc=>?_) (λc=>Tt.pure ?_)
  ·have c:=wd3 c;have hlt:k<g.2.1.length:=by omega
   refine wac _ (atN hlt) (wac _ (Jw (by simp;omega) (by omega)) (wad ?_));rw[wI (by omega) (by omega)];exact hnx (g.2.1.length-(k+1)) _ (by omega) ⟨k+1,by omega,rfl,by rw[wel hlt,weu];rfl⟩
  ·have c:=wd4 c;rw[show k=g.2.1.length by omega,we1];rfl
def ofS(r:Int)(ps:List jf):List Int:=(ps.zipIdx.filter λx=>decide (x.1.1=r)).map λx=>(x.2:Int)
theorem zko{r:Int}{ps:List jf}{k:Nat}(h:k<ps.length):ofS r (ps.take (k+1))=ofS r (ps.take k)++(if(ps[k]).1=r then [(k:Int)]else []):=by
 unfold ofS;rw[wel h,List.zipIdx_append,List.filter_append,wfl];congr 1;rw[wfg,Nat.min_eq_left (by omega)];by_cases e:(ps[k]).1=r<;>simp[e]
theorem z45{r:Int}{ps:List jf}:(ofS r ps).length<=ps.length:=by
 unfold ofS;rw[wey];exact wfn (wgs _ _) (by simp)
theorem OfE(g:ja)(hg:GLen g)(r:Int):Tn (λnn=>zd0 nn g r) (λl=>l=ofS r g.2.2.1):=by
 have hp:=hg.p;unfold zd0;refine Tt.loop (λm s=>∃(k:Nat),k<=g.2.2.1.length/\m=g.2.2.1.length-k/\s=(r,g.2.2.1,(g.2.2.1.length:Int),(k:Int),ofS r (g.2.2.1.take k))) g.2.2.1.length waa ⟨0,by omega,by omega,rfl⟩ λm s⟨k,hk,hm,hs⟩ nx hnx=>?_;subst hs;dsimp only;refine wab (λc=>?_) (λc=>Tt.pure ?_)
 ·have c:=wd3 c;have hlt:k<g.2.2.1.length:=by omega
  have hol:(ofS r (g.2.2.1.take k)).length<=k:=wfn z45 (by simp;omega);refine Tt.J (λs=>s=(r,g.2.2.1,(g.2.2.1.length:Int),(k:Int),ofS r (g.2.2.1.take (k+1)))) (λny hny=>?_) (λs hs=>?_)
  ·refine wac _ (atN hlt) (wab (λc2=>?_) λc2=>hny _ ?_)
   ·have c2:=wd3 c2;exact wac _ (Jw (by simp;omega) (by omega)) (hny _ (by rw[zko hlt,if_pos c2]))
   ·have c2:=wd4 c2;rw[zko hlt,if_neg c2,weq]
  ·subst hs;refine wad ?_;dsimp only;rw[wI (by omega) (by omega)];exact hnx (g.2.2.1.length-(k+1)) _ (by omega) ⟨k+1,by omega,rfl,rfl⟩
 ·have c:=wd4 c;rw[show k=g.2.2.1.length by omega,we1]
theorem refOfE(g:ja)(hg:GLen g)(r:Int):Tn (λnn=>zb0 nn g r) (λl=>l=ofS r g.2.2.1):=by
 have hp:=hg.p;unfold zb0;refine Tt.loop (λm s=>∃(k:Nat),k<=g.2.2.1.length/\m=g.2.2.1.length-k/\s=(r,(k:Int),g,ofS r (g.2.2.1.take k))) g.2.2.1.length waa ⟨0,by omega,by omega,rfl⟩ λm s⟨k,hk,hm,hs⟩ nx hnx=>?_;subst hs;dsimp only;refine wab (λc=>?_) (λc=>Tt.pure ?_)
 ·have c:=wd3 c;have hlt:k<g.2.2.1.length:=by omega
  have hol:(ofS r (g.2.2.1.take k)).length<=k:=wfn z45 (by simp;omega);refine Tt.J (λs=>s=(r,(k:Int),g,ofS r (g.2.2.1.take (k+1)))) (λny hny=>?_) (λs hs=>?_)
  ·refine wac _ (atN hlt) (wab (λc2=>?_) λc2=>hny _ ?_)
   ·have c2:=wd3 c2;exact wac _ (Jw (by simp;omega) (by omega)) (hny _ (by rw[zko hlt,if_pos c2]))
   ·have c2:=wd4 c2;rw[zko hlt,if_neg c2,weq]
  ·subst hs;refine wad ?_;dsimp only;rw[wI (by omega) (by omega)];exact hnx (g.2.2.1.length-(k+1)) _ (by omega) ⟨k+1,by omega,rfl,rfl⟩
 ·have c:=wd4 c;rw[show k=g.2.2.1.length by omega,we1]
open Classical in
noncomputable def itE(g:ja)(x:je):Int:=
 if ¬zai g x then 11 else if x.1=false/\(g.1.getD x.2.1.toNat default).2.2.1≠0 then 12 else if x.2.2.1<0\/2<x.2.2.1\/x.2.2.2.1<0\/8<x.2.2.2.1 then 2 else 0
theorem itE_ok{g:ja}{x:je}(h:itE g x=0):zai g x:=by
 unfold itE at h;by_cases c:zai g x
 ·exact c
 ·rw[if_pos c]at h;cases h
theorem itemE(g:ja)(d:jc)(x:je):Tn (λnn=>Jg nn (some (g,d,())) x) (λe=>e=itE g x):=by
 unfold Jg;refine wad ?_;refine Tt.J (λs=>s=(some (g,d,()),(if x.1=true then(g.2.1.length:Int)else g.1.length),x)) (λnx hnx=>?_) (λs hs=>?_)
 ·refine wab (λc=>wad (hnx _ ?_)) (λc=>hnx _ ?_)
  ·simp[c]
  ·simp[c]
 ·subst hs;dsimp only;refine Tt.J (λs=>∃b,s=(some (g,d,()),b,x)/\(b=true↔¬zai g x)) (λnx hnx=>?_) (λs⟨b,hs,hb⟩=>?_)
  ·refine wad (wab (λc=>hnx _ ⟨_,rfl,?_⟩) (λc=>hnx _ ⟨_,rfl,?_⟩))
   ·have c:=wd3 c;unfold zai;simp only[true_iff];omega
   ·have c:=wd4 c;unfold zai;simp only[wed];omega
  ·subst hs;dsimp only;refine wab (λc=>Tt.pure ?_) (λc=>?_)
   ·unfold itE;rw[if_pos (hb.1 c)]
   ·have hI:zai g x:=wf3 λh=>by rw[hb.2 h]at c;cases c
    refine Tt.J (λs=>∃b,s=(b,x)/\(b=true↔x.1=false/\(g.1.getD x.2.1.toNat default).2.2.1≠0)) (λnx hnx=>?_) (λs⟨b,hs,hb⟩=>?_)
    ·refine wad (wab (λc2=>wad ?_) (λc2=>hnx _ ⟨_,rfl,?_⟩))
     ·have c2:x.1=false:=by simpa using c2
      obtain⟨k1,k2⟩:=hI;rw[c2]at k2;simp only[we4,if_false]at k2;have hl:x.2.1.toNat<g.1.length:=by omega
      refine wac _ (Yr k1 (wd2 hl)) (hnx _ ⟨_,rfl,?_⟩);simp[c2,hl]
     ·have c2:x.1=true:=by simpa using c2
      simp[c2]
    ·subst hs;dsimp only;refine wab (λc2=>Tt.pure ?_) (λc2=>?_)
     ·unfold itE;rw[if_neg (λh=>h hI),if_pos (hb.1 c2)]
     ·have hno:¬(x.1=false/\(g.1.getD x.2.1.toNat default).2.2.1≠0):=λh=>by rw[hb.2 h]at c2;cases c2
      refine Tt.J (λb=>b=true↔x.2.2.1<0\/2<x.2.2.1\/x.2.2.2.1<0\/8<x.2.2.2.1) (λnx hnx=>?_) (λs hs=>?_)
      ·refine wad (wab (λc3=>hnx _ ?_) λc3=>wab (λc4=>hnx _ ?_) λc4=>wab (λc5=>hnx _ ?_) λc5=>hnx _ ?_)
       ·have c3:=wd3 c3;simp only[true_iff];omega
       ·have c4:=wd3 c4;simp only[true_iff];omega
       ·have c5:=wd3 c5;simp only[true_iff];omega
       ·have c3:=wd4 c3;have c4:=wd4 c4;have c5:=wd4 c5;simp only[wed];omega
      ·unfold itE;rw[if_neg (λh=>h hI),if_neg hno];exact wab (λc3=>Tt.pure (by rw[if_pos (hs.1 c3)])) λc3=>Tt.pure (by rw[if_neg (λh=>by rw[hs.2 h]at c3;cases c3)])
theorem jcd(g:ja)(x:je):Tn (λnn=>za7 nn g x) (λe=>e=itE g x):=by
 unfold za7;refine Tt.J (λs=>s=((if x.1=true then(g.2.1.length:Int)else g.1.length),g,x)) (λnx hnx=>?_) (λs hs=>?_)
 ·refine wab (λc=>hnx _ ?_) (λc=>hnx _ ?_)
  ·simp[c]
  ·simp[c]
 ·subst hs;dsimp only;refine Tt.J (λs=>∃b,s=(b,g,x)/\(b=true↔¬zai g x)) (λnx hnx=>?_) (λs⟨b,hs,hb⟩=>?_)
  ·refine wad (wab (λc=>hnx _ ⟨_,rfl,?_⟩) (λc=>hnx _ ⟨_,rfl,?_⟩))
   ·have c:=wd3 c;unfold zai;simp only[true_iff];omega
   ·have c:=wd4 c;unfold zai;simp only[wed];omega
  ·subst hs;dsimp only;refine wab (λc=>Tt.pure ?_) (λc=>?_)
   ·unfold itE;rw[if_pos (hb.1 c)]
   ·have hI:zai g x:=wf3 λh=>by rw[hb.2 h]at c;cases c
    refine Tt.J (λs=>∃b,s=(b,x)/\(b=true↔x.1=false/\(g.1.getD x.2.1.toNat default).2.2.1≠0)) (λnx hnx=>?_) (λs⟨b,hs,hb⟩=>?_)
    ·refine wad (wab (λc2=>?_) (λc2=>hnx _ ⟨_,rfl,?_⟩))
     ·have c2:x.1=false:=by simpa using c2
      obtain⟨k1,k2⟩:=hI;rw[c2]at k2;simp only[we4,if_false]at k2;have hl:x.2.1.toNat<g.1.length:=by omega
      refine wac _ (Yr k1 (wd2 hl)) (hnx _ ⟨_,rfl,?_⟩);simp[c2,hl]
     ·have c2:x.1=true:=by simpa using c2
      simp[c2]
    ·subst hs;dsimp only;refine wab (λc2=>Tt.pure ?_) (λc2=>?_)
     ·unfold itE;rw[if_neg (λh=>h hI),if_pos (hb.1 c2)]
     ·have hno:¬(x.1=false/\(g.1.getD x.2.1.toNat default).2.2.1≠0):=λh=>by rw[hb.2 h]at c2;cases c2
      refine Tt.J (λb=>b=true↔x.2.2.1<0\/2<x.2.2.1\/x.2.2.2.1<0\/8<x.2.2.2.1) (λnx hnx=>?_) (λs hs=>?_)
      ·refine wad (wab (λc3=>hnx _ ?_) λc3=>wab (λc4=>hnx _ ?_) λc4=>wab (λc5=>hnx _ ?_) λc5=>hnx _ ?_)
       ·have c3:=wd3 c3;simp only[true_iff];omega
       ·have c4:=wd3 c4;simp only[true_iff];omega
       ·have c5:=wd3 c5;simp only[true_iff];omega
       ·have c3:=wd4 c3;have c4:=wd4 c4;have c5:=wd4 c5;simp only[wed];omega
      ·unfold itE;rw[if_neg (λh=>h hI),if_neg hno];exact wab (λc3=>Tt.pure (by rw[if_pos (hs.1 c3)])) λc3=>Tt.pure (by rw[if_neg (λh=>by rw[hs.2 h]at c3;cases c3)])
def za4:List ji->Nat->Int
 |[],d=>if d=1 then 0 else 3
 |x::l,d=>match arK x.1 with
  |none=>1
  |some n=>if x.1≠1/\x.2.1.l≠List.replicate 4 0 then 1 else if d<n then 3 else za4 l (d-n+1)
def zgs(l:List ji):Int:=if 512<l.length then 4 else za4 l 0
theorem jbo{c:Int}{n:Nat}(h:arK c=some n):n<=2:=by
 unfold arK at h;split at h
 ·cases h;omega
 ·split at h
  ·cases h;omega
  ·split at h<;>cases h;omega
theorem walkE(l:List ji)(hl:l.length<=1000000):Tn (λnn=>zbn nn l) (λr=>r.2.2.1≠0/\zgs l=r.2.2.1\/r.2.2.1=0/\zgs l=if r.1=1 then 0 else 3):=by
 unfold zbn zgs;refine wab (λc=>Tt.pure (.inl ⟨by simp,?_⟩)) (λc=>?_)
 ·have c:=wd3 c;rw[if_pos (by omega)]
 have c:=wd4 c;have hl5:¬512<l.length:=by omega
 rw[if_neg hl5];generalize hC:za4 l 0=C;refine Tt.loop (λm s=>∃(k d:Nat)(x:Int),k<=l.length/\m=l.length-k/\d<=k/\s=((d:Int),x,l,(l.length:Int),(k:Int))/\C=za4 (l.drop k) d) l.length waa ⟨0,0,0,by omega,by omega,by omega,rfl,hC.symm⟩ λm s⟨k,d,mx,hk,hm,hdk,hs,he⟩ nx hnx=>?_;subst hs;dsimp only;refine wab (λc=>?_) (λc=>Tt.pure (.inr ⟨rfl,?_⟩))
 ·have c:=wd3 c;have hlt:k<l.length:=by omega
  rw[we7 hlt]at he;refine wac _ (atN hlt) (Tt.bind (Tt.call (z0n _) waa.fst) λr4 hr4=>?_);subst hr4;generalize l[k]=x at he⊢;unfold za4 at he;cases har:arK x.1 with
  |none=>
   rw[har]at he;dsimp only at he⊢;refine Tt.J (λs=>s.2.2.2.2.2.2=true) (λny hny=>?_) (λs hs=>?_)
   ·exact wad (waq rfl (hny _ rfl))
   ·exact waq hs (Tt.pure (.inl ⟨by simp,he⟩))
  |some n=>
   rw[har]at he;dsimp only at he⊢;have hn2:=jbo har;refine Tt.J (λs=>∃b,s=((d:Int),mx,(n:Int),l,(l.length:Int),(k:Int),b)/\(b=true↔x.1≠1/\x.2.1.l≠List.replicate 4 0)) (λny hny=>?_) (λs⟨b,hs,hb⟩=>?_)
   ·refine wad (wap rfl ?_);refine Tt.J (λs=>∃b,s=((d:Int),mx,(n:Int),l,(l.length:Int),(k:Int),b)/\(b=true↔x.1≠1/\x.2.1.l≠List.replicate 4 0)) (λnz hnz=>?_) (λs⟨b,hs,hb⟩=>?_)
    ·refine wad (wab (λc1=>hnz _ ⟨_,rfl,?_⟩) (λc1=>hnz _ ⟨_,rfl,?_⟩))
     ·have c1:=wd3 c1;simp[c1]
     ·have c1:=wd4 c1;simp at c1;simp[c1]
    ·subst hs;exact hny _ ⟨_,rfl,hb⟩
   ·subst hs;dsimp only;refine wab (λc1=>Tt.pure (.inl ⟨by simp,?_⟩)) (λc1=>?_)
    ·rw[if_pos (hb.1 c1)]at he;exact he
    rw[if_neg (λh=>by rw[hb.2 h]at c1;cases c1)]at he;refine wab (λc2=>Tt.pure (.inl ⟨by simp,?_⟩)) (λc2=>?_)
    ·have c2:=wd3 c2;rw[if_pos (by omega)]at he;exact he
    have c2:=wd4 c2;have hnd:n<=d:=by omega
    rw[if_neg (by omega)]at he;refine wad (wad (wad ?_));rw[wI (z:=1-(n:Int)) (by omega) (by omega),wI (by omega) (by omega),wI (by omega) (by omega)];exact hnx (l.length-(k+1)) _ (by omega) ⟨k+1,d-n+1,_,by omega,rfl,by omega,by
     have e:(d:Int)+(1-(n:Int))=((d-n+1:Nat):Int):=by omega
     rw[e];rfl,he⟩
 ·have c:=wd4 c;have hke:k=l.length:=by omega
  rw[he,hke,wf2];unfold za4;by_cases h:d=1
  ·rw[if_pos h,if_pos (by simp[h])]
  ·rw[if_neg h,if_neg (by simp only;omega)]
theorem z98(l:List ji)(hl:l.length<=1000000):Tn (λnn=>Qw nn l) (λe=>e=zgs l):=by
 unfold Qw;refine Tt.bind (Tt.call (walkE l hl) waa) λr hr=>?_;obtain⟨d,mx,e,u⟩:=r;simp only at hr;dsimp only;refine Tt.J (λs=>s.1=e/\(s.2=true↔e=0/\d≠1)) (λnx hnx=>?_) (λs⟨h1,h2⟩=>?_)
 ·refine wad (wab (λc=>hnx _ ⟨rfl,?_⟩) λc=>hnx _ ⟨rfl,?_⟩)
  ·have c:=wd3 c;simp[c]
  ·have c:=wd4 c;simp[c]
 ·obtain⟨e',b⟩:=s;simp only at h1 h2;subst h1;refine wab (λc=>Tt.pure ?_) λc=>Tt.pure ?_
  ·obtain⟨h3,h4⟩:=h2.1 c;rcases hr with h|h
   ·exact absurd h3 h.1
   ·rw[h.2,if_neg h4]
  ·rcases hr with h|h
   ·exact h.2.symm
   ·have:d=1:=wf3 λhd=>by rw[h2.2 ⟨h.1,hd⟩]at c;cases c
    rw[h.2,if_pos this];exact h.1
theorem refOfK(c:Int):Tn (λnn=>V6 nn c) (λr=>r=match arK c with|some n=>(n:Int)|none => -1):=by
 have e:∀nn,V6 nn c=some (match arK c with|some n=>(n:Int)|none => -1):=λnn=>by
  unfold V6 J arK;simp only[jb,ifB];by_cases h1:c=1
  ·subst h1;rfl
  by_cases h2:c=2
  ·subst h2;rfl
  by_cases h3:c=3
  ·subst h3;rfl
  by_cases h4:c=4
  ·subst h4;rfl
  by_cases h5:c=5
  ·subst h5;rfl
  by_cases h6:c=6
  ·subst h6;rfl
  by_cases h7:c=7
  ·subst h7;rfl
  simp[h1,h2,h3,h4,h5,h6,h7]
 exact⟨_,⟨0,λnn _=>e nn⟩,rfl⟩
theorem zvn(l:List ji)(hl:l.length<=1000000):Tn (λnn=>Vq nn l) (λe=>e=zgs l):=by
 unfold Vq zgs;refine wab (λc=>Tt.pure ?_) (λc=>?_)
 ·have c:=wd3 c;rw[if_pos (by omega)]
 have c:=wd4 c;have hl5:¬512<l.length:=by omega
 rw[if_neg hl5];generalize hC:za4 l 0=C;refine Tt.loop (λm s=>∃(k d:Nat),k<=l.length/\m=l.length-k/\d<=k/\s=(l,(d:Int),(k:Int))/\C=za4 (l.drop k) d) l.length waa ⟨0,0,by omega,by omega,by omega,rfl,hC.symm⟩ λm s⟨k,d,hk,hm,hdk,hs,he⟩ nx hnx=>?_;subst hs;dsimp only;refine wab (λc=>?_) (λc=>?_)
 ·have c:=wd3 c;have hlt:k<l.length:=by omega
  have hx:=atN hlt;rw[we7 hlt]at he;refine wac _ hx (Tt.bind (Tt.call (refOfK _) waa.fst) λr4 hr4=>?_);subst hr4;generalize l[k]=x at he hx⊢;unfold za4 at he;refine Tt.J (λs=>∃b,s=(l,(d:Int),(k:Int),(match arK x.1 with|some n=>(n:Int)|none => -1),b)/\(b=true↔arK x.1=none\/x.1≠1/\x.2.1.l≠List.replicate 4 0)) (λny hny=>?_) (λs⟨b,hs,hb⟩=>?_)
  ·refine wad (wab (λc1=>hny _ ⟨_,rfl,?_⟩) λc1=>wac _ hx (wad (wab (λc2=>wac _ hx (hny _ ⟨_,rfl,?_⟩)) λc2=>hny _ ⟨_,rfl,?_⟩)))
   ·have c1:=wd3 c1;cases h:arK x.1 with
    |none=>simp
    |some n=>rw[h]at c1;simp only at c1;omega
   ·have c1:=wd4 c1;have c2:=wd3 c2;cases h:arK x.1 with
    |none=>rw[h]at c1;simp at c1
    |some n=>simp[c2]
   ·have c1:=wd4 c1;have c2:=wd4 c2;simp at c2;cases h:arK x.1 with
    |none=>rw[h]at c1;simp at c1
    |some n=>simp[c2]
  ·subst hs;dsimp only;cases har:arK x.1 with
   |none=>
    rw[har]at he hb;have:b=true:=hb.2 (.inl rfl);exact waq this (Tt.pure he.symm)
   |some n=>
    rw[har]at he hb;dsimp only at he⊢;have hn2:=jbo har;refine wab (λc1=>Tt.pure ?_) (λc1=>?_)
    ·have:=hb.1 c1;simp only[reduceCtorEq,false_or]at this;rw[if_pos this]at he;exact he.symm
    rw[if_neg (λh=>by rw[hb.2 (.inr h)]at c1;cases c1)]at he;refine wab (λc2=>Tt.pure ?_) (λc2=>?_)
    ·have c2:=wd3 c2;rw[if_pos (by omega)]at he;exact he.symm
    have c2:=wd4 c2;rw[if_neg (by omega)]at he;refine wad (wad ?_);rw[wI (z:=(d:Int)-(n:Int)) (by omega) (by omega),wI (by omega) (by omega),wI (by omega) (by omega)];exact hnx (l.length-(k+1)) _ (by omega) ⟨k+1,d-n+1,by omega,rfl,by omega,by
     have e:(d:Int)-(n:Int)+1=((d-n+1:Nat):Int):=by omega
     rw[e];rfl,he⟩
 ·have c:=wd4 c;have hke:k=l.length:=by omega
  rw[hke,wf2]at he;unfold za4 at he;rw[he];refine wab (λc1=>Tt.pure ?_) λc1=>Tt.pure ?_
  ·have c1:=wd3 c1;rw[if_neg (by omega)]
  ·have c1:=wd4 c1;rw[if_pos (by omega)]
theorem zvf:∀(l:List ji)(d:Nat),za4 l d=0->zdh l d=some 1
 |[],d,h=>by
  unfold za4 at h;by_cases e:d=1
  ·subst e;rfl
  ·rw[if_neg e]at h;cases h
 |x::l,d,h=>by
  unfold za4 at h;unfold zdh;cases har:arK x.1 with
  |none=>rw[har]at h;cases h
  |some n=>
   rw[har]at h;dsimp only at h⊢;split at h
   ·cases h
   ·split at h
    ·cases h
    ·rename_i h1 h2;rw[if_pos (by omega)];exact zvf l _ h
theorem zf7{l:List ji}(h:zgs l=0):RxW l:=by
 unfold zgs at h;split at h
 ·cases h
 ·exact⟨zvf l 0 h,by omega⟩
abbrev zd:jc:=(0,0,0,())
def jn:List jc->jc
 |[]=>zd
 |d::l=>if d.1=0 then jn l else d
theorem q5:∀{a b:List jc},jn (a++b)=if(jn a).1=0 then jn b else jn a
 |[],b=>by simp[jn]
 |d::a,b=>by
  by_cases h:d.1=0
  ·simp only[wha,jn,h,↓reduceIte];exact q5
  ·simp only[wha,jn,h,↓reduceIte]
theorem znb:∀{l:List jc},(∀d∈l,d.1=0)->jn l=zd
 |[],_=>rfl
 |d::l,h=>by
  unfold jn;rw[if_pos (h d (by simp))];exact znb λe he=>h e (by simp[he])
theorem zt7:∀{l:List jc}{k:Nat}{d:jc},l[k]?=some d->d.1≠0->(∀(j:Nat)(e:jc),j<k->l[j]?=some e->e.1=0)->jn l=d
 |[],k,d,h,_,_=>by simp at h
 |x::l,0,d,h,h2,_=>by
  simp at h;subst h;unfold jn;rw[if_neg h2]
 |x::l,k+1,d,h,h2,h3=>by
  unfold jn;rw[if_pos (h3 0 x (by omega) rfl)];exact zt7 (by simpa using h) h2 λj e hj he=>h3 (j+1) e (by omega) (by simpa using he)
section
variable{α:Type}{l:List α}{f:Nat → α → jc}
theorem zcv(h:∀(j:Nat)(x:α),l[j]?=some x->(f j x).1=0):jn (l.mapIdx f)=zd:=znb λd hd=>by
 obtain⟨j,hj⟩:=wes hd;rw[wf0]at hj;cases hx:l[j]? with
 |none=>rw[hx]at hj;cases hj
 |some x=>rw[hx]at hj;cases hj;exact h j x hx
theorem zm7{k:Nat}{x:α}(hx:l[k]?=some x)(h2:(f k x).1≠0)(h:∀(j:Nat)(y:α),j<k->l[j]?=some y->(f j y).1=0):jn (l.mapIdx f)=f k x:=by
 refine zt7 (k:=k) (by rw[wf0,hx];rfl) h2 λj e hj he=>?_;rw[wf0]at he;cases hy:l[j]? with
 |none=>rw[hy]at he;cases he
 |some y=>rw[hy]at he;cases he;exact h j y hj hy
end
open Classical in
noncomputable def zhq(g:ja)(i:Nat)(t:qg):jc:=
 if ¬Vy t.1 then(7,i,0,())else if t.1∈(g.1.map (·.1)).take i then(8,i,0,())else if zgs t.2.1≠0 then(9,i,zgs t.2.1,())else if t.2.2.1<0\/3<t.2.2.1 then(1,i,0,())else zd
open Classical in
noncomputable def zsc(g:ja)(i:Nat)(s:List UInt8):jc:=
 if ¬Vy s then(7,i,0,())else if s∈g.1.map (·.1)++g.2.1.take i then(8,i,0,())else zd
noncomputable def z3y(g:ja)(i:Nat)(its:List je):jc:=jn (its.mapIdx λk x=>(itE g x,(i:Int),(k:Int)+1,()))
noncomputable def zhx(g:ja)(i:Nat)(p:jf):jc:=
 if p.1<0\/(g.2.1.length:Int)<=p.1 then(11,i,0,())else if 16<p.2.1.length then(4,i,0,())else z3y g i p.2.1
def zfw(g:ja):jc:=if g.2.2.2.1<0\/(g.2.1.length:Int)<=g.2.2.2.1 then(11, -1,0,())else zd
def zwn(g:ja)(i:Nat)(_:List UInt8):jc:=if(ofS i g.2.2.1).length=0 then(5,i,0,())else zd
def szA(g:ja):List jc:=[(g.1.length:Int)-64,(g.2.1.length:Int)-64,(g.2.2.1.length:Int)-256].mapIdx λk z=>if 0<z then(4,(k:Int),0,())else zd
def szT(g:ja):List (Int×Int×Int):=[(1,g.2.2.2.2.1,4096),(0,g.2.2.2.2.2.1,65536),(1,g.2.2.2.2.2.2.1,65536),(1,g.2.2.2.2.2.2.2.1,1048576)]
def szB(g:ja):List jc:=(szT g).mapIdx λk x=>if x.2.1<x.1\/x.2.2<x.2.1 then(2,(k:Int),0,())else zd
noncomputable def zma(g:ja):=g.1.mapIdx (zhq g)
noncomputable def zkl(g:ja):=g.2.1.mapIdx (zsc g)
noncomputable def zis(g:ja):=g.2.2.1.mapIdx (zhx g)
def zi0(g:ja):=g.2.1.mapIdx (zwn g)
noncomputable def gFd(g:ja):jc:=jn (szA g++(szB g++(zma g++(zkl g++(zis g++([zfw g]++zi0 g))))))
theorem jel(l:List qg)(hl:l.length<=1000000):Tn (λnn=>zk8 nn l) (λr=>r=l.map (·.1)):=jbm l hl
theorem zwv{l:List (List UInt8)}{x:List UInt8}:0<=fIx l x↔x∈l:=by
 unfold fIx;by_cases h:x∈l
 ·rw[if_pos h];simp only[h,iff_true];omega
 ·rw[if_neg h];simp only[h,iff_false];omega
structure Stg(g:ja)(L:List jc)(s:Bool×jc×jv):Prop where
 y:s.1=true->(jn L).1≠0/\s.2.2.2.1=jn L
 n:s.1=false->jn L=zd/\s.2.2=c0 g
theorem wbb{g:ja}{L:List jc}{a d:jc}{g':ja}(hd:d.1≠0)(h:jn L=d):Stg g L (true,a,(g',d,())):=⟨λ_=>⟨by rw[h];exact hd,h.symm⟩,λh=>(by cases h)⟩
theorem wcr{g:ja}{L:List jc}{a:jc}(h:jn L=zd):Stg g L (false,a,c0 g):=⟨λh=>(by cases h),λ_=>⟨h,rfl⟩⟩
theorem z4j(g:ja)(hg:Qv g):Tn (λnn=>Y2 nn g) (λd=>d=gFd g):=by
 have ht:=hg.t;have hr:=hg.r;have hp:=hg.p;unfold Y2;refine Tt.J (λs=>s.2.2.1=gFd g) (λnx2 h2=>?_) (λs hs=>Tt.pure hs);refine Tt.J (Stg g (szA g++szB g)) (λnx4 h4=>?_) (λs hs=>?_)
 ·obtain⟨L3,hL3⟩:∃L3,L3=[T.w64 ((g.1.length:Int)-64),T.w64 ((g.2.1.length:Int)-64),T.w64 ((g.2.2.1.length:Int)-256)]:=⟨_,rfl⟩
  rw[<- hL3];have hl3:L3.length=3:=by rw[hL3];rfl
  rw[wI (by omega) (by omega),wI (by omega) (by omega),wI (by omega) (by omega)]at hL3;have hsA:szA g=L3.mapIdx λk z=>if 0<z then(4,(k:Int),0,())else zd:=by rw[hL3];rfl
  refine Tt.loop (λm s=>∃k:Nat,k<=3/\m=3-k/\s=(L3,3,(k:Int),c0 g)/\∀(i:Nat)(z:Int),i<k->L3[i]?=some z->z<=0) 3 waa ⟨0,by omega,by omega,by rw[hl3];rfl,λi z hi=>by omega⟩ λm s⟨k,hk,hm,hs,hle⟩ nx hnx=>?_;subst hs;dsimp only;refine wab (λc=>?_) (λc=>?_)
  ·have c:=wd3 c;have hlt:k<L3.length:=by omega
   refine wac _ (atN hlt) (wab (λc2=>h4.fst _ ?_) (λc2=>wad ?_))
   ·have c2:=wd3 c2;refine wbb (by simp) ?_;have e:jn (szA g)=(4,(k:Int),0,()):=by
     rw[hsA,zm7 (wd2 hlt) (by rw[if_pos c2];simp) λj y hj hy=>by rw[if_neg (by have:=hle j y hj hy;omega)],if_pos c2]
    rw[q5,e];rfl
   ·have c2:=wd4 c2;rw[wI (by omega) (by omega)];refine hnx (3-(k+1)) _ (by omega) ⟨k+1,by omega,rfl,rfl,λi z hi hz=>?_⟩;by_cases hik:i<k
    ·exact hle i z hik hz
    ·have:i=k:=by omega
     subst this;rw[wd2 hlt]at hz;cases hz;omega
  ·have c:=wd4 c;have hk3:k=3:=by omega
   subst hk3;have eA:jn (szA g)=zd:=by
    rw[hsA];exact zcv λj z hz=>by rw[if_neg (by have:=hle j z (by have:=(wd5.1 hz).1;omega) hz;omega)]
   obtain⟨L4,hL4⟩:∃L4,L4=[(⟨[1,(c0 g).1.2.2.2.2.1,4096],rfl⟩:Arr 3 Int),(⟨[0,(c0 g).1.2.2.2.2.2.1,65536],rfl⟩:Arr 3 Int),(⟨[1,(c0 g).1.2.2.2.2.2.2.1,65536],rfl⟩:Arr 3 Int),(⟨[1,(c0 g).1.2.2.2.2.2.2.2.1,1048576],rfl⟩:Arr 3 Int)]:=⟨_,rfl⟩
   rw[<- hL4];have hl4:L4.length=4:=by rw[hL4];rfl
   have hT:∀(i:Nat)(hi:i<L4.length),∃x,(szT g)[i]?=some x/\(L4[i]).l=[x.1,x.2.1,x.2.2]:=λi hi=>by
    subst hL4;have:i=0\/i=1\/i=2\/i=3:=by simp at hi;omega
    rcases this with rfl|rfl|rfl|rfl<;>exact⟨_,rfl,rfl⟩
   refine Tt.loop (λm s=>∃k:Nat,k<=4/\m=4-k/\s=(L4,4,(k:Int),c0 g)/\∀(i:Nat)(x:Int×Int×Int),i<k->(szT g)[i]?=some x->¬(x.2.1<x.1\/x.2.2<x.2.1)) 4 waa.fst ⟨0,by omega,by omega,by rw[hl4];rfl,λi x hi=>by omega⟩ λm s⟨k,hk,hm,hs,hle⟩ nx hnx=>?_;subst hs;dsimp only;refine wab (λc=>?_) (λc=>h4.fst.fst _ (wcr ?_))
   ·have c:=wd3 c;have hlt:k<L4.length:=by omega
    obtain⟨x,hx,hxl⟩:=hT k hlt;refine wac _ (atN hlt) ?_;refine Tt.J (λs=>∃b,s=((k:Int),L4,4,(k:Int),b,c0 g)/\(b=true↔x.2.1<x.1\/x.2.2<x.2.1)) (λny hny=>?_) (λs⟨b,hs,hb⟩=>?_)
    ·refine wac 1 rfl (wac x.2.1 (by rw[hxl];rfl) (wac 0 rfl (wac x.1 (by rw[hxl];rfl) (wad (wab (λc1=>hny _ ⟨true,rfl,?_⟩) (λc1=>wac 1 rfl (wac x.2.1 (by rw[hxl];rfl) (wac 2 rfl (wac x.2.2 (by rw[hxl];rfl) (hny _ ⟨_,rfl,?_⟩))))))))))
     ·have c1:=wd3 c1;simp[c1]
     ·have c1:=wd4 c1;simp only[wed];omega
    ·subst hs;dsimp only;refine wab (λc1=>h4.fst.fst _ (wbb (by simp) ?_)) (λc1=>wad ?_)
     ·have hbad:=hb.1 c1;rw[q5,eA,if_pos rfl];unfold szB;rw[zm7 hx (by rw[if_pos hbad];simp) λj y hj hy=>by rw[if_neg (hle j y hj hy)],if_pos hbad]
     ·rw[wI (by omega) (by omega)];refine hnx (4-(k+1)) _ (by omega) ⟨k+1,by omega,rfl,rfl,λi y hi hy=>?_⟩;by_cases hik:i<k
      ·exact hle i y hik hy
      ·have:i=k:=by omega
       subst this;rw[hx]at hy;cases hy;exact λh=>by rw[hb.2 h]at c1;cases c1
   ·have c:=wd4 c;rw[q5,eA,if_pos rfl];unfold szB;exact zcv λj x hx=>by
     have hj:=(wd5.1 hx).1;have hj4:j<4:=hj;rw[if_neg (hle j x (by omega) hx)]
 ·obtain⟨f3,d3,c3⟩:=s;obtain⟨hs1,hs2⟩:=hs;simp only at hs1 hs2;refine wab (λc=>h2 _ ?_) (λc=>?_)
  ·obtain⟨q1,q2⟩:=hs1 c;unfold gFd;rw[<- weu,q5,if_neg q1];exact q2
  obtain⟨q0,rfl⟩:=hs2 c;have g1:gFd g=jn (zma g++(zkl g++(zis g++([zfw g]++zi0 g)))):=by
   unfold gFd;rw[<- weu,q5,if_pos (by rw[q0])]
  dsimp only;refine Tt.J (Stg g (zma g)) (λnx6 h6=>?_) (λs hs=>?_)
  ·refine Tt.bind (Tt.call (jbm g.1 ht) waa) λns hns=>?_;have hnl:ns.length=g.1.length:=by rw[hns];simp
   refine Tt.loop (λm s=>∃k:Nat,k<=g.1.length/\m=g.1.length-k/\s=(ns,g.1,(g.1.length:Int),(k:Int),c0 g)/\∀(i:Nat)(x:qg),i<k->g.1[i]?=some x->(zhq g i x).1=0) g.1.length waa ⟨0,by omega,by omega,rfl,λi x hi=>by omega⟩ λm s⟨k,hk,hm,hs,hrx⟩ nx hnx=>?_;subst hs;dsimp only;refine wab (λc=>?_) (λc=>h6.fst _ (wcr ?_))
   ·have c:=wd3 c;have hlt:k<g.1.length:=by omega
    have hmem:g.1[k]∈g.1:=wec hlt;have q2:=hg.tn _ hmem;have hget:=wd2 hlt;refine wac _ (atN hlt) ?_;generalize g.1[k]=t at q2 hget hmem⊢;have hfin:∀d,zhq g k t=d->d.1≠0->jn (zma g)=d:=λd e hd=>by
     unfold zma;rw[zm7 hget (by rw[e];exact hd) λj y hj hy=>hrx j y hj hy,e]
    refine Tt.J (λs=>∃f cc,s=(ns,(k:Int),g.1,(g.1.length:Int),(k:Int),f,cc,t)/\(f=true->cc.2.1.1≠0/\jn (zma g)=cc.2.1)/\(f=false->cc=c0 g/\Vy t.1/\t.1∉(g.1.map (·.1)).take k)) (λny hny=>?_) (λs⟨f,cc,hs,k1,k2⟩=>?_)
    ·refine wac (ns.take k) (sliT (by omega)) ?_;refine Tt.bind (Tt.call (jfs _) waa.fst) λb hb=>wab (λc1=>hny _ ⟨_,_,rfl,λ_=>⟨(by decide:(7:Int)≠0),hfin _ ?_ (by simp)⟩,λh=>by cases h⟩) (λc1=>?_)
     ·have hn:¬Vy t.1:=λh=>by rw[hb.2 h]at c1;cases c1
      unfold zhq;rw[if_pos hn]
     have hn:Vy t.1:=hb.1 (by simpa using c1);refine Tt.bind (Tt.call (jfq _ _ (by rw[wfg];omega)) waa.fst) λz hz=>wab (λc2=>hny _ ⟨_,_,rfl,λ_=>⟨(by decide:(8:Int)≠0),hfin _ ?_ (by simp)⟩,λh=>by cases h⟩) (λc2=>hny _ ⟨_,_,rfl,λh=>(by cases h),λ_=>⟨rfl,hn,?_⟩⟩)
     ·have c2:=wd3 c2;rw[hz,zwv,hns]at c2;unfold zhq;rw[if_neg (λh=>h hn),if_pos c2]
     ·have c2:=wd4 c2;rw[hz,zwv,hns]at c2;exact c2
    ·subst hs;dsimp only;refine wab (λc=>h6.fst _ (wbb (k1 c).1 (k1 c).2)) (λc=>?_);obtain⟨rfl,hn,hnot⟩:=k2 c;refine Tt.bind (Tt.call (z98 _ q2) waa.fst) λe he=>wab (λce=>h6.fst _ (wbb (by simp) (hfin _ ?_ (by simp)))) (λce=>?_)
     ·have ce:=wd3 ce;rw[he]at ce⊢;unfold zhq;rw[if_neg (λh=>h hn),if_neg hnot,if_pos ce]
     have ce:e=0:=wgc.1 (wd4 ce);rw[he]at ce;refine Tt.J (λs=>∃f,s=(ns,(k:Int),g.1,(g.1.length:Int),(k:Int),f,c0 g)/\(f=true↔t.2.2.1<0\/3<t.2.2.1)) (λnz hnz=>?_) (λs⟨f,hs,hf⟩=>?_)
     ·refine wad (wab (λc1=>hnz _ ⟨_,rfl,?_⟩) (λc1=>hnz _ ⟨_,rfl,?_⟩))
      ·have c1:=wd3 c1;simp[c1]
      ·have c1:=wd4 c1;simp only[wed];omega
     ·subst hs;dsimp only;refine wab (λc1=>h6.fst _ (wbb (by simp) (hfin _ ?_ (by simp)))) (λc1=>wad ?_)
      ·unfold zhq;rw[if_neg (λh=>h hn),if_neg hnot,if_neg (λh=>h ce),if_pos (hf.1 c1)]
      rw[wI (by omega) (by omega)];refine hnx (g.1.length-(k+1)) _ (by omega) ⟨k+1,by omega,rfl,rfl,λi x hi hx=>?_⟩;by_cases hik:i<k
      ·exact hrx i x hik hx
      ·have:i=k:=by omega
       subst this;rw[hget]at hx;cases hx;unfold zhq;rw[if_neg (λh=>h hn),if_neg hnot,if_neg (λh=>h ce),if_neg (λh=>by rw[hf.2 h]at c1;cases c1)]
   ·have c:=wd4 c;exact zcv λj x hx=>hrx j x (by have:=(wd5.1 hx).1;omega) hx
  ·obtain⟨f5,d5,c5⟩:=s;obtain⟨hs1,hs2⟩:=hs;simp only at hs1 hs2;refine wab (λc=>h2 _ ?_) (λc=>?_)
   ·obtain⟨q1,q2⟩:=hs1 c;rw[g1,q5,if_neg q1];exact q2
   obtain⟨q1,rfl⟩:=hs2 c;have g2:gFd g=jn (zkl g++(zis g++([zfw g]++zi0 g))):=by rw[g1,q5,if_pos (by rw[q1])]
   dsimp only;refine Tt.J (Stg g (zkl g)) (λnx8 h8=>?_) (λs hs=>?_)
   ·refine Tt.bind (Tt.call (jel g.1 ht) waa) λns hns=>?_;subst hns;refine Tt.loop (λm s=>∃(k:Nat),k<=g.2.1.length/\m=g.2.1.length-k/\s=(g.2.1,(g.2.1.length:Int),(k:Int),c0 g,g.1.map (·.1)++g.2.1.take k)/\∀(i:Nat)(x:List UInt8),i<k->g.2.1[i]?=some x->(zsc g i x).1=0) g.2.1.length waa ⟨0,by omega,by omega,by simp,λi x hi=>by omega⟩ λm s⟨k,hk,hm,hs,hrx⟩ nx hnx=>?_;subst hs;dsimp only;refine wab (λc=>?_) (λc=>h8.fst _ (wcr ?_))
    ·have c:=wd3 c;have hlt:k<g.2.1.length:=by omega
     have hget:=wd2 hlt;have htk:=wel hlt;refine wac _ (atN hlt) ?_;generalize g.2.1[k]=t at hget htk⊢;have hfin:∀d,zsc g k t=d->d.1≠0->jn (zkl g)=d:=λd e hd=>by
      unfold zkl;rw[zm7 hget (by rw[e];exact hd) λj y hj hy=>hrx j y hj hy,e]
     refine Tt.J (λs=>∃f cc,s=(t,g.2.1,(g.2.1.length:Int),(k:Int),f,cc,g.1.map (·.1)++g.2.1.take k)/\(f=true->cc.2.1.1≠0/\jn (zkl g)=cc.2.1)/\(f=false->cc=c0 g/\(zsc g k t).1=0)) (λny hny=>?_) (λs⟨f,cc,hs,k1,k2⟩=>?_)
     ·refine Tt.bind (Tt.call (jfs _) waa.fst) λb hb=>wab (λc1=>hny _ ⟨_,_,rfl,λ_=>⟨(by decide:(7:Int)≠0),hfin _ ?_ (by simp)⟩,λh=>by cases h⟩) (λc1=>?_)
      ·have hn:¬Vy t:=λh=>by rw[hb.2 h]at c1;cases c1
       unfold zsc;rw[if_pos hn]
      have hn:Vy t:=hb.1 (by simpa using c1);refine Tt.bind (Tt.call (jfq _ _ (by simp;omega)) waa.fst) λz hz=>wab (λc2=>hny _ ⟨_,_,rfl,λ_=>⟨(by decide:(8:Int)≠0),hfin _ ?_ (by simp)⟩,λh=>by cases h⟩) (λc2=>hny _ ⟨_,_,rfl,λh=>(by cases h),λ_=>⟨rfl,?_⟩⟩)
      ·have c2:=wd3 c2;rw[hz,zwv]at c2;unfold zsc;rw[if_neg (λh=>h hn),if_pos c2]
      ·have c2:=wd4 c2;rw[hz,zwv]at c2;unfold zsc;rw[if_neg (λh=>h hn),if_neg c2]
     ·subst hs;dsimp only;refine wab (λc=>h8.fst _ (wbb (k1 c).1 (k1 c).2)) (λc=>?_);obtain⟨rfl,hz⟩:=k2 c;refine wac _ (Jw (by simp;omega) (by omega)) (wad ?_);rw[wI (by omega) (by omega)];refine hnx (g.2.1.length-(k+1)) _ (by omega) ⟨k+1,by omega,rfl,by rw[htk,weu];rfl,λi x hi hx=>?_⟩;by_cases hik:i<k
      ·exact hrx i x hik hx
      ·have:i=k:=by omega
       subst this;rw[hget]at hx;cases hx;exact hz
    ·have c:=wd4 c;exact zcv λj x hx=>hrx j x (by have:=(wd5.1 hx).1;omega) hx
   ·obtain⟨f7,d7,c7⟩:=s;obtain⟨hs1,hs2⟩:=hs;simp only at hs1 hs2;refine wab (λc=>h2 _ ?_) (λc=>?_)
    ·obtain⟨q1,q2⟩:=hs1 c;rw[g2,q5,if_neg q1];exact q2
    obtain⟨q2,rfl⟩:=hs2 c;have g3:gFd g=jn (zis g++([zfw g]++zi0 g)):=by rw[g2,q5,if_pos (by rw[q2])]
    dsimp only;refine Tt.J (Stg g (zis g)) (λnx10 h10=>?_) (λs hs=>?_)
    ·refine Tt.J (λs=>∀a,Stg g (zis g) (s.1,a,s.2)) (λnx21 h21=>?_) (λs hs=>h10 _ (hs _));refine Tt.loop (λm s=>∃k:Nat,k<=g.2.2.1.length/\m=g.2.2.1.length-k/\s=(g.2.2.1,(g.2.2.1.length:Int),(k:Int),c0 g)/\∀(i:Nat)(x:jf),i<k->g.2.2.1[i]?=some x->(zhx g i x).1=0) g.2.2.1.length waa ⟨0,by omega,by omega,rfl,λi x hi=>by omega⟩ λm s⟨k,hk,hm,hs,hok⟩ nx hnx=>?_;subst hs;dsimp only;refine wab (λc=>?_) (λc=>h21.fst _ λa=>wcr ?_)
     ·have c:=wd3 c;have hlt:k<g.2.2.1.length:=by omega
      have hget:=wd2 hlt;refine wac _ (atN hlt) ?_;generalize g.2.2.1[k]=p at hget⊢;have hfin:∀d,zhx g k p=d->d.1≠0->jn (zis g)=d:=λd e hd=>by
       unfold zis;rw[zm7 hget (by rw[e];exact hd) λj y hj hy=>hok j y hj hy,e]
      refine Tt.J (λs=>∃f,s=((k:Int),g.2.2.1,(g.2.2.1.length:Int),(k:Int),f,c0 g,p)/\(f=true↔p.1<0\/(g.2.1.length:Int)<=p.1)) (λny hny=>?_) (λs⟨f,hs,hl⟩=>?_)
      ·refine wad (wab (λc1=>hny _ ⟨true,rfl,?_⟩) (λc1=>hny _ ⟨_,rfl,?_⟩))
       ·have c1:=wd3 c1;simp[c1]
       ·have c1:=wd4 c1;simp only[wed];omega
      ·subst hs;dsimp only;refine wab (λcf=>h10.fst _ (wbb (by simp) (hfin _ ?_ (by simp)))) (λcf=>?_)
       ·unfold zhx;rw[if_pos (hl.1 cf)]
       have hleft:¬(p.1<0\/(g.2.1.length:Int)<=p.1):=λh=>by rw[hl.2 h]at cf;cases cf
       refine wab (λc16=>h10.fst _ (wbb (by simp) (hfin _ ?_ (by simp)))) (λc16=>?_)
       ·have c16:=wd3 c16;unfold zhx;rw[if_neg hleft,if_pos (by omega)]
       have c16:=wd4 c16;have hpd:zhx g k p=z3y g k p.2.1:=by unfold zhx;rw[if_neg hleft,if_neg (by omega)]
       refine Tt.loop (λm s=>∃i:Nat,i<=p.2.1.length/\m=p.2.1.length-i/\s=((k:Int),g.2.2.1,(g.2.2.1.length:Int),(k:Int),p.2.1,(p.2.1.length:Int),(i:Int),c0 g)/\∀(j:Nat)(x:je),j<i->p.2.1[j]?=some x->itE g x=0) p.2.1.length waa.fst ⟨0,by omega,by omega,rfl,λi x hi=>by omega⟩ λm s⟨i,hi,hm2,hs,hit⟩ nz hnz=>?_;subst hs;dsimp only;refine wab (λc=>?_) (λc=>?_)
       ·have c:=wd3 c;have hil:i<p.2.1.length:=by omega
        refine wac _ (atN hil) (Tt.bind (Tt.call (itemE g (0,0,0,()) (p.2.1[i])) waa.fst.fst) λe he=>?_);refine wab (λce=>h21.fst.fst _ λa=>?_) (λce=>wad ?_)
        ·have ce:=wd3 ce;rw[wI (by omega) (by omega)];refine wbb ce (hfin _ ?_ ce);rw[hpd];unfold z3y;rw[zm7 (wd2 hil) (by simp only;rw[<- he];exact ce) λj y hj hy=>hit j y hj hy,he]
        have ce:e=0:=wgc.1 (wd4 ce);rw[wI (by omega) (by omega)];refine hnz (p.2.1.length-(i+1)) _ (by omega) ⟨i+1,by omega,rfl,rfl,λj x hj hx=>?_⟩;by_cases hji:j<i
        ·exact hit j x hji hx
        ·have:j=i:=by omega
         subst this;rw[wd2 hil]at hx;cases hx;rw[<- he];exact ce
       ·have c:=wd4 c;refine wad ?_;rw[wI (by omega) (by omega)];refine Tt.fst (hnx (g.2.2.1.length-(k+1)) _ (by omega) ⟨k+1,by omega,rfl,rfl,λj x hj hx=>?_⟩);by_cases hjk:j<k
        ·exact hok j x hjk hx
        ·have:j=k:=by omega
         subst this;rw[hget]at hx;cases hx;rw[hpd];unfold z3y;rw[zcv λj2 y hy=>hit j2 y (by have:=(wd5.1 hy).1;omega) hy]
     ·have c:=wd4 c;exact zcv λj x hx=>hok j x (by have:=(wd5.1 hx).1;omega) hx
    ·obtain⟨f9,d9,c9⟩:=s;obtain⟨hs1,hs2⟩:=hs;simp only at hs1 hs2;refine wab (λc=>h2 _ ?_) (λc=>?_)
     ·obtain⟨q1,q2⟩:=hs1 c;rw[g3,q5,if_neg q1];exact q2
     obtain⟨q3,rfl⟩:=hs2 c;have g4:gFd g=jn ([zfw g]++zi0 g):=by rw[g3,q5,if_pos (by rw[q3])]
     dsimp only;refine Tt.J (λs=>(jn ([zfw g]++zi0 g))=s.2.2.2.1) (λnx12 h12=>?_) (λs hs=>?_)
     ·refine Tt.J (λs=>∃f,s=(f,c0 g)/\(f=true↔g.2.2.2.1<0\/(g.2.1.length:Int)<=g.2.2.2.1)) (λny hny=>?_) (λs⟨f,hs,hst⟩=>?_)
      ·refine wad (wab (λc1=>hny _ ⟨true,rfl,?_⟩) (λc1=>hny _ ⟨_,rfl,?_⟩))
       ·have c1:=wd3 c1;simp[c1]
       ·have c1:=wd4 c1;simp only[wed];omega
      ·subst hs;dsimp only;refine wab (λcf=>h12 _ ?_) (λcf=>?_)
       ·have e:zfw g=(11, -1,0,()):=by unfold zfw;rw[if_pos (hst.1 cf)]
        rw[q5,e];rfl
       have e:zfw g=zd:=by unfold zfw;rw[if_neg (λh=>by rw[hst.2 h]at cf;cases cf)]
       have e2:jn ([zfw g]++zi0 g)=jn (zi0 g):=by rw[q5,e];rfl
       rw[e2]at h12;refine Tt.loop (λm s=>∃k:Nat,k<=g.2.1.length/\m=g.2.1.length-k/\s=((g.2.1.length:Int),(k:Int),c0 g)/\∀(i:Nat)(x:List UInt8),i<k->g.2.1[i]?=some x->(zwn g i x).1=0) g.2.1.length waa ⟨0,by omega,by omega,rfl,λi x hi=>by omega⟩ λm s⟨k,hk,hm,hs,hok⟩ nx hnx=>?_;subst hs;dsimp only;refine wab (λc=>?_) (λc=>h12.fst _ ?_)
       ·have c:=wd3 c;have hlt:k<g.2.1.length:=by omega
        have hget:=wd2 hlt;refine Tt.bind (Tt.call (OfE g hg.toGLen (k:Int)) waa.fst) λl hl=>wab (λc1=>h12.fst _ ?_) (λc1=>wad ?_)
        ·have c1:=wd3 c1;have en:zwn g k g.2.1[k]=(5,(k:Int),0,()):=by unfold zwn;rw[if_pos (by rw[hl]at c1;omega)]
         unfold zi0;rw[zm7 hget (by rw[en];simp) λj y hj hy=>hok j y hj hy,en]
        ·have c1:=wd4 c1;rw[wI (by omega) (by omega)];refine hnx (g.2.1.length-(k+1)) _ (by omega) ⟨k+1,by omega,rfl,rfl,λi x hi hx=>?_⟩;by_cases hik:i<k
         ·exact hok i x hik hx
         ·have:i=k:=by omega
          subst this;unfold zwn;rw[if_neg (by rw[hl]at c1;omega)]
       ·have c:=wd4 c;exact zcv λj x hx=>hok j x (by have:=(wd5.1 hx).1;omega) hx
     ·obtain⟨f11,d11,c11⟩:=s;simp only at hs;exact wab (λc=>h2 _ (by rw[g4,hs])) (λc=>h2 _ (by rw[g4,hs]))
theorem zg1:∀{l:List jc},(jn l).1=0->jn l=zd
 |[],_=>rfl
 |d::l,h=>by
  unfold jn at h⊢;by_cases c:d.1=0
  ·rw[if_pos c]at h⊢;exact zg1 h
  ·rw[if_neg c]at h;exact absurd h c
section
variable{P L:List jc}{k:Nat}{d x:jc}
theorem zjg(h:d=jn (P++L.take k))(h2:¬(d.1=0/\k<L.length)):d=jn (P++L):=by
 by_cases hk:k<L.length
 ·have hd:d.1≠0:=λe=>h2 ⟨e,hk⟩;have e:P++L=(P++L.take k)++L.drop k:=by rw[weu,wfh]
  rw[e,q5,if_neg (by rw[<- h];exact hd)];exact h
 ·rw[wfs (by omega)]at h;exact h
theorem zk5(h:d=jn (P++L.take k))(hd:d.1=0)(hx:L[k]?=some x)(hz:x.1=0->x=zd):x=jn (P++L.take (k+1)):=by
 have hk:=(wd5.1 hx).1;have e:L.take (k+1)=L.take k++[x]:=by
  rw[wel hk];congr 1;rw[wd2 hk]at hx;cases hx;rfl
 rw[e,<- weu,q5,if_pos (by rw[<- h];exact hd)];unfold jn;by_cases c:x.1=0
 ·rw[if_pos c,hz c];rfl
 ·rw[if_neg c]
end
theorem jai{l:List (List UInt8)}{x:List UInt8}{i:Nat}(hi:i<=l.length)(hx:x∈l):fIx l x<(i:Int)↔x∈l.take i:=by
 unfold fIx;rw[if_pos hx];have e:l.idxOf x=if x∈l.take i then(l.take i).idxOf x else(l.drop i).idxOf x+(l.take i).length:=by
  rw[<- List.idxOf_append,wfh]
 have hl:(l.take i).length=i:=by rw[wfg];omega
 by_cases h:x∈l.take i
 ·rw[if_pos h]at e;have:=List.idxOf_lt_length_iff.2 h;simp only[h,iff_true];omega
 ·rw[if_neg h]at e;simp only[h,iff_false];omega
theorem zyr(l:List (List UInt8))(hl:l.length<=2000000)(i:Nat)(x:List UInt8)(hx:l[i]?=some x)(hm:x.length<=9223372036854775807):Tn (λnn=>Ym nn l (i:Int)) (λr=>r=7/\¬Vy x\/r=8/\Vy x/\x∈l.take i\/r=0/\Vy x/\x∉l.take i):=by
 have hi:=(wd5.1 hx).1;have ha:atL l (i:Int)=some x:=Yr (by omega) (by simpa using hx);have hxm:x∈l:=wd7 hx;unfold Ym;refine wac _ ha (Tt.bind (Tt.call (jb1 x hm) waa) λb hb=>wab (λc=>Tt.pure (.inl ⟨rfl,λh=>by rw[hb.2 h]at c;cases c⟩)) λc=>?_);have hn:Vy x:=hb.1 (by simpa using c);refine wac _ ha (Tt.bind (Tt.call (z8h l x hl) waa) λz hz=>?_);subst hz;refine wab (λc2=>Tt.pure (.inr (.inl ⟨rfl,hn,?_⟩))) λc2=>Tt.pure (.inr (.inr ⟨rfl,hn,?_⟩))
 ·have c2:=wd3 c2;exact(jai (by omega) hxm).1 c2
 ·have c2:=wd4 c2;exact λh=>c2 ((jai (by omega) hxm).2 h)
structure zc6(g:ja):Prop extends Qv g where
 nm:∀x∈g.1,x.1.length<=9223372036854775807
 rm:∀x∈g.2.1,x.length<=9223372036854775807
 im:∀x∈g.2.2.1,x.2.1.length<=9223372036854775807
theorem z77(g:ja)(hg:zc6 g)(i:Nat)(t:qg)(ht:g.1[i]?=some t):Tn (λnn=>Zz nn g (i:Int)) (λd=>d=zhq g i t):=by
 have h1:=hg.t;have h2:=hg.r;have hi:=(wd5.1 ht).1;have hm:=wd7 ht;unfold Zz;refine wac _ (Yr (by omega) (by simpa using ht)) (Tt.bind (Tt.call (zu9 g hg.toGLen) waa) λns hns=>?_);subst hns;have hx:(Zj g)[i]?=some t.1:=by unfold Zj;rw[weg (by simpa using hi),web,ht];rfl
 have htk:(Zj g).take i=(g.1.map (·.1)).take i:=by unfold Zj;rw[wgy (by simp;omega)]
 refine Tt.bind (Tt.call (zyr (Zj g) (by unfold Zj;simp;omega) i t.1 hx (hg.nm t hm)) waa) λr hr=>?_;rw[htk]at hr;unfold zhq;rcases hr with⟨rfl,a⟩|⟨rfl,a,b⟩|⟨rfl,a,b⟩
 ·rw[if_pos a];exact waq rfl (Tt.pure rfl)
 ·rw[if_neg (λh=>h a),if_pos b];exact waq rfl (Tt.pure rfl)
 ·rw[if_neg (λh=>h a),if_neg b];refine wap rfl (Tt.bind (Tt.call (zvn _ (hg.tn t hm)) waa) λe he=>?_);subst he;refine wab (λc=>Tt.pure ?_) λc=>?_
  ·rw[if_pos (wd3 c)]
  rw[if_neg (wd4 c)];refine Tt.J (λs=>∃b,s=((i:Int),b,zd)/\(b=true↔t.2.2.1<0\/3<t.2.2.1)) (λnx hnx=>?_) (λs⟨b,hs,hb⟩=>?_)
  ·refine wad (wab (λc1=>hnx _ ⟨_,rfl,?_⟩) λc1=>hnx _ ⟨_,rfl,?_⟩)
   ·have c1:=wd3 c1;simp[c1]
   ·have c1:=wd4 c1;simp only[wed];omega
  ·subst hs;exact wab (λc1=>Tt.pure (by rw[if_pos (hb.1 c1)])) λc1=>Tt.pure (by rw[if_neg (λh=>by rw[hb.2 h]at c1;cases c1)])
theorem tokD_z{g:ja}{i:Nat}{t:qg}(h:(zhq g i t).1=0):zhq g i t=zd:=by
 unfold zhq at h⊢;split at h<;>first|cases h|skip
 rename_i h1;rw[if_neg h1];split at h<;>first|cases h|skip
 rename_i h2;rw[if_neg h2];split at h<;>first|cases h|skip
 rename_i h3;rw[if_neg h3];split at h<;>first|cases h|skip
 rename_i h4;rw[if_neg h4]
theorem z8d(g:ja)(hg:zc6 g)(i:Nat)(p:jf)(hp:g.2.2.1[i]?=some p):Tn (λnn=>zbb nn g (i:Int)) (λd=>d=zhx g i p):=by
 have h2:=hg.r;have hi:=(wd5.1 hp).1;have hm:=hg.im p (wd7 hp);unfold zbb;refine wac _ (Yr (by omega) (by simpa using hp)) ?_;refine Tt.J (λs=>∃b,s=((i:Int),b,g,zd,p)/\(b=true↔p.1<0\/(g.2.1.length:Int)<=p.1)) (λnx hnx=>?_) (λs⟨b,hs,hb⟩=>?_)
 ·refine wad (wab (λc1=>hnx _ ⟨_,rfl,?_⟩) λc1=>hnx _ ⟨_,rfl,?_⟩)
  ·have c1:=wd3 c1;simp[c1]
  ·have c1:=wd4 c1;simp only[wed];omega
 ·subst hs;dsimp only;unfold zhx;refine wab (λc1=>Tt.pure (by rw[if_pos (hb.1 c1)])) λc1=>?_;rw[if_neg (λh=>by rw[hb.2 h]at c1;cases c1)];refine wab (λc2=>Tt.pure ?_) λc2=>?_
  ·have c2:=wd3 c2;rw[if_pos (by omega)]
  have c2:=wd4 c2;rw[if_neg (by omega)];unfold z3y;refine Tt.loop (λm s=>∃k:Nat,k<=p.2.1.length/\m=p.2.1.length-k/\s=((i:Int),(k:Int),g,zd,p)/\∀(j:Nat)(x:je),j<k->p.2.1[j]?=some x->itE g x=0) p.2.1.length waa ⟨0,by omega,by omega,rfl,λj x h=>by omega⟩ λm s⟨k,hk,hm,hs,hit⟩ nx hnx=>?_;subst hs;dsimp only;refine wab (λc=>?_) (λc=>Tt.pure ?_)
  ·have c:=wd3 c;have hlt:k<p.2.1.length:=by omega
   refine wac _ (atN hlt) (Tt.bind (Tt.call (jcd g _) waa.fst) λe he=>wab (λc3=>Tt.pure ?_) λc3=>wad ?_)
   ·have c3:=wd3 c3;rw[wI (by omega) (by omega),zm7 (wd2 hlt) (by simp only;rw[<- he];exact c3) λj y hj hy=>hit j y hj hy,he]
   ·have ce:e=0:=wgc.1 (wd4 c3);rw[wI (by omega) (by omega)];refine hnx (p.2.1.length-(k+1)) _ (by omega) ⟨k+1,by omega,rfl,rfl,λj x hj hx=>?_⟩;by_cases hjk:j<k
    ·exact hit j x hjk hx
    ·have:j=k:=by omega
     subst this;rw[wd2 hlt]at hx;cases hx;rw[<- he];exact ce
  ·have c:=wd4 c;rw[zcv λj x hx=>hit j x (by have:=(wd5.1 hx).1;omega) hx]
theorem prdD_z{g:ja}{i:Nat}{p:jf}(h:(zhx g i p).1=0):zhx g i p=zd:=by
 unfold zhx at h⊢;split at h<;>first|cases h|skip
 rename_i h1;rw[if_neg h1];split at h<;>first|cases h|skip
 rename_i h2;rw[if_neg h2];exact zg1 h
theorem z5u(g:ja)(hg:GLen g):Tn (λnn=>Z4 nn g) (λd=>d=jn (szA g++szB g)):=by
 have h1:=hg.t;have h2:=hg.r;have h3:=hg.p;have eq:szA g++szB g=[if 0<(g.1.length:Int)-64 then(4,0,0,())else zd,if 0<(g.2.1.length:Int)-64 then(4,1,0,())else zd,if 0<(g.2.2.1.length:Int)-256 then(4,2,0,())else zd,
  if g.2.2.2.2.1<1\/4096<g.2.2.2.2.1 then(2,0,0,())else zd,if g.2.2.2.2.2.1<0\/65536<g.2.2.2.2.2.1 then(2,1,0,())else zd,if g.2.2.2.2.2.2.1<1\/65536<g.2.2.2.2.2.2.1 then(2,2,0,())else zd,if g.2.2.2.2.2.2.2.1<1\/1048576<g.2.2.2.2.2.2.2.1 then(2,3,0,())else zd]:=rfl
 rw[eq];have hy:∀{c:Prop}[Decidable c]{d:jc}{l:List jc},c->d.1≠0->jn ((if c then d else zd)::l)=d:=λhc hd=>by unfold jn;rw[if_pos hc,if_neg hd]
 have hn:∀{c:Prop}[Decidable c]{d:jc}{l:List jc},¬c->jn ((if c then d else zd)::l)=jn l:=λhc=>by rw[if_neg hc];exact if_pos rfl
 unfold Z4;refine wab (λc=>Tt.pure ?_) λc=>?_
 ·have c:=wd3 c;rw[hy (by omega) (by simp)]
 have c:=wd4 c;rw[hn (by omega)];refine wab (λc=>Tt.pure ?_) λc=>?_
 ·have c:=wd3 c;rw[hy (by omega) (by simp)]
 have c:=wd4 c;rw[hn (by omega)];refine wab (λc=>Tt.pure ?_) λc=>?_
 ·have c:=wd3 c;rw[hy (by omega) (by simp)]
 have c:=wd4 c;rw[hn (by omega)];refine Tt.J (λs=>∃b,s=(b,g,zd)/\(b=true↔g.2.2.2.2.1<1\/4096<g.2.2.2.2.1)) (λnx hnx=>wad (wab (λc1=>hnx _ ⟨_,rfl,by have c1:=wd3 c1;simp[c1]⟩) λc1=>hnx _ ⟨_,rfl,by have c1:=wd4 c1;simp only[wed];omega⟩)) (λs⟨b,hs,hb⟩=>?_);subst hs;dsimp only;refine wab (λc=>Tt.pure ?_) λc=>?_
 ·rw[hy (hb.1 c) (by simp)]
 rw[hn (λh=>by rw[hb.2 h]at c;cases c)];refine Tt.J (λs=>∃b,s=(b,g,zd)/\(b=true↔g.2.2.2.2.2.1<0\/65536<g.2.2.2.2.2.1)) (λnx hnx=>wad (wab (λc1=>hnx _ ⟨_,rfl,by have c1:=wd3 c1;simp[c1]⟩) λc1=>hnx _ ⟨_,rfl,by have c1:=wd4 c1;simp only[wed];omega⟩)) (λs⟨b,hs,hb⟩=>?_);subst hs;dsimp only;refine wab (λc=>Tt.pure ?_) λc=>?_
 ·rw[hy (hb.1 c) (by simp)]
 rw[hn (λh=>by rw[hb.2 h]at c;cases c)];refine Tt.J (λs=>∃b,s=(b,g,zd)/\(b=true↔g.2.2.2.2.2.2.1<1\/65536<g.2.2.2.2.2.2.1)) (λnx hnx=>wad (wab (λc1=>hnx _ ⟨_,rfl,by have c1:=wd3 c1;simp[c1]⟩) λc1=>hnx _ ⟨_,rfl,by have c1:=wd4 c1;simp only[wed];omega⟩)) (λs⟨b,hs,hb⟩=>?_);subst hs;dsimp only;refine wab (λc=>Tt.pure ?_) λc=>?_
 ·rw[hy (hb.1 c) (by simp)]
 rw[hn (λh=>by rw[hb.2 h]at c;cases c)];refine Tt.J (λs=>∃b,s=(b,zd)/\(b=true↔g.2.2.2.2.2.2.2.1<1\/1048576<g.2.2.2.2.2.2.2.1)) (λnx hnx=>wad (wab (λc1=>hnx _ ⟨_,rfl,by have c1:=wd3 c1;simp[c1]⟩) λc1=>hnx _ ⟨_,rfl,by have c1:=wd4 c1;simp only[wed];omega⟩)) (λs⟨b,hs,hb⟩=>?_);subst hs;dsimp only;refine wab (λc=>Tt.pure ?_) λc=>Tt.pure ?_
 ·rw[hy (hb.1 c) (by simp)]
 ·rw[hn (λh=>by rw[hb.2 h]at c;cases c)];rfl
theorem z1n(g:ja)(hg:zc6 g):Tn (λnn=>Zt nn g) (λd=>d=gFd g):=by
 have ht:=hg.t;have hr:=hg.r;have hp:=hg.p;have eg:gFd g=jn (((((szA g++szB g)++zma g)++zkl g)++zis g++[zfw g])++zi0 g):=by
  unfold gFd;simp only[weu]
 unfold Zt;refine Tt.bind (Tt.call (z5u g hg.toGLen) waa) λd0 hd0=>?_;generalize szA g++szB g=P1 at hd0 eg;refine Tt.loop (λm s=>∃(k:Nat)(d:jc),k<=g.1.length/\m=g.1.length-k/\s=((k:Int),g,zd,d)/\d=jn (P1++(zma g).take k)) g.1.length waa ⟨0,d0,by omega,by omega,rfl,by simpa using hd0⟩ λm s⟨k,d,hk,hm,hs,hd⟩ nx hnx=>?_;subst hs;dsimp only;have htl:(zma g).length=g.1.length:=by unfold zma;simp
 refine Tt.J (λs=>∃b,s=((k:Int),b,g,zd,d)/\(b=true↔d.1=0/\k<g.1.length)) (λny hny=>?_) (λs⟨b,hs,hb⟩=>?_)
 ·refine wad (wab (λc1=>hny _ ⟨_,rfl,?_⟩) λc1=>hny _ ⟨_,rfl,?_⟩)
  ·have c1:=wd3 c1;simp only[wed];omega
  ·have c1:=wd4 c1;simp[c1]
 subst hs;dsimp only;refine wab (λc=>?_) (λc=>?_)
 ·obtain⟨c1,c2⟩:=hb.1 c;have hget:=wd2 c2;refine Tt.bind (Tt.call (z77 g hg k _ hget) waa.fst) λx hx=>wad ?_;rw[wI (by omega) (by omega)];refine hnx (g.1.length-(k+1)) _ (by omega) ⟨k+1,x,by omega,rfl,rfl,?_⟩;subst hx;exact zk5 hd c1 (by unfold zma;rw[wf0,hget];rfl) λh=>tokD_z h
 have hd2:=zjg hd (by rw[htl];exact λh=>by rw[hb.2 h]at c;cases c);clear hnx hd hb;generalize P1++zma g=P2 at hd2 eg;have hrl:(zkl g).length=g.2.1.length:=by unfold zkl;simp
 refine Tt.loop (λm s=>∃(k:Nat)(d:jc),k<=g.2.1.length/\m=g.2.1.length-k/\s=((k:Int),g,zd,d)/\d=jn (P2++(zkl g).take k)) g.2.1.length waa.fst ⟨0,d,by omega,by omega,rfl,by simpa using hd2⟩ λm s⟨k,d,hk,hm,hs,hd⟩ nx hnx=>?_;subst hs;dsimp only;refine Tt.J (λs=>∃b,s=((k:Int),b,g,zd,d)/\(b=true↔d.1=0/\k<g.2.1.length)) (λny hny=>?_) (λs⟨b,hs,hb⟩=>?_)
 ·refine wad (wab (λc1=>hny _ ⟨_,rfl,?_⟩) λc1=>hny _ ⟨_,rfl,?_⟩)
  ·have c1:=wd3 c1;simp only[wed];omega
  ·have c1:=wd4 c1;simp[c1]
 subst hs;dsimp only;refine wab (λc=>?_) (λc=>?_)
 ·obtain⟨c1,c2⟩:=hb.1 c;have hget:=wd2 c2;have hmem:=wec c2;generalize g.2.1[k]=t at hget hmem;have hnz:d=zd:=by
   have:=zg1 (l:=P2++(zkl g).take k) (by rw[<- hd];exact c1);rw[hd,this]
  refine Tt.J (λs=>∃x,s=((k:Int),g,zd,x)/\x=zsc g k t) (λny hny=>?_) (λs⟨x,hs,hx⟩=>?_)
  ·refine Tt.bind (Tt.call (zu9 g hg.toGLen) waa.fst.fst) λns hns=>?_;subst hns;have ew:T.w64 ((g.1.length:Int)+(k:Int))=((g.1.length+k:Nat):Int):=by rw[wI (by omega) (by omega)];omega
   rw[ew];have hx:(Zj g)[g.1.length+k]?=some t:=by unfold Zj;rw[wei (by simp)];simpa using hget
   have htk:(Zj g).take (g.1.length+k)=g.1.map (·.1)++g.2.1.take k:=by
    unfold Zj;rw[show g.1.length+k=(g.1.map (·.1)).length+k by simp,List.take_length_add_append]
   refine Tt.bind (Tt.call (zyr (Zj g) (by unfold Zj;simp;omega) _ t hx (hg.rm t hmem)) waa.fst.fst) λr hr=>?_;rw[htk]at hr;unfold zsc at hny;rcases hr with⟨rfl,a⟩|⟨rfl,a,b⟩|⟨rfl,a,b⟩
   ·exact waq rfl (hny _ ⟨_,rfl,by rw[if_pos a]⟩)
   ·exact waq rfl (hny _ ⟨_,rfl,by rw[if_neg (λh=>h a),if_pos b]⟩)
   ·exact wap rfl (hny _ ⟨_,rfl,by rw[if_neg (λh=>h a),if_neg b];exact hnz⟩)
  ·subst hs;refine wad ?_;dsimp only;rw[wI (by omega) (by omega)];refine hnx (g.2.1.length-(k+1)) _ (by omega) ⟨k+1,x,by omega,rfl,rfl,?_⟩;subst hx;refine zk5 hd c1 (by unfold zkl;rw[wf0,hget];rfl) λh=>?_;unfold zsc at h⊢;split at h
   ·cases h
   ·rename_i h1;rw[if_neg h1];split at h
    ·cases h
    ·rename_i h2;rw[if_neg h2]
 have hd3:=zjg hd (by rw[hrl];exact λh=>by rw[hb.2 h]at c;cases c);clear hnx hd hb hd2;generalize P2++zkl g=P3 at hd3 eg;have hpl:(zis g).length=g.2.2.1.length:=by unfold zis;simp
 refine Tt.loop (λm s=>∃(k:Nat)(d:jc),k<=g.2.2.1.length/\m=g.2.2.1.length-k/\s=((k:Int),g,zd,d)/\d=jn (P3++(zis g).take k)) g.2.2.1.length waa.fst.fst ⟨0,d,by omega,by omega,rfl,by simpa using hd3⟩ λm s⟨k,d,hk,hm,hs,hd⟩ nx hnx=>?_;subst hs;dsimp only;refine Tt.J (λs=>∃b,s=((k:Int),b,g,zd,d)/\(b=true↔d.1=0/\k<g.2.2.1.length)) (λny hny=>?_) (λs⟨b,hs,hb⟩=>?_)
 ·refine wad (wab (λc1=>hny _ ⟨_,rfl,?_⟩) λc1=>hny _ ⟨_,rfl,?_⟩)
  ·have c1:=wd3 c1;simp only[wed];omega
  ·have c1:=wd4 c1;simp[c1]
 subst hs;dsimp only;refine wab (λc=>?_) (λc=>?_)
 ·obtain⟨c1,c2⟩:=hb.1 c;have hget:=wd2 c2;refine Tt.bind (Tt.call (z8d g hg k _ hget) waa.fst.fst.fst) λx hx=>wad ?_;rw[wI (by omega) (by omega)];refine hnx (g.2.2.1.length-(k+1)) _ (by omega) ⟨k+1,x,by omega,rfl,rfl,?_⟩;subst hx;exact zk5 hd c1 (by unfold zis;rw[wf0,hget];rfl) λh=>prdD_z h
 have hd4:=zjg hd (by rw[hpl];exact λh=>by rw[hb.2 h]at c;cases c);clear hnx hd hb hd3;generalize P3++zis g=P4 at hd4 eg;refine Tt.J (λs=>∃d,s=(g,zd,d)/\d=jn (P4++[zfw g])) (λnx hnx=>?_) (λs⟨d,hs,hd5⟩=>?_)
 ·refine Tt.J (λs=>∃b,s=(b,g,zd,d)/\(b=true↔d.1=0/\(g.2.2.2.1<0\/(g.2.1.length:Int)<=g.2.2.2.1))) (λny hny=>?_) (λs⟨b,hs,hb⟩=>?_)
  ·refine wad (wab (λc1=>wad (wab (λc2=>hny _ ⟨_,rfl,?_⟩) λc2=>hny _ ⟨_,rfl,?_⟩)) λc1=>hny _ ⟨_,rfl,?_⟩)
   ·have c1:=wd3 c1;have c2:=wd3 c2;simp[c1,c2]
   ·have c1:=wd3 c1;have c2:=wd4 c2;simp only[wed];omega
   ·have c1:=wd4 c1;simp[c1]
  ·subst hs;dsimp only;refine wab (λc=>hnx _ ⟨_,rfl,?_⟩) λc=>hnx _ ⟨_,rfl,?_⟩
   ·obtain⟨c1,c2⟩:=hb.1 c;rw[q5,if_pos (by rw[<- hd4];exact c1)];unfold zfw;rw[if_pos c2];rfl
   ·by_cases c1:d.1=0
    ·have c2:¬(g.2.2.2.1<0\/(g.2.1.length:Int)<=g.2.2.2.1):=λh=>by rw[hb.2 ⟨c1,h⟩]at c;cases c
     rw[q5,if_pos (by rw[<- hd4];exact c1)];unfold zfw;rw[if_neg c2];have:=zg1 (l:=P4) (by rw[<- hd4];exact c1);rw[hd4,this];rfl
    ·rw[q5,if_neg (by rw[<- hd4];exact c1)];exact hd4
 subst hs;dsimp only;clear hd4;generalize P4++[zfw g]=P5 at hd5 eg;have hnl:(zi0 g).length=g.2.1.length:=by unfold zi0;simp
 refine Tt.loop (λm s=>∃(k:Nat)(d:jc),k<=g.2.1.length/\m=g.2.1.length-k/\s=((k:Int),g,zd,d)/\d=jn (P5++(zi0 g).take k)) g.2.1.length waa.fst.fst.fst ⟨0,d,by omega,by omega,rfl,by simpa using hd5⟩ λm s⟨k,d,hk,hm,hs,hd⟩ nx hnx=>?_;subst hs;dsimp only;refine Tt.J (λs=>∃b,s=((k:Int),b,g,zd,d)/\(b=true↔d.1=0/\k<g.2.1.length)) (λny hny=>?_) (λs⟨b,hs,hb⟩=>?_)
 ·refine wad (wab (λc1=>hny _ ⟨_,rfl,?_⟩) λc1=>hny _ ⟨_,rfl,?_⟩)
  ·have c1:=wd3 c1;simp only[wed];omega
  ·have c1:=wd4 c1;simp[c1]
 subst hs;dsimp only;refine wab (λc=>?_) (λc=>Tt.pure ?_)
 ·obtain⟨c1,c2⟩:=hb.1 c;have hget:=wd2 c2;have hnz:d=zd:=by
   have:=zg1 (l:=P5++(zi0 g).take k) (by rw[<- hd];exact c1);rw[hd,this]
  refine Tt.J (λs=>∃x,s=((k:Int),g,zd,x)/\x=zwn g k g.2.1[k]) (λny hny=>?_) (λs⟨x,hs,hx⟩=>?_)
  ·refine Tt.bind (Tt.call (refOfE g hg.toGLen (k:Int)) waa.fst.fst.fst.fst) λl hl=>?_;subst hl;unfold zwn at hny;refine wab (λc3=>hny _ ⟨_,rfl,?_⟩) λc3=>hny _ ⟨_,rfl,?_⟩
   ·have c3:=wd3 c3;rw[if_pos (by omega)]
   ·have c3:=wd4 c3;rw[if_neg (by omega)];exact hnz
  ·subst hs;refine wad ?_;dsimp only;rw[wI (by omega) (by omega)];refine hnx (g.2.1.length-(k+1)) _ (by omega) ⟨k+1,x,by omega,rfl,rfl,?_⟩;subst hx;refine zk5 hd c1 (by unfold zi0;rw[wf0,hget];rfl) λh=>?_;unfold zwn at h⊢;split at h
   ·cases h
   ·rename_i h1;rw[if_neg h1]
 ·rw[eg];exact zjg hd (by rw[hnl];exact λh=>by rw[hb.2 h]at c;cases c)
theorem at0{α:Type}(x:α)(l:List α):atL (x::l) 0=some x:=rfl
theorem sl1{α:Type}(x:α)(l:List α):zhi (x::l) (some 1) none=some l:=by
 unfold zhi bdN;simp
structure UnI(a b a' b' out:List Int):Prop where
 m:∀x,(x∈a\/x∈b)↔(x∈out\/x∈a'\/x∈b')
 l:out.length+a'.length+b'.length<=a.length+b.length
 r:qv a->qv b->qv a'/\qv b'/\qv out/\∀x∈out,(∀y∈a',x<y)/\∀y∈b',x<y
theorem zrn{l:List Int}{x:Int}(h:qv l)(hx:∀y∈l,y<x):qv (l++[x]):=by
 unfold qv at *;rw[wg7];exact⟨h,by simp,λy hy z hz=>by simp at hz;subst hz;exact hx y hy⟩
theorem z7v(a b:List Int)(hl:a.length+b.length<=1000000):Tn (λnn=>zr nn a b) (λr=>r.length<=a.length+b.length/\(∀x,x∈r↔x∈a\/x∈b)/\(qv a->qv b->qv r)):=by
 unfold zr;refine Tt.loop (λm s=>∃a' b' out,m=a'.length+b'.length/\s=(a',b',out)/\UnI a b a' b' out) (a.length+b.length) waa ⟨a,b,[],rfl,rfl,⟨λx=>by simp,by simp,λh1 h2=>⟨h1,h2,by simp[qv],by simp⟩⟩⟩ λm s⟨a',b',out,hm,hs,hI⟩ nx hnx=>?_;subst hs;have hlen:=hI.l;have hap:∀x:Int,out.length+1<=1000000->apO 8 out [x]=some (out++[x]):=λx h=>Jw (by simp;omega) (by omega);have tk1:∀{x:Int}{a1:List Int},a'=x::a1->(qv b'->∀y∈b',x<y)->UnI a b a1 b' (out++[x]):=λ{x a1}e hlt=>by
  subst e;refine⟨λz=>by rw[hI.m];simp;grind,by have:=hI.l;simp at this⊢;omega,λh1 h2=>?_⟩;obtain⟨r1,r2,r3,r4⟩:=hI.r h1 h2;have r1':=wga.1 r1;refine⟨r1'.2,r2,zrn r3 λy hy=>(r4 y hy).1 x (by simp),λz hz=>?_⟩;rcases wej.1 hz with hz|hz
  ·exact⟨λy hy=>(r4 z hz).1 y (by simp[hy]),(r4 z hz).2⟩
  ·simp at hz;subst hz;exact⟨r1'.1,hlt r2⟩
 have tk2:∀{y:Int}{b1:List Int},b'=y::b1->(qv a'->∀x∈a',y<x)->UnI a b a' b1 (out++[y]):=λ{y b1}e hlt=>by
  subst e;refine⟨λz=>by rw[hI.m];simp;grind,by have:=hI.l;simp at this⊢;omega,λh1 h2=>?_⟩;obtain⟨r1,r2,r3,r4⟩:=hI.r h1 h2;have r2':=wga.1 r2;refine⟨r1,r2'.2,zrn r3 λz hz=>(r4 z hz).2 y (by simp),λz hz=>?_⟩;rcases wej.1 hz with hz|hz
  ·exact⟨(r4 z hz).1,λx hx=>(r4 z hz).2 x (by simp[hx])⟩
  ·simp at hz;subst hz;exact⟨hlt r1,r2'.1⟩
 have tk3:∀{x:Int}{a1 b1:List Int},a'=x::a1->b'=x::b1->UnI a b a1 b1 (out++[x]):=λ{x a1 b1}e1 e2=>by
  subst e1;subst e2;refine⟨λz=>by rw[hI.m];simp;grind,by have:=hI.l;simp at this⊢;omega,λh1 h2=>?_⟩;obtain⟨r1,r2,r3,r4⟩:=hI.r h1 h2;have r1':=wga.1 r1;have r2':=wga.1 r2;refine⟨r1'.2,r2'.2,zrn r3 λz hz=>(r4 z hz).2 x (by simp),λz hz=>?_⟩;rcases wej.1 hz with hz|hz
  ·exact⟨λy hy=>(r4 z hz).1 y (by simp[hy]),λy hy=>(r4 z hz).2 y (by simp[hy])⟩
  ·simp at hz;subst hz;exact⟨r1'.1,r2'.1⟩
 have hd:∀{x y:Int}{l:List Int},x<y->qv (y::l)->∀z∈y::l,x<z:=λ{x y l}h hr z hz=>by
  have:=wga.1 hr;rcases wep.1 hz with rfl|hz
  ·exact h
  ·have:=this.1 z hz;omega
 cases a' with
 |nil=>
  cases b' with
  |nil=>
   simp[T.J,jb,ifB];refine Tt.pure ⟨by have:=hI.l;simpa using this,λx=>?_,λh1 h2=>(hI.r h1 h2).2.2.1⟩;have:=hI.m x;simp at this;exact this.symm
  |cons y b1=>
   have hn:=hap y (by simp at hlen;omega);simp[T.J,jb,ifB,at0,sl1,hn];exact hnx _ _ (by subst hm;simp) ⟨[],b1,_,rfl,rfl,tk2 rfl λ_ x hx=>by cases hx⟩
 |cons x a1=>
  cases b' with
  |nil=>
   have hn:=hap x (by simp at hlen;omega);simp[T.J,jb,ifB,at0,sl1,hn];exact hnx _ _ (by subst hm;simp) ⟨a1,[],_,rfl,rfl,tk1 rfl λ_ x hx=>by cases hx⟩
  |cons y b1=>
   have hn1:=hap x (by simp at hlen;omega);have hn2:=hap y (by simp at hlen;omega);have hz1:¬((b1.length:Int)+1=0):=by omega
   have hz2:¬((a1.length:Int)+1=0):=by omega
   have hz3:(0:Int)<(a1.length:Int)+1:=by omega
   by_cases h1:x<y
   ·simp[T.J,jb,ifB,at0,sl1,hn1,hn2,h1,hz1,hz2,hz3];exact hnx _ _ (by subst hm;simp<;>omega) ⟨a1,y::b1,_,rfl,rfl,tk1 rfl (hd h1)⟩
   ·by_cases h2:y<x
    ·simp[T.J,jb,ifB,at0,sl1,hn1,hn2,h1,h2,hz1,hz2,hz3];exact hnx _ _ (by subst hm;simp<;>omega) ⟨x::a1,b1,_,rfl,rfl,tk2 rfl (hd h2)⟩
    ·have e:x=y:=by omega
     subst e;simp[T.J,jb,ifB,at0,sl1,hn1,hz1,hz2,hz3];exact hnx _ _ (by subst hm;simp<;>omega) ⟨a1,b1,_,rfl,rfl,tk3 rfl rfl⟩
theorem ye{n k:Nat}(h:k<n):qu n (k:Int)=some (k:Int):=by
 unfold qu;simp[h]
theorem zbz{α:Type}{l:List α}{k:Nat}(x:α)(h:k<l.length):Yc l (k:Int) x=some (l.set k x):=by
 unfold Yc;simp[h]
theorem mkN{b n:Nat}(h1:n<=1000000)(h2:b<=1000):mkO b (n:Int)=some n:=by
 unfold mkO;have e1:decide ((n:Nat)<=maxLen)=true:=wfb (by simp only[maxLen];omega);have e2:decide (b*n<=281474976710656)=true:=wfb (by have:=Nat.mul_le_mul h2 h1;omega);simp[e1,e2]
def q6:List Bool->Nat
 |[]=>0
 |b::l=>(if b=true then 0 else 1)+q6 l
theorem Z8:∀{l:List Bool}{k:Nat},l[k]?=some false->q6 (l.set k true)+1=q6 l
 |[],k,h=>by simp at h
 |b::l,0,h=>by
  simp at h;subst h;simp[q6];omega
 |b::l,k+1,h=>by
  have:=Z8 (l:=l) (k:=k) (by simpa using h);simp[q6];omega
def emC(r:List Bool)(p:jf):Prop:=(∀x∈p.2.1,x.1=true/\r[x.2.1.toNat]?=some true)->r[p.1.toNat]?=some true
theorem zvk(g:ja)(x:je)(r:List Bool)(hr:r.length=g.2.1.length)(hx:zai g x):Tn (λnn=>Qp nn x r) (λb=>b=true↔x.1=true/\r[x.2.1.toNat]?=some true):=by
 unfold Qp;refine Tt.J (λb=>b=true↔x.1=true/\r[x.2.1.toNat]?=some true) (λnx hnx=>?_) (λs hs=>Tt.pure hs);refine wab (λc=>?_) (λc=>hnx _ (by simp[c]));obtain⟨h1,h2⟩:=hx;rw[if_pos c]at h2;have hl:x.2.1.toNat<r.length:=by omega
 refine wac _ (Yr h1 (wd2 hl)) (hnx _ ?_);rw[wd2 hl];simp[c]
abbrev GR(g:ja):Prop:=Tn (λnn=>v7 nn g) (λb=>b=true)
theorem z7g(g:ja)(hg:Qv g)(hR:GR g)(hok:GOk g):Tn (λnn=>vg nn g) (λr=>r.length=g.2.1.length/\∀p∈g.2.2.1,emC r p):=by
 unfold vg;refine Tt.J (λr=>r.length=g.2.1.length/\∀p∈g.2.2.1,emC r p) (λnx2 h2=>?_) (λs hs=>Tt.pure hs);refine Tt.bind (Tt.call hR waa) λb hb=>?_;subst hb;refine wap rfl ?_;have hp:=hg.p;refine wad (wac _ (mkN hg.r (by omega)) ?_);refine Tt.loop (λm s=>∃(more:Bool)(r:List Bool),m=2*q6 r+(if more=true then 1 else 0)/\s=(g.2.2.1,more,r)/\r.length=g.2.1.length/\(more=false->∀p∈g.2.2.1,emC r p)) (2*q6 (List.replicate g.2.1.length false)+1) waa ⟨true,_,rfl,rfl,by simp,λh=>by cases h⟩ λm s⟨more,r,hm,hs,hl,hcl⟩ nx hnx=>?_;subst hs;dsimp only;refine wab (λc=>?_) (λc=>h2.fst _ ⟨hl,hcl c⟩);subst c;rw[if_pos rfl]at hm;refine Tt.loop (λm s=>∃(k:Nat)(more:Bool)(r1:List Bool),k<=g.2.2.1.length/\m=g.2.2.1.length-k/\s=(g.2.2.1,more,g.2.2.1,(g.2.2.1.length:Int),(k:Int),r1)/\r1.length=g.2.1.length/\(more=true->q6 r1<q6 r)/\(more=false->r1=r/\∀i,i<k->∀p,g.2.2.1[i]?=some p->emC r p)) g.2.2.1.length waa.fst ⟨0,false,r,by omega,by omega,rfl,hl,λh=>(by cases h),λ_=>⟨rfl,λi hi=>by omega⟩⟩ λm2 s⟨k,more,r1,hk,hm2,hs,hl1,ht,hf⟩ ny hny=>?_;subst hs;dsimp only;refine wab (λc=>?_) (λc=>?_)
 ·have c:=wd3 c;have hlt:k<g.2.2.1.length:=by omega
  have hmem:g.2.2.1[k]∈g.2.2.1:=wec hlt;refine wac _ (atN hlt) ?_;have egp:g.2.2.1[k]?=some g.2.2.1[k]:=wd2 hlt;obtain⟨p,ep⟩:∃p,g.2.2.1[k]=p:=⟨_,rfl⟩
  rw[ep]at hmem egp⊢;obtain⟨l0,l1⟩:=hok.left p hmem;have hit:=hok.items p hmem;have hpl:=hok.len p hmem;obtain⟨q,hq⟩:∃q:Nat,p.1=q:=⟨p.1.toNat,by omega⟩
  have hql:q<r1.length:=by omega
  refine Tt.J (λs=>∃(more:Bool)(r1:List Bool),s=(g.2.2.1,more,g.2.2.1,(g.2.2.1.length:Int),(k:Int),r1)/\r1.length=g.2.1.length/\(more=true->q6 r1<q6 r)/\(more=false->r1=r/\∀i,i<k+1->∀p,g.2.2.1[i]?=some p->emC r p)) (λnz hnz=>?_) (λs⟨more,r1,hs,hl1,ht,hf⟩=>?_)
  ·have keep:emC r1 p->(more=false->r1=r/\∀i,i<k+1->∀p,g.2.2.1[i]?=some p->emC r p):=λhe hmf=>by
    obtain⟨e1,e2⟩:=hf hmf;refine⟨e1,λi hi x hx=>?_⟩;by_cases hik:i<k
    ·exact e2 i hik x hx
    ·have:i=k:=by omega
     subst this;rw[egp]at hx;cases hx;rw[<- e1];exact he
   rw[hq];refine wac _ (ye hql) (wac _ (atN hql) ?_);refine wab (λc=>hnz _ ⟨more,r1,rfl,hl1,ht,keep λ_=>?_⟩) (λc=>?_)
   ·rw[hq,wem,wd2 hql,c]
   ·have hqf:r1[q]?=some false:=by rw[wd2 hql,c]
    refine Tt.loop (λm s=>∃i:Nat,i<=p.2.1.length/\m=p.2.1.length-i/\s=(p.2.1,(p.2.1.length:Int),(i:Int),r1,p)) p.2.1.length waa.fst.fst ⟨0,by omega,by omega,rfl⟩ λm3 s⟨i,hi,hm3,hs⟩ nw hnw=>?_;subst hs;dsimp only;refine wab (λc=>?_) (λc=>?_)
    ·have c:=wd3 c;have hil:i<p.2.1.length:=by omega
     have hxm:p.2.1[i]∈p.2.1:=wec hil;refine wac _ (atN hil) (Tt.bind (Tt.call (zvk g _ r1 hl1 (hit _ hxm)) waa.fst.fst.fst) λb hb=>?_);refine wab (λcb=>hnz.fst _ ⟨more,r1,rfl,hl1,ht,keep λhall=>?_⟩) (λ_=>wad ?_)
     ·have:=hb.2 (hall _ hxm);rw[this]at cb;cases cb
     ·rw[wI (by omega) (by omega)];exact hnw (p.2.1.length-(i+1)) _ (by omega) ⟨i+1,by omega,rfl,by simp⟩
    ·rw[hq];refine wac _ (ye hql) (wac _ (zbz true hql) (hnz.fst _ ⟨true,_,rfl,by simpa using hl1,λ_=>?_,λh=>by cases h⟩));have:=Z8 hqf;cases hmo:more with
     |true=>have:=ht hmo;omega
     |false=>have:=(hf hmo).1;subst this;omega
  ·subst hs;dsimp only;refine wad ?_;rw[wI (by omega) (by omega)];exact hny (g.2.2.1.length-(k+1)) _ (by omega) ⟨k+1,more,r1,by omega,rfl,by simp,hl1,ht,hf⟩
 ·have c:=wd4 c;cases hmo:more with
  |true=>
   have:=ht hmo;exact Tt.fst (hnx (2*q6 r1+1) _ (by omega) ⟨true,r1,rfl,rfl,hl1,λh=>by cases h⟩)
  |false=>
   obtain⟨e1,e2⟩:=hf hmo;subst e1;exact Tt.fst (hnx (2*q6 r1) _ (by omega) ⟨false,r1,rfl,rfl,hl1,λ_ p hp=>by
    obtain⟨i,hi⟩:=wes hp;exact e2 i (by have:=(wd5.1 hi).1;omega) p hi⟩)
theorem z4b(N:Int):∀(l:List Int)(lo:Int),qv l->(∀x∈l,lo<=x/\x<N)->(l.length:Int)<=max 0 (N-lo)
 |[],lo,_,_=>by simp;omega
 |x::l,lo,hr,hb=>by
  have h1:=wga.1 hr;have hx:=hb x (by simp);have:=z4b N l (x+1) h1.2 λy hy=>⟨by have:=h1.1 y hy;omega,(hb y (by simp[hy])).2⟩
  simp only[we2];omega
theorem z1x(l:List Int)(h:qv l)(N:Nat)(hb:∀x∈l,0<=x/\x<(N:Int)):l.length<=N:=by
 have:=z4b N l 0 h hb;omega
structure RN(n:Nat)(l:List Int):Prop where
 r:qv l
 b:∀x∈l,0<=x/\x<n
theorem RN.len{n:Nat}{l:List Int}(h:RN n l):l.length<=n:=z1x l h.r n h.b
theorem RN.nil(n:Nat):RN n []:=⟨by simp[qv],by simp⟩
def inF(em:List Bool)(al:List (List Int))(t:Int):List je->Prop
 |[]=>False
 |x::l=>if x.1=true then t∈al.getD x.2.1.toNat []\/(em.getD x.2.1.toNat false=true/\inF em al t l)else t=x.2.1
theorem zb2{n:Nat}{a b:List Int}(hn:n<=1000)(ha:RN n a)(hb:RN n b):Tn (λnn=>Vi nn a b) (λr=>RN n r/\∀x,x∈r↔x∈a\/x∈b):=by
 have h1:=ha.len;have h2:=hb.len;refine Tt.mono (z7v a b (by omega):Tn (λnn=>Vi nn a b) _) λr⟨_,k2,k3⟩=>⟨⟨k3 ha.r hb.r,λx hx=>?_⟩,k2⟩
 rcases(k2 x).1 hx with h|h
 ·exact ha.b x h
 ·exact hb.b x h
theorem z8v(g:ja)(hok:GOk g)(em:List Bool)(al:List (List Int))(he:em.length=g.2.1.length)(ha:al.length=g.2.1.length)(hal:∀l∈al,RN g.1.length l)(its:List je)(hl:its.length<=1000)(hit:∀x∈its,zai g x):
  Tn (λnn=>Jn nn (some (em,al,())) its) (λr=>RN g.1.length r/\∀t,t∈r↔inF em al t its):=by
 have ht:=hok.t;unfold Jn Vo;refine Tt.J (λr=>RN g.1.length r/\∀t,t∈r↔inF em al t its) (λnx2 h2=>?_) (λs hs=>Tt.pure hs);refine Tt.loop (λm s=>∃(k:Nat)(out:List Int),k<=its.length/\m=its.length-k/\s=(some (em,al,()),its,(its.length:Int),(k:Int),out)/\RN g.1.length out/\∀t,inF em al t its↔t∈out\/inF em al t (its.drop k)) its.length waa ⟨0,[],by omega,by omega,rfl,RN.nil _,λt=>by simp⟩ λm s⟨k,out,hk,hm,hs,hr,hin⟩ nx hnx=>?_;subst hs;dsimp only;refine wab (λc=>?_) (λc=>h2.fst _ ⟨hr,λt=>?_⟩)
 ·have c:=wd3 c;have hlt:k<its.length:=by omega
  have hxm:its[k]∈its:=wec hlt;have hdr:its.drop k=its[k]::its.drop (k+1):=we7 hlt;refine wac _ (atN hlt) ?_;obtain⟨x,ex⟩:∃x,its[k]=x:=⟨_,rfl⟩
  rw[ex]at hxm hdr⊢;rw[hdr]at hin;obtain⟨i1,i2⟩:=hit x hxm;refine wab (λcx=>?_) (λcx=>?_)
  ·have cx:x.1=false:=by simpa using cx
   rw[cx]at i2;simp only[we4,if_false]at i2;refine Tt.bind (Tt.call (zb2 (n:=g.1.length) (by omega) hr ⟨by simp[qv],λy hy=>by simp at hy;subst hy;exact⟨i1,i2⟩⟩) waa.fst) λr⟨k1,k2⟩=>Tt.pure ⟨k1,λt=>?_⟩;rw[k2,hin];simp[inF,cx]
  ·have cx:x.1=true:=by simpa using cx
   rw[cx,if_pos rfl]at i2;have hla:x.2.1.toNat<al.length:=by omega
   have hle:x.2.1.toNat<em.length:=by omega
   refine wad (wac _ (Yr i1 (wd2 hla)) ?_);refine Tt.bind (Tt.call (zb2 (n:=g.1.length) (by omega) hr (hal _ (wec hla))) waa.fst) λr⟨k1,k2⟩=>?_;refine wad (wac _ (Yr i1 (wd2 hle)) ?_);have e1:al.getD x.2.1.toNat []=al[x.2.1.toNat]:=by simp[List.getD,hla]
   have e2:em.getD x.2.1.toNat false=em[x.2.1.toNat]:=by simp[List.getD,hle]
   refine wab (λce=>h2.fst _ ⟨k1,λt=>?_⟩) (λce=>wad ?_)
   ·have ce:em[x.2.1.toNat]=false:=by simpa using ce
    rw[k2,hin];simp[inF,cx,List.getD,hla,hle,ce]
   ·have ce:em[x.2.1.toNat]=true:=by simpa using ce
    rw[wI (by omega) (by omega)];refine hnx (its.length-(k+1)) _ (by omega) ⟨k+1,r,by omega,rfl,by simp,k1,λt=>?_⟩;rw[hin,k2];simp[inF,cx,List.getD,hla,hle,ce,or_assoc]
 ·have c:=wd4 c;have hke:k=its.length:=by omega
  rw[hin,hke,wf2];simp[inF]
end Go.Proofs.YtdllbdlnmjngcaaGreat.T
