/-
  Texts of this proof, put together: E1, Qa, Qb, Qc, Qd, Qe, Ya, Yb, Yc, Yd, Qf, Qg, Qh, Qi, Qj, Qk.
-/
import Derived.Lib.RuneCount
import Derived.Test.YtdllbdlnmjngcaaGreatQ4AcceptBound

namespace Go.Proofs.YtdllbdlnmjngcaaGreat.T
set_option maxRecDepth 100000
set_option maxHeartbeats 8000000
set_option linter.unusedVariables false
set_option linter.unusedSimpArgs false
open Go Go.RowKit L
abbrev I6:Ty :=.int .i64
abbrev U8:Ty :=.int .u8
abbrev L6:Ty :=.sl I6
abbrev M6:Ty :=.sl L6
abbrev LB:Ty :=.sl .bool
noncomputable def h0:=lk (α:=HK) []
set_option maxRecDepth 100000
abbrev Y_api_Rx:Ty:=(.st (.cons I6 (.cons (.arr 4 (.int .u64)) .nil)))
abbrev jc:=(Int×(Arr 4 Int)×Unit)
abbrev Y_api_Token:Ty:=(.st (.cons .str (.cons (.sl Y_api_Rx) (.cons I6 .nil))))
abbrev jv:=((List UInt8)×(List jc)×Int×Unit)
abbrev Y_api_Item:Ty:=(.st (.cons .bool (.cons I6 (.cons I6 (.cons I6 .nil)))))
abbrev jm:=(Bool×Int×Int×Int×Unit)
abbrev Y_api_Prod:Ty:=(.st (.cons I6 (.cons (.sl Y_api_Item) .nil)))
abbrev ji:=(Int×(List jm)×Unit)
abbrev Y_api_Grammar:Ty:=(.st (.cons (.sl Y_api_Token) (.cons (.sl .str) (.cons (.sl Y_api_Prod) (.cons I6 (.cons I6 (.cons I6 (.cons I6 (.cons I6 .nil)))))))))
abbrev jb:=((List jv)×(List (List UInt8))×(List ji)×Int×Int×Int×Int×Int×Unit)
abbrev jo:Ty:=(.st (.cons I6 (.cons I6 (.cons I6 .nil))))
abbrev jd:=(Int×Int×Int×Unit)
abbrev Y_api_Dfa:Ty:=(.st (.cons (.arr 256 U8) (.cons I6 (.cons M6 (.cons L6 .nil)))))
abbrev D_api_Dfa:=((Arr 256 Int)×Int×(List (List Int))×(List Int)×Unit)
abbrev qc:Ty:=(.st (.cons Y_api_Grammar (.cons jo .nil)))
abbrev jw:=(jb×jd×Unit)
abbrev zba:Ty:=(.st (.cons LB (.cons M6 .nil)))
abbrev za8:=((List Bool)×(List (List Int))×Unit)
abbrev J4:Ty:=(.st (.cons Y_api_Grammar (.cons Y_api_Dfa (.cons M6 .nil))))
abbrev Jx:=(jb×D_api_Dfa×(List (List Int))×Unit)
abbrev jh:Ty:=(.st (.cons .bool (.cons I6 (.cons I6 (.cons .bool (.cons (.arr 4 (.int .u64)) (.cons (.arr 4 (.int .u64)) .nil)))))))
abbrev jg:=(Bool×Int×Int×Bool×(Arr 4 Int)×(Arr 4 Int)×Unit)
abbrev z0w:Ty:=(.st (.cons L6 (.cons L6 (.cons .bool .nil))))
abbrev z2n:=((List Int)×(List Int)×Bool×Unit)
abbrev vm:Ty:=(.st (.cons z0w (.cons I6 .nil)))
abbrev qu:=(z2n×Int×Unit)
abbrev zub:Ty:=(.st (.cons (.sl (.arr 4 (.int .u64))) (.cons M6 (.cons vm .nil))))
abbrev zr3:=((List (Arr 4 Int))×(List (List Int))×qu×Unit)
abbrev jj:Ty:=(.st (.cons (.sl (.arr 4 (.int .u64))) (.cons L6 (.cons LB (.cons M6 (.cons L6 .nil))))))
abbrev je:=((List (Arr 4 Int))×(List Int)×(List Bool)×(List (List Int))×(List Int)×Unit)
abbrev Ql:Ty:=(.st (.cons U8 (.cons .bool .nil)))
abbrev v7:=(Int×Bool×Unit)
noncomputable def zt0:ZT:=lk (α:=List TS) [(3,[.c (.int .i64 0)]),(4,[.c (.bool false)]),(26,[.c (.slice none 0 0),.c (.slice none 0 0),.c (.slice none 0 0),.c (.int .i64 0),.c (.int .i64 0),.c (.int .i64 0),.c (.int .i64 0),.c (.int .i64 0)]),(29,[.v ⟨(.arr 256 U8),⟨List.replicate 256 0,wd2⟩⟩]),(30,[.c (.slice none 0 0)]),(31,[.c (.slice none 0 0)]),(33,[.v ⟨(.arr 256 U8),⟨List.replicate 256 0,wd2⟩⟩,.c (.int .i64 0),.c (.slice none 0 0),.c (.slice none 0 0)]),(36,[.c (.int .i64 0),.c (.int .i64 0),.c (.int .i64 0)]),(42,[.c (.slice none 0 0)]),(48,[.c (.string ⟨#[]⟩),.c (.slice none 0 0),.c (.int .i64 0)]),(54,[.c (.bool false),.c (.int .i64 0),.c (.int .i64 0),.c (.int .i64 0)]),(61,[.c (.slice none 0 0),.c (.slice none 0 0),.c (.slice none 0 0),.c (.slice none 0 0),.c (.slice none 0 0)]),(66,[.c (.int .i64 0),.c (.slice none 0 0)]),(69,[.c (.slice none 0 0),.c (.slice none 0 0),.c (.slice none 0 0),.c (.int .i64 0),.c (.int .i64 0),.c (.int .i64 0),.c (.int .i64 0),.c (.int .i64 0),.v ⟨(.arr 256 U8),⟨List.replicate 256 0,wd2⟩⟩,.c (.int .i64 0),.c (.slice none 0 0),.c (.slice none 0 0),.c (.slice none 0 0)]),(74,[.c .nilFunc]),(97,[.v ⟨(.arr 4 (.int .u64)),⟨List.replicate 4 0,wd2⟩⟩]),(126,[.c (.int .i64 0),.v ⟨(.arr 4 (.int .u64)),⟨List.replicate 4 0,wd2⟩⟩]),(134,[.c (.slice none 0 0),.c (.slice none 0 0),.c (.slice none 0 0),.c (.int .i64 0),.c (.int .i64 0),.c (.int .i64 0),.c (.int .i64 0),.c (.int .i64 0),.c (.int .i64 0),.c (.int .i64 0),.c (.int .i64 0)]),(136,[.c .nilFunc]),(167,[.v ⟨(.arr 3 I6),⟨List.replicate 3 0,wd2⟩⟩]),(173,[.c (.bool false),.c (.int .i64 0),.c (.int .i64 0),.c (.bool false),.v ⟨(.arr 4 (.int .u64)),⟨List.replicate 4 0,wd2⟩⟩,.v ⟨(.arr 4 (.int .u64)),⟨List.replicate 4 0,wd2⟩⟩]),(175,[.c (.map none)]),(183,[.c (.slice none 0 0),.c (.slice none 0 0),.c (.slice none 0 0),.c (.slice none 0 0)]),(203,[.c (.slice none 0 0),.c (.slice none 0 0),.c (.bool false)]),(205,[.c (.slice none 0 0),.c (.slice none 0 0),.c (.bool false),.c (.int .i64 0)]),(207,[.c (.slice none 0 0),.c (.slice none 0 0),.c (.slice none 0 0),.c (.slice none 0 0),.c (.bool false),.c (.int .i64 0)]),(211,[.c (.pointer none)]),(214,[.c (.slice none 0 0),.c (.slice none 0 0)]),(220,[.c .nilFunc,.c .nilFunc,.c .nilFunc]),(223,[.c (.int .u8 0),.c (.bool false)]),(230,[.c (.slice none 0 0)]),(247,[.c (.int .u64 0)])]
theorem jde:zed Tryz.prog zt0:=zc (by kernel_rfl) (by kernel_rfl) (by kernel_rfl)<|zc (by kernel_rfl) (by kernel_rfl) (by kernel_rfl)<|zc (by kernel_rfl) (by kernel_rfl) (by kernel_rfl)<|zc (by kernel_rfl) (by kernel_rfl) (by kernel_rfl)<|zc (by kernel_rfl) (by kernel_rfl) (by kernel_rfl)<|zc (by kernel_rfl) (by kernel_rfl) (by kernel_rfl)<|zc (by kernel_rfl) (by kernel_rfl) (by kernel_rfl)<|zc (by kernel_rfl) (by kernel_rfl) (by kernel_rfl)<|zc (by kernel_rfl) (by kernel_rfl) (by kernel_rfl)<|zc (by kernel_rfl) (by kernel_rfl) (by kernel_rfl)<|zc (by kernel_rfl) (by kernel_rfl) (by kernel_rfl)<|zc (by kernel_rfl) (by kernel_rfl) (by kernel_rfl)<|zc (by kernel_rfl) (by kernel_rfl) (by kernel_rfl)<|zc (by kernel_rfl) (by kernel_rfl) (by kernel_rfl)<|zc (by kernel_rfl) (by kernel_rfl) (by kernel_rfl)<|zc (by kernel_rfl) (by kernel_rfl) (by kernel_rfl)<|zc (by kernel_rfl) (by kernel_rfl) (by kernel_rfl)<|zc (by kernel_rfl) (by kernel_rfl) (by kernel_rfl)<|zc (by kernel_rfl) (by kernel_rfl) (by kernel_rfl)<|zc (by kernel_rfl) (by kernel_rfl) (by kernel_rfl)<|zc (by kernel_rfl) (by kernel_rfl) (by kernel_rfl)<|zc (by kernel_rfl) (by kernel_rfl) (by kernel_rfl)<|zc (by kernel_rfl) (by kernel_rfl) (by kernel_rfl)<|zc (by kernel_rfl) (by kernel_rfl) (by kernel_rfl)<|zc (by kernel_rfl) (by kernel_rfl) (by kernel_rfl)<|zc (by kernel_rfl) (by kernel_rfl) (by kernel_rfl)<|zc (by kernel_rfl) (by kernel_rfl) (by kernel_rfl)<|zc (by kernel_rfl) (by kernel_rfl) (by kernel_rfl)<|zc (by kernel_rfl) (by kernel_rfl) (by kernel_rfl)<|zc (by kernel_rfl) (by kernel_rfl) (by kernel_rfl)<|zc (by kernel_rfl) (by kernel_rfl) (by kernel_rfl)<|zc (by kernel_rfl) (by kernel_rfl) (by kernel_rfl)<|zn
noncomputable def zt2:ZT:=λt=>cond (Nat.beq t 167) (some [.c (.int .i64 0),.c (.int .i64 0),.c (.int .i64 0)]) (zt0 t)
theorem zt2_ok:zed Tryz.prog zt2:=λt xs h=>by
 unfold zt2 at h;refine jep h (λe h=>?_) λh=>?_
 ·subst e;cases h;exact⟨(zgw Tryz.prog 167).getD [],by kernel_rfl,by kernel_rfl,wb0 (by kernel_rfl)⟩
 exact jde t xs h
noncomputable def zy0:ZY:=λt=>cond (Nat.beq t 3) (some ⟨I6,0⟩) (cond (Nat.beq t 4) (some ⟨.bool,false⟩) (cond (Nat.beq t 5) (some ⟨U8,0⟩) (cond (Nat.beq t 31) (some ⟨L6,[]⟩) (none))))
def zj1:Ty.D .str->Ty.D .str->Bool:=λa b=>a == b
theorem jhg:zk9 Tryz.prog 9 (oV .str) zj1:=klawT (by kernel_rfl)
def jck(a:Ty.D Ql):Array Value:=#[.int .u8 a.1,.bool a.2.1]
def zrw(a b:Ty.D Ql):List Bool:=[a.1 == b.1,a.2.1 == b.2.1]
def J0(a b:Ty.D Ql):Bool:=(zrw a b).all id
theorem z9l:zk9 Tryz.prog 223 (oV Ql) J0:=ji0 (kc:=jck) (eb:=zrw) (0,false,()) (λa b=>by kernel_rfl) (λa b h=>by
 simp[zrw]at h;exact Prod.ext h.1 (Prod.ext h.2 rfl)) (λa=>by simp[jck,Instr.sameBits])
noncomputable def ky0:TypeId->Option KY:=λk=>cond (Nat.beq k 9) (some ⟨.str,zj1⟩) (cond (Nat.beq k 223) (some ⟨Ql,J0⟩) (none))
theorem ky0_ok:jch Tryz.prog ky0:=λk x h=>by
 simp only[ky0]at h;refine jep h (λe h=>?_) λh=>?_
 ·subst e;cases h;exact⟨rfl,jhg⟩
 refine jep h (λe h=>?_) λh=>?_
 ·subst e;cases h;exact⟨rfl,z9l⟩
 cases h
noncomputable def cf0:Cfg:=⟨zt0,zt2,zy0,ky0⟩
theorem zg2:jds cf0:=⟨jde,zt2_ok,ky0_ok⟩
theorem mk1:type_of% (@mkP cf0 zg2):=no_implicit_lambda% (@mkP cf0 zg2)
theorem mk2:type_of% (@mkF cf0 zg2):=no_implicit_lambda% (@mkF cf0 zg2)
theorem mk3:type_of% (@mkR cf0 zg2):=no_implicit_lambda% (@mkR cf0 zg2)
theorem mk4:type_of% (@mkS cf0 zg2):=no_implicit_lambda% (@mkS cf0 zg2)
noncomputable def Vy(nn:Nat)(a0:(List jv)):Option (List (List UInt8)):=jl (σ:=(List jv)×Int×Int×(List (List UInt8))) (λ(a,b,c,d)e=>ifB (decide (c<b)) (ja (atL a c) λf=>ja (apO 16 d [f.1]) λg=>ja (some (w64 (c+1))) λh=>e (a,b,h,g)) (some d)) nn (a0,(a0.length:Int),0,[])
noncomputable def zyi:=lk (α:=HK) [(58,me [vo 3 0,(6,.v (.sl Y_api_Token)),vi 7,vi 8] [.row 9 .str] 1)]
theorem zgk(nn:Nat):FFOk 142 ⟨[(.sl Y_api_Token)],9,.str,λt=>Vy nn t⟩:=mk2 Tryz.func142 nn 0 [(0,[17])] [(0,[(15,.told .str)])] [] [] itn zyi rn gn tn (by kernel_rfl) λt=>by kernel_rfl
noncomputable abbrev zme:=Vy
theorem zps(nn:Nat):jz 142 ⟨[(.sl Y_api_Token)],(.sl .str),λt=>Vy nn t⟩:=(zgk nn).pure
noncomputable def zdw(nn:Nat)(a0:Int):Option Int:=J (σ:=Int×Bool) (λ(a,b)=>ifB b (some 2) (J (λ(d:Bool)=>ifB d (some 1) (some 0)) λe=>ja (some (decide (48<=a))) λf=>ifB f (e (decide (a<=57))) (e false))) λc=>J (σ:=Int×Bool) (λ(g,h)=>ifB h (c (g,h)) (J (σ:=Int×Bool) (λ(j,k)=>ifB k (c (j,k)) (ja (some (decide (j=95))) λm=>c (j,m))) λl=>ja (some (decide (65<=g))) λn=>ifB n (l (g,decide (g<=90))) (l (g,false)))) λi=>ja (some (decide (97<=a0))) λo=>ifB o (i (a0,decide (a0<=122))) (i (a0,false))
noncomputable def z3l:=lk (α:=HK) [(12,me [(0,.v (.int .i32)),vb 3] [] 0),(48,me [(0,.v (.int .i32)),vb 3] [] 0),(102,me [vb 18] [] 0),(198,me [(0,.v (.int .i32)),vb 3] [] 0)]
theorem zru(nn:Nat):jz 206 ⟨[(.int .i32)],I6,λt=>zdw nn t⟩:=mk1 Tryz.func206 nn 0 [(0,[5,11,17,20])] [] [] [] itn z3l rn gn tn (by kernel_rfl) λt=>by kernel_rfl
noncomputable def zb3(nn:Nat)(a0:(List UInt8)):Option Bool:=jl (σ:=(List UInt8)×((List UInt8)×Int×Unit)) (λ(a,b)c=>ifB (zhg b.1 b.2.1) (ja (zdw nn (zx8 b.1 b.2.1)) λd=>J (σ:=(List UInt8)×Bool×((List UInt8)×Int×Unit)) (λ(e,f,g)=>ifB f (some false) (c (e,g))) λh=>ja (some (decide (d=0))) λi=>ifB i (h (a,true,(b.1,zho b.1 b.2.1,()))) (ja (some (decide (d=1))) λj=>ifB j (h (a,decide ((z7u b.2.1)=0),(b.1,zho b.1 b.2.1,()))) (h (a,false,(b.1,zho b.1 b.2.1,()))))) (J (λ(k:Bool)=>some k) λl=>ja (some (!(a == []))) λm=>ifB m (l (decide ((a.length:Int)<=32))) (l false))) nn (a0,(a0,0,()))
noncomputable def z2d:=lk (α:=HK) [(14,me [vb 2] [] 0),(26,me [(0,.v .str),vo 7 0] [.obj .si] 1),(3382,me [(0,.v .str),vo 7 0,vb 23] [.obj .si] 1)]
theorem zs6(nn:Nat):jz 183 ⟨[.str],.bool,λt=>zb3 nn t⟩:=mk1 Tryz.func183 nn 0 [(0,[15,18,25])] [] [] [] itn z2d rn gn (tc (zru nn) tn) (by kernel_rfl) λt=>by kernel_rfl
noncomputable def yg(nn:Nat)(a0:(List (List UInt8)))(a1:(List UInt8)):Option Int:=jl (σ:=(List (List UInt8))×(List UInt8)×Int×Int) (λ(a,b,c,d)e=>ifB (decide (d<c)) (ja (atL a d) λf=>ifB (b == f) (some d) (ja (some (w64 (d+1))) λg=>e (a,b,c,g))) (some (-1))) nn (a0,a1,(a0.length:Int),0)
noncomputable def zaf:=lk (α:=HK) [(26,me [(0,.v (.sl .str)),(1,.v .str),vi 7,vi 8] [] 0)]
theorem Y5(nn:Nat):jz 207 ⟨[(.sl .str),.str],I6,λt=>yg nn (t.1) (t.2)⟩:=mk1 Tryz.func207 nn 0 [(0,[18])] [] [] [] itn zaf rn gn tn (by kernel_rfl) λt=>by kernel_rfl
noncomputable def zby(nn:Nat)(a0:(List (List UInt8)))(a1:(List UInt8)):Option Int:=ja (yg nn a0 a1) λa=>some a
theorem zre(nn:Nat):jz 184 ⟨[(.sl .str),.str],I6,λt=>zby nn (t.1) (t.2)⟩:=mk1 Tryz.func184 nn 0 [] [] [] [] itn h0 rn gn (tc (Y5 nn) tn) (by kernel_rfl) λt=>by kernel_rfl
noncomputable def zkn(nn:Nat)(a0:jc):Option (Int×Bool×Unit):=J (λ(a:Unit)=>some (0,false,())) λb=>J (λ(c:Int)=>some (c,true,())) λd=>J (λ(e:Int)=>ja (some (w64 (e+1))) λg=>d g) λf=>J (σ:=Int×Int×Bool) (λ(h,i,j)=>ifB j (ja (some (w64 (h+1))) λl=>f l) (J (σ:=Int×Int×Bool) (λ(m,n,o)=>ifB o (f m) (J (σ:=Int×Bool) (λ(q,r)=>ifB r (d q) (b ())) λs=>ja (some (decide (n=1))) λu=>ifB u (s (m,u)) (ja (some (decide (n=2))) λv=>s (m,v)))) λp=>ja (some (decide (i=5))) λw=>ifB w (p (h,i,w)) (ja (some (decide (i=6))) λx=>ifB x (p (h,i,x)) (ja (some (decide (i=7))) λy=>p (h,i,y))))) λk=>ja (some (decide (a0.1=3))) λz=>ifB z (k (0,a0.1,z)) (ja (some (decide (a0.1=4))) λb0=>k (0,a0.1,b0))
noncomputable def jgu:=lk (α:=HK) [(29,me [] [] 0),(116,me [vi 4] [] 0),(464,me [vi 4] [] 0),(14848,me [vi 4,vi 6,vb 7] [] 0),(29698,me [vi 4,vi 6,vb 10] [] 0),(29699,me [vi 4,vb 14] [] 0)]
theorem z5v(nn:Nat):jz 208 ⟨[Y_api_Rx],(.tup (.cons I6 (.cons .bool .nil))),λt=>zkn nn t⟩:=mk1 Tryz.func208 nn 0 [(0,[8,9,11,12,13,15,16,18,20])] [] [] [] itn jgu rn gn tn (by kernel_rfl) λt=>by kernel_rfl
noncomputable def zc1(nn:Nat)(a0:(List jc)):Option (Int×Int×Int×Unit):=ifB (decide (512<(a0.length:Int))) (some (0,0,4,())) (jl (σ:=Int×Int×(List jc)×Int×Int) (λ(a,b,c,d,e)f=>ifB (decide (e<d)) (ja (atL c e) λg=>ja (zkn nn g) λh=>J (σ:=Int×Int×Int×(List jc)×Int×Int×Bool) (λ(i,j,k,l,m,n,o)=>ifB o (some (0,0,1,())) (ifB (decide (i<k)) (some (0,0,3,())) (ja (some (w64 (i+(w64 (1-k))))) λq=>ja (some (max j q)) λr=>ja (some (w64 (n+1))) λs=>f (q,r,l,m,s)))) λp=>ja (some (!h.2.1)) λu=>ifB u (p (a,b,h.1,c,d,e,u)) (J (σ:=Int×Int×Int×(List jc)×Int×Int×Bool) (λ(v,w,x,y,z,b0,b1)=>p (v,w,x,y,z,b0,b1)) λb2=>ja (some (decide (¬g.1=1))) λb3=>ifB b3 (b2 (a,b,h.1,c,d,e,!(g.2.1.l == (⟨List.replicate 4 0,wd2⟩:Arr 4 Int).l))) (b2 (a,b,h.1,c,d,e,false)))) (some (a,b,0,()))) nn (0,0,a0,(a0.length:Int),0))
noncomputable def z8l:=lk (α:=HK) [(122,me [vi 5,vi 6,(14,.v (.sl Y_api_Rx)),vi 15,vi 16] [] 0),(62668,me [vi 5,vi 6,vi 9,(14,.v (.sl Y_api_Rx)),vi 15,vi 16,vb 25] [] 0),(501347,me [vi 5,vi 6,vi 9,(14,.v (.sl Y_api_Rx)),vi 15,vi 16,vb 25] [] 0)]
theorem zy9(nn:Nat):jz 185 ⟨[(.sl Y_api_Rx)],(.tup (.cons I6 (.cons I6 (.cons I6 .nil)))),λt=>zc1 nn t⟩:=mk1 Tryz.func185 nn 0 [(0,[27,30,44,47,48])] [] [] [] itn z8l rn gn (tc (z5v nn) tn) (by kernel_rfl) λt=>by kernel_rfl
noncomputable def Vv(nn:Nat)(a0:(List jc)):Option Int:=ja (zc1 nn a0) λa=>J (σ:=Int×Bool) (λ(b,c)=>ifB c (some 3) (some b)) λd=>ja (some (decide (a.2.2.1=0))) λe=>ifB e (d (a.2.2.1,decide (¬a.1=1))) (d (a.2.2.1,false))
noncomputable def z5c:=lk (α:=HK) [(28,me [vi 5,vb 17] [] 0)]
theorem zeh(nn:Nat):jz 144 ⟨[(.sl Y_api_Rx)],I6,λt=>Vv nn t⟩:=mk1 Tryz.func144 nn 0 [(0,[13])] [] [] [] itn z5c rn gn (tc (zy9 nn) tn) (by kernel_rfl) λt=>by kernel_rfl
noncomputable def Jv(nn:Nat)(a0:(Option jw))(a1:jm):Option Int:=ja (a0) λa=>J (σ:=(Option jw)×Int×jm) (λ(b,c,d)=>J (σ:=(Option jw)×Bool×jm) (λ(f,g,h)=>ifB g (some 11) (J (σ:=Bool×jm) (λ(j,k)=>ifB j (some 12) (J (λ(m:Bool)=>ifB m (some 2) (some 0)) λn=>ja (some (decide (k.2.2.1<0))) λo=>ifB o (n true) (ifB (decide (2<k.2.2.1)) (n true) (ifB (decide (k.2.2.2.1<0)) (n true) (n (decide (8<k.2.2.2.1))))))) λl=>ja (some (!h.1)) λp=>ifB p (ja (f) λq=>ja (atL q.1.1 h.2.1) λr=>l (decide (¬r.2.2.1=0),h)) (l (false,h)))) λi=>ja (some (decide (d.2.1<0))) λs=>ifB s (i (b,true,d)) (i (b,decide (c<=d.2.1),d))) λe=>ifB a1.1 (ja (a0) λu=>e (a0,(u.1.2.1.length:Int),a1)) (e (a0,(a.1.1.length:Int),a1))
noncomputable def zg0:=lk (α:=HK) [(7,me [(0,.v (.ref qc)),vp 3 0,vi 5] [.box 54 [.v Y_api_Item]] 1),(120,me [(0,.v (.ref qc)),vp 3 0,vb 20] [.box 54 [.v Y_api_Item]] 1),(486,me [vp 3 0,vb 30] [.box 54 [.v Y_api_Item]] 1),(1950,me [vb 47] [] 0)]
theorem zel(nn:Nat):jz 145 ⟨[(.ref qc),Y_api_Item],I6,λt=>Jv nn (t.1) (t.2)⟩:=mk1 Tryz.func145 nn 0 [(0,[23,33,50])] [] [] [] itn zg0 rn gn tn (by kernel_rfl) λt=>by kernel_rfl
noncomputable def ze6(nn:Nat)(a0:jb)(a1:Int):Option (List Int):=jl (σ:=Int×(List ji)×Int×Int×(List Int)) (λ(a,b,c,d,e)f=>ifB (decide (d<c)) (J (σ:=Int×(List ji)×Int×Int×(List Int)) (λ(g,h,i,j,k)=>ja (some (w64 (j+1))) λm=>f (g,h,i,m,k)) λl=>ja (atL b d) λn=>ifB (decide (n.1=a)) (ja (apO 8 e [d]) λo=>l (a,b,c,d,o)) (l (a,b,c,d,e))) (some e)) nn (a1,a0.2.2.1,(a0.2.2.1.length:Int),0,[])
noncomputable def z9y:=lk (α:=HK) [(58,me [vi 1,vo 5 0,(9,.v (.sl Y_api_Prod)),vi 10,vi 11] [.row 3 I6] 1),(934,me [vi 1,vo 5 0,(9,.v (.sl Y_api_Prod)),vi 10,vi 11] [.row 3 I6] 1)]
theorem zzv(nn:Nat):FFOk 146 ⟨[Y_api_Grammar,I6],3,I6,λt=>ze6 nn (t.1) (t.2)⟩:=mk2 Tryz.func146 nn 0 [(0,[24])] [(0,[(22,.told I6)])] [] [] itn z9y rn gn tn (by kernel_rfl) λt=>by kernel_rfl
theorem zz4(nn:Nat):jz 146 ⟨[Y_api_Grammar,I6],L6,λt=>ze6 nn (t.1) (t.2)⟩:=(zzv nn).pure
noncomputable def Z3(nn:Nat)(a0:jb):Option jd:=J (σ:=jd×jw) (λ(a,b)=>some b.2.1) λc=>J (σ:=Bool×jd×jw) (λ(d,e,f)=>ifB d (c (e,f)) (J (σ:=Bool×jd×jw) (λ(h,i,j)=>ifB h (c (i,j)) (J (σ:=Bool×jd×jw) (λ(l,m,n)=>ifB l (c (m,n)) (J (σ:=Bool×jd×jw) (λ(p,q,r)=>ifB p (c (q,r)) (J (σ:=Bool×jd×jw) (λ(u,v,w)=>ifB u (c (v,w)) (c (v,w))) λx=>J (σ:=Bool×jw) (λ(y,z)=>ifB y (x (true,q,(z.1,(11,(-1),0,()),()))) (jl (σ:=Int×Int×jw) (λ(b1,b2,b3)b4=>ifB (decide (b2<b1)) (ja (ze6 nn b3.1 b2) λb5=>ifB (decide ((b5.length:Int)=0)) (x (true,q,(b3.1,(5,b2,0,()),()))) (ja (some (w64 (b2+1))) λb6=>b4 (b1,b6,b3))) (x (false,q,b3))) nn ((z.1.2.1.length:Int),0,z))) λb0=>ja (some (decide (r.1.2.2.2.1<0))) λb7=>ifB b7 (b0 (true,r)) (b0 (decide ((r.1.2.1.length:Int)<=r.1.2.2.2.1),r)))) λs=>J (σ:=Bool×jw) (λ(b8,b9)=>s (b8,m,b9)) λc0=>jl (σ:=(List ji)×Int×Int×jw) (λ(c1,c2,c3,c4)c5=>ifB (decide (c3<c2)) (ja (atL c1 c3) λc6=>J (σ:=Int×(List ji)×Int×Int×Bool×jw×ji) (λ(c7,c8,c9,d0,d1,d2,d3)=>ifB d1 (s (true,m,(d2.1,(11,c7,0,()),()))) (ifB (decide (16<(d3.2.1.length:Int))) (s (true,m,(d2.1,(4,c7,0,()),()))) (jl (σ:=Int×(List ji)×Int×Int×(List jm)×Int×Int×jw) (λ(d5,d6,d7,d8,d9,e0,e1,e2)e3=>ifB (decide (e1<e0)) (ja (atL d9 e1) λe4=>ja (Jv nn (some e2) e4) λe5=>ifB (decide (¬e5=0)) (c0 (true,(e2.1,(e5,d5,w64 (e1+1),()),()))) (ja (some (w64 (e1+1))) λe6=>e3 (d5,d6,d7,d8,d9,e0,e6,e2))) (ja (some (w64 (d8+1))) λe7=>c5 (d6,d7,e7,e2))) nn (c7,c8,c9,d0,d3.2.1,(d3.2.1.length:Int),0,d2)))) λd4=>ja (some (decide (c6.1<0))) λe8=>ifB e8 (d4 (c3,c1,c2,c3,true,c4,c6)) (d4 (c3,c1,c2,c3,decide ((c4.1.2.1.length:Int)<=c6.1),c4,c6))) (c0 (false,c4))) nn (n.1.2.2.1,(n.1.2.2.1.length:Int),0,n))) λo=>ja (zme nn j.1.1) λe9=>jl (σ:=(List (List UInt8))×Int×Int×jw×(List (List UInt8))) (λ(f0,f1,f2,f3,f4)f5=>ifB (decide (f2<f1)) (ja (atL f0 f2) λf6=>J (σ:=(List UInt8)×(List (List UInt8))×Int×Int×Bool×jw×(List (List UInt8))) (λ(f7,f8,f9,g0,g1,g2,g3)=>ifB g1 (o (true,i,g2)) (ja (apO 16 g3 [f7]) λg5=>ja (some (w64 (g0+1))) λg6=>f5 (f8,f9,g6,g2,g5))) λg4=>ja (zb3 nn f6) λg7=>ifB (!g7) (g4 (f6,f0,f1,f2,true,(f3.1,(7,f2,0,()),()),f4)) (ja (zby nn f4 f6) λg8=>ifB (decide (0<=g8)) (g4 (f6,f0,f1,f2,true,(f3.1,(8,f2,0,()),()),f4)) (g4 (f6,f0,f1,f2,false,f3,f4)))) (o (false,i,f3))) nn (j.1.2.1,(j.1.2.1.length:Int),0,j,e9))) λk=>ja (Vy nn f.1.1) λg9=>jl (σ:=(List (List UInt8))×(List jv)×Int×Int×jw) (λ(h0,h1,h2,h3,h4)h5=>ifB (decide (h3<h2)) (ja (atL h1 h3) λh6=>J (σ:=(List (List UInt8))×Int×(List jv)×Int×Int×Bool×jw×jv) (λ(h7,h8,h9,i0,i1,i2,i3,i4)=>ifB i2 (k (true,e,i3)) (ja (Vv nn i4.2.1) λi6=>ifB (decide (¬i6=0)) (k (true,e,(i3.1,(9,h8,i6,()),()))) (J (σ:=(List (List UInt8))×Int×(List jv)×Int×Int×Bool×jw) (λ(i7,i8,i9,j0,j1,j2,j3)=>ifB j2 (k (true,e,(j3.1,(1,i8,0,()),()))) (ja (some (w64 (j1+1))) λj5=>h5 (i7,i9,j0,j5,j3))) λj4=>ja (some (decide (i4.2.2.1<0))) λj6=>ifB j6 (j4 (h7,h8,h9,i0,i1,true,i3)) (j4 (h7,h8,h9,i0,i1,decide (3<i4.2.2.1),i3))))) λi5=>ja (zms h0 none (some h3)) λj7=>ja (zb3 nn h6.1) λj8=>ifB (!j8) (i5 (h0,h3,h1,h2,h3,true,(h4.1,(7,h3,0,()),()),h6)) (ja (zby nn j7 h6.1) λj9=>ifB (decide (0<=j9)) (i5 (h0,h3,h1,h2,h3,true,(h4.1,(8,h3,0,()),()),h6)) (i5 (h0,h3,h1,h2,h3,false,h4,h6)))) (k (false,e,h4))) nn (g9,f.1.1,(f.1.1.length:Int),0,f))) λg=>jl (σ:=(List Int)×Int×Int×jw) (λ(k0,k1,k2,k3)k4=>ifB (decide (k2<k1)) (ja (atL k0 k2) λk5=>ifB (decide (0<k5)) (g (true,(0,0,0,()),(k3.1,(4,k2,0,()),()))) (ja (some (w64 (k2+1))) λk6=>k4 (k0,k1,k6,k3))) (jl (σ:=(List (Arr 3 Int))×Int×Int×jw) (λ(k7,k8,k9,l0)l1=>ifB (decide (k9<k8)) (ja (atL k7 k9) λl2=>J (σ:=Int×(List (Arr 3 Int))×Int×Int×Bool×jw) (λ(l3,l4,l5,l6,l7,l8)=>ifB l7 (g (true,(0,0,0,()),(l8.1,(2,l3,0,()),()))) (ja (some (w64 (l6+1))) λm0=>l1 (l4,l5,m0,l8))) λl9=>ja (vk 3 1) λm1=>ja (atL l2.l m1) λm2=>ja (vk 3 0) λm3=>ja (atL l2.l m3) λm4=>ja (some (decide (m2<m4))) λm5=>ifB m5 (l9 (k9,k7,k8,k9,true,l0)) (ja (vk 3 1) λm6=>ja (atL l2.l m6) λm7=>ja (vk 3 2) λm8=>ja (atL l2.l m8) λm9=>l9 (k9,k7,k8,k9,decide (m9<m7),l0))) (g (false,(0,0,0,()),l0))) nn ([(⟨[1,k3.1.2.2.2.2.1,4096],rfl⟩:Arr 3 Int),(⟨[0,k3.1.2.2.2.2.2.1,65536],rfl⟩:Arr 3 Int),(⟨[1,k3.1.2.2.2.2.2.2.1,65536],rfl⟩:Arr 3 Int),(⟨[1,k3.1.2.2.2.2.2.2.2.1,1048576],rfl⟩:Arr 3 Int)],([(⟨[1,k3.1.2.2.2.2.1,4096],rfl⟩:Arr 3 Int),(⟨[0,k3.1.2.2.2.2.2.1,65536],rfl⟩:Arr 3 Int),(⟨[1,k3.1.2.2.2.2.2.2.1,65536],rfl⟩:Arr 3 Int),(⟨[1,k3.1.2.2.2.2.2.2.2.1,1048576],rfl⟩:Arr 3 Int)].length:Int),0,k3))) nn ([w64 ((a0.1.length:Int)-64),w64 ((a0.2.1.length:Int)-64),w64 ((a0.2.2.1.length:Int)-256)],([w64 ((a0.1.length:Int)-64),w64 ((a0.2.1.length:Int)-64),w64 ((a0.2.2.1.length:Int)-256)].length:Int),0,(a0,(0,0,0,()),()))
noncomputable def zzg:=lk (α:=HK) [(29,me [vp 2 0,vp 3 1] [.box 36 [.v jo],.box 134 [.v qc]] 2),(58,.unroll 24),(7474,me [vp 2 0,vp 3 1,vo 24 2,(25,.ci .i64 (5)),(26,.ci .i64 (0)),vb 32] [.box 36 [.v jo],.box 134 [.v qc],.rowx 136 1 [.agg [.fn 94 [.pt 1 0] []],.agg [.fn 95 [.pt 1 0] []],.agg [.fn 96 [.pt 1 0] []],.agg [.fn 97 [.pt 1 0] []],.agg [.fn 98 [.pt 1 0] []]]] 3),(15026,me [vp 2 0,vp 3 1,vo 24 2,(25,.ci .i64 (5)),(26,.ci .i64 (1)),vb 32] [.box 36 [.v jo],.box 134 [.v qc],.rowx 136 1 [.agg [.fn 94 [.pt 1 0] []],.agg [.fn 95 [.pt 1 0] []],.agg [.fn 96 [.pt 1 0] []],.agg [.fn 97 [.pt 1 0] []],.agg [.fn 98 [.pt 1 0] []]]] 3),(30130,me [vp 2 0,vp 3 1,vo 24 2,(25,.ci .i64 (5)),(26,.ci .i64 (2)),vb 32] [.box 36 [.v jo],.box 134 [.v qc],.rowx 136 1 [.agg [.fn 94 [.pt 1 0] []],.agg [.fn 95 [.pt 1 0] []],.agg [.fn 96 [.pt 1 0] []],.agg [.fn 97 [.pt 1 0] []],.agg [.fn 98 [.pt 1 0] []]]] 3),(60338,me [vp 2 0,vp 3 1,vo 24 2,(25,.ci .i64 (5)),(26,.ci .i64 (3)),vb 32] [.box 36 [.v jo],.box 134 [.v qc],.rowx 136 1 [.agg [.fn 94 [.pt 1 0] []],.agg [.fn 95 [.pt 1 0] []],.agg [.fn 96 [.pt 1 0] []],.agg [.fn 97 [.pt 1 0] []],.agg [.fn 98 [.pt 1 0] []]]] 3),(120754,me [vp 2 0,vp 3 1,vo 24 2,(25,.ci .i64 (5)),(26,.ci .i64 (4)),vb 32] [.box 36 [.v jo],.box 134 [.v qc],.rowx 136 1 [.agg [.fn 94 [.pt 1 0] []],.agg [.fn 95 [.pt 1 0] []],.agg [.fn 96 [.pt 1 0] []],.agg [.fn 97 [.pt 1 0] []],.agg [.fn 98 [.pt 1 0] []]]] 3)]
noncomputable def zqg:=lk (α:=HK) [(26,me [vp 0 0,vl 28,vi 29,vi 30] [.box 134 [.v qc]] 1),(58,me [vp 0 0,(65,.v (.sl (.arr 3 I6))),vi 66,vi 67] [.box 134 [.v qc]] 1),(7474,me [vp 0 0,vi 5,(65,.v (.sl (.arr 3 I6))),vi 66,vi 67,vb 83] [.box 134 [.v qc]] 1)]
noncomputable def zqj:=lk (α:=HK) [(58,me [vp 0 0,(3,.v (.sl .str)),(17,.v (.sl Y_api_Token)),vi 18,vi 19] [.box 134 [.v qc]] 1),(14948,me [vp 0 0,(3,.v (.sl .str)),vi 4,vp 5 1,(17,.v (.sl Y_api_Token)),vi 18,vi 19,vb 31] [.box 134 [.v qc],.box 48 [.v Y_api_Token]] 2),(29902,me [vp 0 0,(3,.v (.sl .str)),vi 4,(17,.v (.sl Y_api_Token)),vi 18,vi 19,vb 48] [.box 134 [.v qc]] 1)]
noncomputable def znp:=lk (α:=HK) [(58,me [vp 0 0,vo 3 1,(16,.v (.sl .str)),vi 17,vi 18] [.box 134 [.v qc],.row 9 .str] 2),(14948,me [vp 0 0,vo 3 1,(5,.v .str),(16,.v (.sl .str)),vi 17,vi 18,vb 27] [.box 134 [.v qc],.row 9 .str] 2)]
noncomputable def zmf:=lk (α:=HK) [(109,me [vb 3] [.box 134 [.v qc]] 1),(218,me [vp 0 0,(3,.cb false),(13,.v (.sl Y_api_Prod)),vi 14,vi 15] [.box 134 [.v qc]] 1),(111816,me [vp 0 0,(3,.cb false),vi 4,vp 5 1,(13,.v (.sl Y_api_Prod)),vi 14,vi 15,vb 20] [.box 134 [.v qc],.box 66 [.v Y_api_Prod]] 2),(111822,me [vp 0 0,(3,.cb false),vi 4,(13,.v (.sl Y_api_Prod)),vi 14,vi 15,(47,.v (.sl Y_api_Item)),vi 48,vi 49] [.box 134 [.v qc]] 1)]
noncomputable def zna:=lk (α:=HK) [(12,me [vp 0 0,vb 23] [.box 134 [.v qc]] 1),(58,me [vp 0 0,vi 31,vi 32] [.box 134 [.v qc]] 1)]
theorem zgs(nn:Nat):jz 57 ⟨[Y_api_Grammar],jo,λt=>Z3 nn t⟩:=mk1 Tryz.func57 nn 9 [(1,[40,76,87]),(4,[43,52]),(10,[32]),(14,[23,65,66]),(18,[9,46])] [(0,[(24,.ownx)]),(1,[(28,.told I6),(65,.told (.arr 3 I6))]),(10,[(30,.told .str)])] [] [10000069] (itc 3220094 Tryz.func94 zqg 1 [] (itc 10003220141 Tryz.func141 h0 2 [] (itc 10007060141 Tryz.func141 h0 3 [] (itc 3220095 Tryz.func95 zqj 4 [] (itc 40003270143 Tryz.func143 h0 5 [] (itc 50001300141 Tryz.func141 h0 6 [] (itc 50002580141 Tryz.func141 h0 7 [] (itc 40005790141 Tryz.func141 h0 8 [] (itc 40007060141 Tryz.func141 h0 9 [] (itc 3220096 Tryz.func96 znp 10 [] (itc 100003240143 Tryz.func143 h0 11 [] (itc 110001300141 Tryz.func141 h0 12 [] (itc 110002580141 Tryz.func141 h0 13 [] (itc 3220097 Tryz.func97 zmf 14 [] (itc 140003860141 Tryz.func141 h0 15 [] (itc 140005140141 Tryz.func141 h0 16 [] (itc 140009010141 Tryz.func141 h0 17 [] (itc 3220098 Tryz.func98 zna 18 [] (itc 180001290141 Tryz.func141 h0 19 [] (itc 180004500141 Tryz.func141 h0 20 [] itn (by kernel_rfl)) (by kernel_rfl)) (by kernel_rfl)) (by kernel_rfl)) (by kernel_rfl)) (by kernel_rfl)) (by kernel_rfl)) (by kernel_rfl)) (by kernel_rfl)) (by kernel_rfl)) (by kernel_rfl)) (by kernel_rfl)) (by kernel_rfl)) (by kernel_rfl)) (by kernel_rfl)) (by kernel_rfl)) (by kernel_rfl)) (by kernel_rfl)) (by kernel_rfl)) (by kernel_rfl)) zzg rn (gc (zgk nn) gn) (tc (zps nn) (tc (zeh nn) (tc (zel nn) (tc (zz4 nn) (tc (zs6 nn) (tc (zre nn) tn)))))) (by kernel_rfl) λt=>by kernel_rfl
noncomputable def vd(nn:Nat)(a0:jb):Option Bool:=ja (Z3 nn a0) λa=>some (decide (a.1=0))
theorem za(nn:Nat):jz 72 ⟨[Y_api_Grammar],.bool,λt=>vd nn t⟩:=mk1 Tryz.func72 nn 0 [] [] [] [] itn h0 rn gn (tc (zgs nn) tn) (by kernel_rfl) λt=>by kernel_rfl
noncomputable def Z8(nn:Nat)(a0:jm)(a1:(List Bool)):Option Bool:=J (λ(a:Bool)=>some a) λb=>ifB a0.1 (ja (atL a1 a0.2.1) λc=>b c) (b false)
noncomputable def ztp:=lk (α:=HK) [(6,me [vb 4] [] 0)]
theorem zli(nn:Nat):jz 198 ⟨[Y_api_Item,LB],.bool,λt=>Z8 nn (t.1) (t.2)⟩:=mk1 Tryz.func198 nn 0 [] [] [] [] itn ztp rn gn tn (by kernel_rfl) λt=>by kernel_rfl
noncomputable def yb(nn:Nat)(a0:jb):Option (List Bool):=J (λ(a:(List Bool))=>some a) λb=>ja (vd nn a0) λc=>ifB (!c) (b []) (ja (some (a0.2.1.length:Int)) λd=>ja (mkO 1 d) λe=>jl (σ:=(List ji)×Bool×(List Bool)) (λ(f,g,h)i=>ifB g (jl (σ:=(List ji)×Bool×(List ji)×Int×Int×(List Bool)) (λ(j,k,l,m,n,o)p=>ifB (decide (n<m)) (ja (atL l n) λq=>J (σ:=(List ji)×Bool×(List ji)×Int×Int×(List Bool)) (λ(r,s,u,v,w,x)=>ja (some (w64 (w+1))) λz=>p (r,s,u,v,z,x)) λy=>ja (vk o.length q.1) λb0=>ja (atL o b0) λb1=>ifB b1 (y (j,k,l,m,n,o)) (jl (σ:=(List jm)×Int×Int×(List Bool)×ji) (λ(b2,b3,b4,b5,b6)b7=>ifB (decide (b4<b3)) (ja (atL b2 b4) λb8=>ja (Z8 nn b8 b5) λb9=>ifB (!b9) (y (j,k,l,m,n,b5)) (ja (some (w64 (b4+1))) λc0=>b7 (b2,b3,c0,b5,b6))) (ja (vk b5.length b6.1) λc1=>ja (zas b5 c1 true) λc2=>y (j,true,l,m,n,c2))) nn (q.2.1,(q.2.1.length:Int),0,o,q))) (i (j,k,o))) nn (f,false,f,(f.length:Int),0,h)) (b h)) nn (a0.2.2.1,true,(List.replicate e false)))
noncomputable def zyd:=lk (α:=HK) [(6,me [vo 2 0] [.row 4 .bool] 1)]
noncomputable def zqe:=lk (α:=HK) [(6,me [(0,.v (.sl Y_api_Prod)),(1,.fn 148 [] [.pt 0 0,.pt 2 0]),vb 4] [.box 42 [.own 1],.row 4 .bool,.box 142 [.fn 198 [] []]] 3),(406,me [(0,.v (.sl Y_api_Prod)),(1,.fn 148 [] [.pt 0 0,.pt 2 0]),vb 4,(8,.v (.sl Y_api_Prod)),vi 9,vi 10] [.box 42 [.own 1],.row 4 .bool,.box 142 [.fn 198 [] []]] 3),(26009,me [(0,.v (.sl Y_api_Prod)),(1,.fn 148 [] [.pt 0 0,.pt 2 0]),vb 4,(8,.v (.sl Y_api_Prod)),vi 9,vi 10] [.box 42 [.own 1],.row 4 .bool,.box 142 [.fn 198 [] []]] 3)]
noncomputable def zp1:=lk (α:=HK) [(58,me [vp 1 0,vp 2 2,vp 3 3,(13,.v (.sl Y_api_Item)),vi 14,vi 15] [.box 42 [.own 1],.row 4 .bool,.box 142 [.fn 198 [] []],.box 66 [.v Y_api_Prod]] 4)]
theorem zpq(nn:Nat):FFOk 167 ⟨[Y_api_Grammar],4,.bool,λt=>yb nn t⟩:=mk2 Tryz.func167 nn 9 [(1,[11]),(2,[20]),(3,[24])] [] [] [] (itc 650102 Tryz.func102 h0 1 [] (itc 10002590100 Tryz.func100 zqe 2 [] (itc 20003860148 Tryz.func148 zp1 3 [] itn (by kernel_rfl)) (by kernel_rfl)) (by kernel_rfl)) zyd rn gn (tc (za nn) (tc (zli nn) tn)) (by kernel_rfl) λt=>by kernel_rfl
theorem zb4(nn:Nat):jz 167 ⟨[Y_api_Grammar],LB,λt=>yb nn t⟩:=(zpq nn).pure
noncomputable def Je(nn:Nat)(a0:(List Int))(a1:(List Int)):Option (List Int):=jl (σ:=(List Int)×(List Int)×(List Int)) (λ(a,b,c)d=>J (σ:=(List Int)×(List Int)×Bool×(List Int)) (λ(e,f,g,h)=>ifB g (J (σ:=(List Int)×(List Int)×(List Int)) (λ(j,k,l)=>d (j,k,l)) λm=>J (σ:=(List Int)×(List Int)×Bool×(List Int)) (λ(n,o,p,q)=>ifB p (ja (atL n 0) λs=>ja (apO 8 q [s]) λu=>ja (zms n (some 1) none) λv=>m (v,o,u)) (J (σ:=(List Int)×(List Int)×Bool×(List Int)) (λ(w,x,y,z)=>ifB y (ja (atL x 0) λb1=>ja (apO 8 z [b1]) λb2=>ja (zms x (some 1) none) λb3=>m (w,b3,b2)) (ja (atL w 0) λb4=>ja (apO 8 z [b4]) λb5=>ja (zms w (some 1) none) λb6=>ja (zms x (some 1) none) λb7=>m (b6,b7,b5))) λb0=>ja (some (decide ((n.length:Int)=0))) λb8=>ifB b8 (b0 (n,o,true,q)) (ja (atL o 0) λb9=>ja (atL n 0) λc0=>b0 (n,o,decide (b9<c0),q)))) λr=>ja (some (decide ((f.length:Int)=0))) λc1=>ifB c1 (r (e,f,true,h)) (ja (some (decide (0<(e.length:Int)))) λc2=>ifB c2 (ja (atL e 0) λc3=>ja (atL f 0) λc4=>r (e,f,decide (c3<c4),h)) (r (e,f,false,h)))) (some h)) λi=>ja (some (decide (0<(a.length:Int)))) λc5=>ifB c5 (i (a,b,true,c)) (i (a,b,decide (0<(b.length:Int)),c))) nn (a0,a1,[])
noncomputable def zp3:=lk (α:=HK) [(14,me [vl 0,vl 1,vp 5 1,(6,.fn 230 [] [])] [.box 31 [.own 2],.box 220 [.fn 202 [] [.pt 0 0],.fn 202 [] [.pt 0 0],.fn 202 [] [.pt 0 0]],.row 3 I6] 3),(112,me [vl 0,vl 1,vp 5 1,(6,.fn 230 [] []),vb 14] [.box 31 [.own 2],.box 220 [.fn 202 [] [.pt 0 0],.fn 202 [] [.pt 0 0],.fn 202 [] [.pt 0 0]],.row 3 I6] 3),(114,me [vl 0,vl 1,vp 5 1,(6,.fn 230 [] [])] [.box 31 [.own 2],.box 220 [.fn 202 [] [.pt 0 0],.fn 202 [] [.pt 0 0],.fn 202 [] [.pt 0 0]],.row 3 I6] 3),(456,me [vl 0,vl 1,vp 5 1,(6,.fn 230 [] []),vb 26] [.box 31 [.own 2],.box 220 [.fn 202 [] [.pt 0 0],.fn 202 [] [.pt 0 0],.fn 202 [] [.pt 0 0]],.row 3 I6] 3),(1830,me [vl 0,vl 1,vp 5 1,(6,.fn 230 [] []),vb 53] [.box 31 [.own 2],.box 220 [.fn 202 [] [.pt 0 0],.fn 202 [] [.pt 0 0],.fn 202 [] [.pt 0 0]],.row 3 I6] 3)]
theorem Y2(nn:Nat):FFOk 172 ⟨[L6,L6],3,I6,λt=>Je nn (t.1) (t.2)⟩:=mk2 Tryz.func172 nn 9 [(1,[9,29,33,56])] [(3,[(5,.told I6)]),(5,[(5,.told I6)]),(7,[(5,.told I6)])] [] [] (itc 1980203 Tryz.func203 zp3 1 [] (itc 10003900230 Tryz.func230 h0 2 [] (itc 20000660202 Tryz.func202 h0 3 [1] (itc 10005820230 Tryz.func230 h0 4 [] (itc 40000660202 Tryz.func202 h0 5 [1] (itc 10001980230 Tryz.func230 h0 6 [] (itc 60000660202 Tryz.func202 h0 7 [1] itn (by kernel_rfl)) (by kernel_rfl)) (by kernel_rfl)) (by kernel_rfl)) (by kernel_rfl)) (by kernel_rfl)) (by kernel_rfl)) h0 rn gn tn (by kernel_rfl) λt=>by kernel_rfl
noncomputable abbrev Yb:=Je
theorem zgp(nn:Nat):jz 172 ⟨[L6,L6],L6,λt=>Je nn (t.1) (t.2)⟩:=(Y2 nn).pure
noncomputable def Yk(nn:Nat)(a0:(Option za8))(a1:(List jm)):Option (List Int):=J (λ(a:(List Int))=>some a) λb=>jl (σ:=(Option za8)×(List jm)×Int×Int×(List Int)) (λ(c,d,e,f,g)h=>ifB (decide (f<e)) (ja (atL d f) λi=>ifB (!i.1) (ja (Yb nn g [i.2.1]) λj=>some j) (ja (c) λk=>ja (atL k.2.1 i.2.1) λl=>ja (Yb nn g l) λm=>ja (c) λn=>ja (atL n.1 i.2.1) λo=>ifB (!o) (b m) (ja (some (w64 (f+1))) λp=>h (c,d,e,p,m)))) (b g)) nn (a0,a1,(a1.length:Int),0,[])
noncomputable def zi6:=lk (α:=HK) [(29,me [vo 5 0] [.row 3 I6] 1),(58,me [(0,.v (.ref zba)),vo 5 0,(8,.v (.sl Y_api_Item)),vi 9,vi 10] [.row 3 I6] 1)]
theorem Zy(nn:Nat):FFOk 201 ⟨[(.ref zba),(.sl Y_api_Item)],3,I6,λt=>Yk nn (t.1) (t.2)⟩:=mk2 Tryz.func201 nn 0 [(0,[41])] [(0,[(20,.told I6)])] [] [388,457] itn zi6 rn (gc (Y2 nn) gn) tn (by kernel_rfl) λt=>by kernel_rfl
noncomputable abbrev Qa:=Yk
noncomputable def yp(nn:Nat)(a0:jb):Option (Option za8):=ja (vd nn a0) λa=>ifB (!a) (some none) (ja (yb nn a0) λb=>ja (some (a0.2.1.length:Int)) λc=>ja (mkO 24 c) λd=>jl (σ:=Bool×jb×(List Bool)×(List (List Int))) (λ(e,f,g,h)i=>ifB e (jl (σ:=Bool×(List ji)×Int×Int×jb×(List Bool)×(List (List Int))) (λ(j,k,l,m,n,o,p)q=>ifB (decide (m<l)) (ja (atL k m) λr=>J (σ:=Bool×(List ji)×Int×Int×jb×(List Bool)×(List (List Int))) (λ(s,u,v,w,x,y,z)=>ja (some (w64 (w+1))) λb1=>q (s,u,v,b1,x,y,z)) λb0=>ja (vk p.length r.1) λb2=>ja (atL p b2) λb3=>ja (Qa nn (some (o,p,())) r.2.1) λb4=>ja (Yb nn b3 b4) λb5=>ja (vk p.length r.1) λb6=>ja (atL p b6) λb7=>ja (vk p.length r.1) λb8=>ja (zas p b8 b5) λb9=>ifB (decide ((b7.length:Int)<(b5.length:Int))) (b0 (true,k,l,m,n,o,b9)) (b0 (j,k,l,m,n,o,b9))) (i (j,n,o,p))) nn (false,f.2.2.1,(f.2.2.1.length:Int),0,f,g,h)) (some (some (g,h,())))) nn (true,a0,b,(List.replicate d ([]:(List Int)))))
noncomputable def zza:=lk (α:=HK) [(250,me [vp 1 0,vp 3 1,(4,.fn 229 [] [.pt 1 0]),vb 5] [.box 26 [.v Y_api_Grammar],.box 211 [.pt 2 0],.box 214 [.v LB,.own 3],.row 31 L6] 4),(16022,me [vp 1 0,vp 3 1,(4,.fn 229 [] [.pt 1 0]),vb 5,(22,.v (.sl Y_api_Prod)),vi 23,vi 24] [.box 26 [.v Y_api_Grammar],.box 211 [.pt 2 0],.box 214 [.v LB,.own 3],.row 31 L6] 4),(1025433,me [vp 1 0,vp 3 1,(4,.fn 229 [] [.pt 1 0]),vb 5,(22,.v (.sl Y_api_Prod)),vi 23,vi 24] [.box 26 [.v Y_api_Grammar],.box 211 [.pt 2 0],.box 214 [.v LB,.own 3],.row 31 L6] 4)]
theorem zgu(nn:Nat):jz 197 ⟨[Y_api_Grammar],(.ref zba),λt=>yp nn t⟩:=mk1 Tryz.func197 nn 9 [(0,[15,34])] [] [(1000200,[(37,L6)])] [1000075,1000076] (itc 7060229 Tryz.func229 h0 1 [] itn (by kernel_rfl)) zza rn (gc (Y2 nn) (gc (Zy nn) gn)) (tc (za nn) (tc (zb4 nn) tn)) (by kernel_rfl) λt=>by kernel_rfl
noncomputable def Qk(nn:Nat)(a0:jb):Option (List (List Int)):=ja (yp nn a0) λa=>ifB a.isNone (some []) (ja (a) λb=>ja (some (b.2.1.length:Int)) λc=>ja (mkO 24 c) λd=>ja (a) λe=>ja (jbo (List.replicate d ([]:(List Int))) e.2.1) λf=>some f.2)
theorem zs3(nn:Nat):jz 166 ⟨[Y_api_Grammar],M6,λt=>Qk nn t⟩:=mk1 Tryz.func166 nn 0 [(0,[13])] [] [] [] itn h0 rn gn (tc (zgu nn) tn) (by kernel_rfl) λt=>by kernel_rfl
noncomputable def ve(nn:Nat)(a0:jb):Option (List Bool):=ja (vd nn a0) λa=>ifB (!a) (some []) (ja (some (a0.2.1.length:Int)) λb=>ja (mkO 1 b) λc=>ja (vk (List.replicate c false).length a0.2.2.2.1) λd=>ja (zas (List.replicate c false) d true) λe=>jl (σ:=(List ji)×Bool×(List Bool)) (λ(f,g,h)i=>ifB g (jl (σ:=(List ji)×Bool×(List ji)×Int×Int×(List Bool)) (λ(j,k,l,m,n,o)p=>ifB (decide (n<m)) (ja (atL l n) λq=>J (σ:=(List ji)×Bool×(List ji)×Int×Int×(List Bool)) (λ(r,s,u,v,w,x)=>ja (some (w64 (w+1))) λz=>p (r,s,u,v,z,x)) λy=>jl (σ:=Bool×(List jm)×Int×Int×(List Bool)×ji) (λ(b0,b1,b2,b3,b4,b5)b6=>ifB (decide (b3<b2)) (J (σ:=Bool×(List jm)×Int×Int×(List Bool)×ji) (λ(b7,b8,b9,c0,c1,c2)=>ja (some (w64 (c0+1))) λc4=>b6 (b7,b8,b9,c4,c1,c2)) λc3=>ja (atL b1 b3) λc5=>J (σ:=Bool×(List jm)×Int×Int×Bool×(List Bool)×ji×jm) (λ(c6,c7,c8,c9,d0,d1,d2,d3)=>ifB d0 (ja (vk d1.length d3.2.1) λd5=>ja (zas d1 d5 true) λd6=>c3 (true,c7,c8,c9,d6,d2)) (c3 (c6,c7,c8,c9,d1,d2))) λd4=>ja (vk b4.length b5.1) λd7=>ja (atL b4 d7) λd8=>ifB d8 (ifB c5.1 (ja (vk b4.length c5.2.1) λd9=>ja (atL b4 d9) λe0=>d4 (b0,b1,b2,b3,!e0,b4,b5,c5)) (d4 (b0,b1,b2,b3,false,b4,b5,c5))) (d4 (b0,b1,b2,b3,false,b4,b5,c5))) (ifB b0 (y (j,true,l,m,n,b4)) (y (j,k,l,m,n,b4)))) nn (false,q.2.1,(q.2.1.length:Int),0,o,q)) (i (j,k,o))) nn (f,false,f,(f.length:Int),0,h)) (some h)) nn (a0.2.2.1,true,e))
noncomputable def zll:=lk (α:=HK) [(6,me [(0,.v (.sl Y_api_Prod)),(1,.fn 101 [] [.pt 0 0]),vb 4] [.box 42 [.own 1],.row 4 .bool] 2),(406,me [(0,.v (.sl Y_api_Prod)),(1,.fn 101 [] [.pt 0 0]),vb 4,(8,.v (.sl Y_api_Prod)),vi 9,vi 10] [.box 42 [.own 1],.row 4 .bool] 2),(26009,me [(0,.v (.sl Y_api_Prod)),(1,.fn 101 [] [.pt 0 0]),vb 4,(8,.v (.sl Y_api_Prod)),vi 9,vi 10] [.box 42 [.own 1],.row 4 .bool] 2)]
noncomputable def zkz:=lk (α:=HK) [(58,me [vp 1 0,vp 2 2,vb 4,(8,.v (.sl Y_api_Item)),vi 9,vi 10] [.box 42 [.own 1],.row 4 .bool,.box 66 [.v Y_api_Prod]] 3),(934,me [vp 1 0,vp 2 2,vb 4,(8,.v (.sl Y_api_Item)),vi 9,vi 10] [.box 42 [.own 1],.row 4 .bool,.box 66 [.v Y_api_Prod]] 3),(7474,me [vp 1 0,vp 2 2,vb 4,vp 6 3,(8,.v (.sl Y_api_Item)),vi 9,vi 10,vb 30] [.box 42 [.own 1],.row 4 .bool,.box 66 [.v Y_api_Prod],.box 54 [.v Y_api_Item]] 4)]
theorem zlo(nn:Nat):FFOk 63 ⟨[Y_api_Grammar],4,.bool,λt=>ve nn t⟩:=mk2 Tryz.func63 nn 9 [(0,[9]),(1,[20]),(2,[35])] [] [] [] (itc 3230100 Tryz.func100 zll 1 [] (itc 10003860101 Tryz.func101 zkz 2 [] itn (by kernel_rfl)) (by kernel_rfl)) h0 rn gn (tc (za nn) tn) (by kernel_rfl) λt=>by kernel_rfl
theorem zdy(nn:Nat):jz 63 ⟨[Y_api_Grammar],LB,λt=>ve nn t⟩:=(zlo nn).pure
noncomputable def Qp(nn:Nat)(a0:jb):Option Int:=ja (vd nn a0) λa=>ifB (!a) (some (-1)) (some (a0.1.length:Int))
theorem zqd(nn:Nat):jz 168 ⟨[Y_api_Grammar],I6,λt=>Qp nn t⟩:=mk1 Tryz.func168 nn 0 [] [] [] [] itn h0 rn gn (tc (za nn) tn) (by kernel_rfl) λt=>by kernel_rfl
noncomputable def Jf(nn:Nat)(a0:jb):Option (List (List Int)):=ja (vd nn a0) λa=>ifB (!a) (some []) (ja (Qk nn a0) λb=>ja (yb nn a0) λc=>ja (ve nn a0) λd=>ja (some (a0.2.1.length:Int)) λe=>ja (mkO 24 e) λf=>ja (Qp nn a0) λg=>ja (vk (List.replicate f ([]:(List Int))).length a0.2.2.2.1) λh=>ja (zas (List.replicate f ([]:(List Int))) h [g]) λi=>jl (σ:=Bool×jb×(List (List Int))×(List Bool)×(List Bool)×(List (List Int))) (λ(j,k,l,m,n,o)p=>ifB j (jl (σ:=Bool×(List ji)×Int×Int×jb×(List (List Int))×(List Bool)×(List Bool)×(List (List Int))) (λ(q,r,s,u,v,w,x,y,z)b0=>ifB (decide (u<s)) (J (σ:=Bool×(List ji)×Int×Int×jb×(List (List Int))×(List Bool)×(List Bool)×(List (List Int))) (λ(b1,b2,b3,b4,b5,b6,b7,b8,b9)=>ja (some (w64 (b4+1))) λc1=>b0 (b1,b2,b3,c1,b5,b6,b7,b8,b9)) λc0=>ja (atL r u) λc2=>J (σ:=Bool×(List ji)×Int×Int×Bool×jb×(List (List Int))×(List Bool)×(List Bool)×(List (List Int))) (λ(c3,c4,c5,c6,c7,c8,c9,d0,d1,d2)=>ifB c7 (c0 (true,c4,c5,c6,c8,c9,d0,d1,d2)) (c0 (c3,c4,c5,c6,c8,c9,d0,d1,d2))) λd3=>ja (atL y c2.1) λd4=>ifB d4 (ja (vk z.length c2.1) λd5=>ja (atL z d5) λd6=>ja (some (w64 ((c2.2.1.length:Int)-1))) λd7=>jl (σ:=(List Int)×Int×(List (List Int))×(List Bool)×(List Bool)×(List (List Int))×ji×Bool) (λ(d8,d9,e0,e1,e2,e3,e4,e5)e6=>ifB (decide (0<=d9)) (J (σ:=(List Int)×Int×(List (List Int))×(List Bool)×(List Bool)×(List (List Int))×ji×Bool) (λ(e7,e8,e9,f0,f1,f2,f3,f4)=>ja (some (w64 (e8-1))) λf6=>e6 (e7,f6,e9,f0,f1,f2,f3,f4)) λf5=>ja (atL e4.2.1 d9) λf7=>ifB (!f7.1) (f5 ([f7.2.1],d9,e0,e1,e2,e3,e4,e5)) (ja (vk e3.length f7.2.1) λf8=>ja (atL e3 f8) λf9=>ja (Je nn f9 d8) λg0=>J (σ:=Int×(List Int)×(List (List Int))×(List Bool)×(List Bool)×(List (List Int))×Bool) (λ(g1,g2,g3,g4,g5,g6,g7)=>ja (vk g6.length g1) λg9=>ja (zas g6 g9 g2) λh0=>ja (atL g4 f7.2.1) λh1=>ifB h1 (ja (atL g3 f7.2.1) λh2=>ja (Je nn d8 h2) λh3=>f5 (h3,d9,g3,g4,g5,h0,e4,g7)) (ja (atL g3 f7.2.1) λh4=>f5 (h4,d9,g3,g4,g5,h0,e4,g7))) λg8=>ifB e5 (g8 (f7.2.1,g0,e0,e1,e2,e3,true)) (ja (vk e3.length f7.2.1) λh5=>ja (atL e3 h5) λh6=>g8 (f7.2.1,g0,e0,e1,e2,e3,decide ((h6.length:Int)<(g0.length:Int)))))) (d3 (q,r,s,u,e5,v,e0,e1,e2,e3))) nn (d6,d7,w,x,y,z,c2,false)) (d3 (q,r,s,u,false,v,w,x,y,z))) (p (q,v,w,x,y,z))) nn (false,k.2.2.1,(k.2.2.1.length:Int),0,k,l,m,n,o)) (some o)) nn (true,a0,b,c,d,i))
noncomputable def zzr:=lk (α:=HK) [(250,me [vp 1 0,vp 3 1,vb 4] [.box 26 [.v Y_api_Grammar],.box 183 [.v M6,.v LB,.v LB,.own 2],.row 31 L6] 3),(16022,me [vp 1 0,vp 3 1,vb 4,(34,.v (.sl Y_api_Prod)),vi 35,vi 36] [.box 26 [.v Y_api_Grammar],.box 183 [.v M6,.v LB,.v LB,.own 2],.row 31 L6] 3),(256358,me [vp 1 0,vp 3 1,vb 4,(34,.v (.sl Y_api_Prod)),vi 35,vi 36] [.box 26 [.v Y_api_Grammar],.box 183 [.v M6,.v LB,.v LB,.own 2],.row 31 L6] 3),(2050866,me [vp 1 0,vp 3 1,vb 4,(34,.v (.sl Y_api_Prod)),vi 35,vi 36,vb 52] [.box 26 [.v Y_api_Grammar],.box 183 [.v M6,.v LB,.v LB,.own 2],.row 31 L6] 3)]
noncomputable def zqp:=lk (α:=HK) [(890,me [vp 2 2,vp 3 3,vp 5 4,(6,.fn 199 [] [.pt 2 0,.pt 4 0]),vl 7,vi 8] [.box 183 [.v M6,.v LB,.v LB,.own 1],.row 31 L6,.box 181 [.pt 0 0],.box 66 [.v Y_api_Prod],.box 4 [.v .bool]] 5),(7122,me [vp 2 2,vp 3 3,vp 5 4,(6,.fn 199 [] [.pt 2 0,.pt 4 0]),vl 7,vi 8] [.box 183 [.v M6,.v LB,.v LB,.own 1],.row 31 L6,.box 181 [.pt 0 0],.box 66 [.v Y_api_Prod],.box 4 [.v .bool]] 5)]
noncomputable def zqn:=lk (α:=HK) [(6,me [vi 0,vp 2 0,vl 6] [.box 181 [.pt 1 0],.box 183 [.v M6,.v LB,.v LB,.own 2],.row 31 L6,.box 4 [.v .bool]] 4)]
theorem zo5(nn:Nat):jz 109 ⟨[Y_api_Grammar],M6,λt=>Jf nn t⟩:=mk1 Tryz.func109 nn 9 [(0,[18,53]),(1,[22,26])] [(0,[(30,.own I6)]),(1,[(37,.told I6)])] [(266,[(30,L6)])] [] (itc 7150169 Tryz.func169 zqp 1 [] (itc 10006440199 Tryz.func199 zqn 2 [] itn (by kernel_rfl)) (by kernel_rfl)) zzr rn gn (tc (zdy nn) (tc (za nn) (tc (zs3 nn) (tc (zb4 nn) (tc (zqd nn) (tc (zgp nn) tn)))))) (by kernel_rfl) λt=>by kernel_rfl
noncomputable def Jy(nn:Nat)(a0:jb)(a1:(List jm)):Option Bool:=jl (σ:=(List jm)×Int×Int×jb) (λ(a,b,c,d)e=>ifB (decide (c<b)) (ja (atL a c) λf=>J (σ:=Int×(List jm)×Int×Int×jb×jm) (λ(g,h,i,j,k,l)=>J (σ:=(List jm)×Int×Int×Bool×jb) (λ(n,o,p,q,r)=>ifB q (some false) (ja (some (w64 (p+1))) λu=>e (n,o,u,r))) λs=>ja (some (decide (l.2.1<0))) λv=>ifB v (s (h,i,j,true,k)) (s (h,i,j,decide (g<=l.2.1),k))) λm=>ifB f.1 (m ((d.2.1.length:Int),a,b,c,d,f)) (m ((d.1.length:Int),a,b,c,d,f))) (some true)) nn (a1,(a1.length:Int),0,a0)
noncomputable def zux:=lk (α:=HK) [(26,me [vp 2 0,(8,.v (.sl Y_api_Item)),vi 9,vi 10] [.box 26 [.v Y_api_Grammar]] 1),(3379,me [vp 2 0,vp 6 1,vi 7,(8,.v (.sl Y_api_Item)),vi 9,vi 10] [.box 26 [.v Y_api_Grammar],.box 54 [.v Y_api_Item]] 2),(13518,me [vp 2 0,(8,.v (.sl Y_api_Item)),vi 9,vi 10,vb 30] [.box 26 [.v Y_api_Grammar]] 1)]
theorem znn(nn:Nat):jz 200 ⟨[Y_api_Grammar,(.sl Y_api_Item)],.bool,λt=>Jy nn (t.1) (t.2)⟩:=mk1 Tryz.func200 nn 0 [(0,[24,31])] [] [] [] itn zux rn gn tn (by kernel_rfl) λt=>by kernel_rfl
noncomputable def zaw(nn:Nat)(a0:jb)(a1:(List jm)):Option (List Int):=ja (yp nn a0) λa=>J (σ:=(List jm)×(Option za8)×Bool) (λ(b,c,d)=>ifB d (some []) (ja (Qa nn c b) λf=>some f)) λe=>ifB a.isNone (e (a1,a,true)) (ja (Jy nn a0 a1) λg=>e (a1,a,!g))
noncomputable def z41:=lk (α:=HK) [(28,me [(1,.v (.sl Y_api_Item)),(5,.v (.ref zba)),vb 15] [] 0)]
theorem zu6(nn:Nat):FFOk 170 ⟨[Y_api_Grammar,(.sl Y_api_Item)],3,I6,λt=>zaw nn (t.1) (t.2)⟩:=mk2 Tryz.func170 nn 0 [] [] [] [258] itn z41 rn (gc (Zy nn) gn) (tc (zgu nn) (tc (znn nn) tn)) (by kernel_rfl) λt=>by kernel_rfl
noncomputable abbrev zdq:=zaw
noncomputable def Vm(nn:Nat)(a0:jb)(a1:(List jm)):Option Bool:=ja (yb nn a0) λa=>ja (jbx a) λb=>ifB b (some false) (jl (σ:=(List Bool)×(List jm)×Int×Int) (λ(c,d,e,f)g=>ifB (decide (f<e)) (ja (atL d f) λh=>J (σ:=(List Bool)×(List jm)×Int×Int×Bool) (λ(i,j,k,l,m)=>ifB m (some false) (ja (some (w64 (l+1))) λo=>g (i,j,k,o))) λn=>ja (some (!h.1)) λp=>ifB p (n (c,d,e,f,true)) (ifB (decide (h.2.1<0)) (n (c,d,e,f,true)) (ifB (decide ((c.length:Int)<=h.2.1)) (n (c,d,e,f,true)) (ja (atL c h.2.1) λq=>n (c,d,e,f,!q))))) (some true)) nn (a,a1,(a1.length:Int),0))
noncomputable def z16:=lk (α:=HK) [(122,me [(5,.v LB),(12,.v (.sl Y_api_Item)),vi 13,vi 14] [] 0),(15666,me [(5,.v LB),(12,.v (.sl Y_api_Item)),vi 13,vi 14,vb 40] [] 0)]
theorem zsk(nn:Nat):jz 171 ⟨[Y_api_Grammar,(.sl Y_api_Item)],.bool,λt=>Vm nn (t.1) (t.2)⟩:=mk1 Tryz.func171 nn 0 [(0,[20,41])] [] [] [] itn z16 rn gn (tc (zb4 nn) tn) (by kernel_rfl) λt=>by kernel_rfl
noncomputable def qw(nn:Nat)(a0:jb)(a1:(List (List Int)))(a2:ji):Option (List Int):=ja (zdq nn a0 a2.2.1) λa=>J (λ(b:(List Int))=>some b) λc=>ja (Vm nn a0 a2.2.1) λd=>ifB d (ja (atL a1 a2.1) λe=>ja (Yb nn a e) λf=>c f) (c a)
noncomputable def zpl:=lk (α:=HK) [(7,me [vo 7 0] [.row 3 I6] 1)]
theorem zka(nn:Nat):FFOk 110 ⟨[Y_api_Grammar,M6,Y_api_Prod],3,I6,λt=>qw nn (t.1) (t.2.1) (t.2.2)⟩:=mk2 Tryz.func110 nn 0 [] [] [] [67,198] itn zpl rn (gc (zu6 nn) (gc (Y2 nn) gn)) (tc (zsk nn) tn) (by kernel_rfl) λt=>by kernel_rfl
theorem zjz(nn:Nat):jz 110 ⟨[Y_api_Grammar,M6,Y_api_Prod],L6,λt=>qw nn (t.1) (t.2.1) (t.2.2)⟩:=(zka nn).pure
def z5s{α β:Type}(f:α->Option β):List α->Option (List β)
 |[]=>some []
 |a::l=>ja (f a) λb=>ja (z5s f l) λr=>some (b::r)
theorem z6t{α β:Type}{f:α->Option β}:∀{l:List α}{r:List β},z5s f l=some r->∀(i:Nat)(a:α),l[i]?=some a->∃b,f a=some b/\r[i]?=some b
 |[],r,h,i,a,hi=>by simp at hi
 |x::l,r,h,i,a,hi=>by
  unfold z5s at h;cases hx:f x with
  |none=>rw[hx]at h;cases h
  |some b=>
   rw[hx]at h;cases hl:z5s f l with
   |none=>simp only[ja,hl]at h;cases h
   |some r'=>
    simp only[ja,hl]at h;cases h;cases i with
    |zero=>simp at hi;subst hi;exact⟨b,hx,rfl⟩
    |succ i=>
     obtain⟨c,h1,h2⟩:=z6t hl i a (by simpa using hi);exact⟨c,h1,by simpa using h2⟩
noncomputable def zhp(nn:Nat)(g:jb):Option PM:=ja (Jf nn g) λbeh=>ja (z5s (λp=>qw nn g beh p) g.2.2.1) λrows=>
 ifB (decide (g.2.2.1.length<=1000000) && rows.all λl=>decide (l.length<=1000000)) (zf1 (λi=>rows.getD i []) 0 (g.2.2.1.map (·.1)) []) none
def prC(p:ji):PrP:=(p.1,enc (.sl Y_api_Item) p.2.1)
theorem z3t(g:jb):enc Y_api_Grammar g=.agg (enc (.sl Y_api_Token) g.1::enc (.sl .str) g.2.1 :: .sl 2 ((g.2.2.1.map prC).map prV)::(encC Y_api_Grammar g).drop 3):=by
 rw[wfd];rfl
theorem z5r(g:jb)(hp:g.2.2.1.length<=1000000):GrV (enc Y_api_Grammar g) (g.2.2.1.map prC) where
 shape:=⟨_,_,_,_,z3t g⟩
 len:=⟨wid Y_api_Grammar,by kernel_rfl,by rw[enc_cells,ju]⟩
 ok:=λH=>by
  show(encC Y_api_Grammar g).all (vg H)=true;rfl
 np:=V7 _ _
 pn:=λp h=>by
  obtain⟨x,_,rfl⟩:=wee.1 h;exact⟨(show NoP (enc (.sl Y_api_Item) x.2.1)from V7 _ _),λ_=>rfl,rfl⟩
 pl:=by rw[weh];exact hp
theorem z0z{nn:Nat}{g:jb}{m:PM}(h:zhp nn g=some m):GrV (enc Y_api_Grammar g) (g.2.2.1.map prC)/\zr8 (enc Y_api_Grammar g) m:=by
 unfold zhp at h;cases hb:Jf nn g with
 |none=>rw[hb]at h;cases h
 |some beh=>
  rw[hb]at h;simp only[ja]at h;cases hr:z5s (λp=>qw nn g beh p) g.2.2.1 with
  |none=>rw[hr]at h;cases h
  |some rows=>
   rw[hr]at h;simp only at h;cases hc:(decide (g.2.2.1.length<=1000000) && rows.all λl=>decide (l.length<=1000000))with
   |false=>rw[hc]at h;cases h
   |true=>
    rw[hc]at h;simp only[wd4,wej,wez]at hc;have hg:=z5r g hc.1;refine⟨hg,hg.fill (pr:=λi=>rows.getD i []) (beh:=enc (.sl (.sl (.int .i64))) beh) ((zo5 nn).2 g beh hb) (V7 _ _) (λi p hp=>?_) (by rw[wfd];exact h)⟩;rw[wd9]at hp;obtain⟨x,hx,rfl⟩:=wef.1 hp;obtain⟨l,h1,h2⟩:=z6t hr i x hx;have e:rows.getD i []=l:=by rw[wev,h2];rfl
    simp only[e];exact⟨(zjz nn).2 (g,beh,x) l h1,by simpa using hc.2 l (wd3 h2)⟩
noncomputable def vz(nn:Nat)(a0:jb):Option (jd×Int×Unit):=ja (vd nn a0) λb=>ifB (decide (a0.2.2.1.length<=1000000)) (ifB b (ja (zhp nn a0) λm=>ja (zjv m) λr=>some ((r.1.1,r.1.2.1,r.1.2.2,()),r.2,())) (some ((0,0,0,()), -1,()))) none
noncomputable abbrev zvz (nn:Nat):PF:=⟨[Y_api_Grammar],(.tup (.cons jo (.cons (.int .i64) .nil))),λt=>vz nn t⟩
theorem znw(nn:Nat):jz 69 (zvz nn):=⟨by kernel_rfl,λg r h=>by
 have h:vz nn g=some r:=h;unfold vz at h;cases hb:vd nn g with
 |none=>rw[hb]at h;cases h
 |some b=>
  rw[hb]at h;simp only[ja]at h;by_cases hp:g.2.2.1.length<=1000000
  ·rw[wes hp]at h;have hr:=(za nn).2 g b hb;cases b with
   |false=>cases h;exact z4y (z5r g hp) hr
   |true=>
    simp only[ifB]at h;cases hf:zhp nn g with
    |none=>rw[hf]at h;cases h
    |some m=>
     rw[hf]at h;simp only at h;cases hc:zjv m with
     |none=>rw[hc]at h;cases h
     |some q=>
      rw[hc]at h;cases h;obtain⟨h1,h2⟩:=z0z hf;exact jbu h1 hr h2 hc
  ·rw[wem hp]at h;cases h⟩
def zsi(g:jb)(m:PM):Bool:=decide (g.2.1.length<=1000000) && (decide (g.1.length<=1000000) && ((m.all λe=>decide (0<=e.1.1) && (decide (e.1.1<g.2.1.length) && (decide (0<=e.1.2) && (decide (e.1.2<(g.1.length:Int)+1) && decide (e.2≠[]))))) && decide ((m.map (·.1)).Nodup)))
theorem z40{m:PM}(h:(m.map (·.1)).Nodup){e e':(Int×Int)×List Int}(h1:e∈m)(h2:e'∈m)(h3:e.1=e'.1):e=e':=by
 obtain⟨i,hi⟩:=we4 h1;obtain⟨j,hj⟩:=we4 h2;have ei:(m.map (·.1))[i]?=some e.1:=by rw[wd9,hi];rfl
 have ej:(m.map (·.1))[j]?=some e.1:=by rw[wd9,hj,h3];rfl
 obtain⟨l1,k1⟩:=wd1.1 ei;obtain⟨l2,k2⟩:=wd1.1 ej;have:=(List.getElem_inj h).1 (k1.trans k2.symm);subst this;rw[hi]at hj;cases hj;rfl
noncomputable def Vc(nn:Nat)(a0:jb):Option (List (List Int)×Int×Unit):=ja (vd nn a0) λb=>ifB (decide (a0.2.2.1.length<=1000000)) (ifB b (ja (zhp nn a0) λm=>ifB (qd m).2 (some ([],15,())) (ifB (zsi a0 m) (some (jgz a0.2.1.length (a0.1.length+1) m,0,())) none)) (some ([],3,()))) none
noncomputable abbrev zuv (nn:Nat):PF:=⟨[Y_api_Grammar],(.tup (.cons (.sl (.sl (.int .i64))) (.cons (.int .i64) .nil))),λt=>Vc nn t⟩
theorem znd(nn:Nat):jz 26 (zuv nn):=⟨by kernel_rfl,λg r h=>by
 have h:Vc nn g=some r:=h;unfold Vc at h;cases hb:vd nn g with
 |none=>rw[hb]at h;cases h
 |some b=>
  rw[hb]at h;simp only[ja]at h;by_cases hp:g.2.2.1.length<=1000000
  ·rw[wes hp]at h;have hr:=(za nn).2 g b hb;cases b with
   |false=>cases h;exact z57 (z5r g hp) hr
   |true=>
    simp only[ifB]at h;cases hf:zhp nn g with
    |none=>rw[hf]at h;cases h
    |some m=>
     rw[hf]at h;simp only at h;obtain⟨h1,h2⟩:=z0z hf;cases hc:(qd m).2 with
     |true=>rw[hc]at h;cases h;exact z1a h1 hr h2 hc
     |false=>
      rw[hc]at h;cases ht:zsi g m with
      |false=>rw[ht]at h;cases h
      |true=>
       rw[ht]at h;cases h;unfold zsi at ht;simp only[wd4,wej,wez]at ht;obtain⟨t1,t2,t3,t4⟩:=ht;have:=ja8 h1 (z3t g) hr h2 hc (by simpa using t1) (by simpa using t2) (λe he=>by
        obtain⟨k1,k2,k3,k4,k5⟩:=t3 e he;exact⟨k1,by simpa using k2,k3,by simpa using k4,k5⟩) (λe e'=>z40 t4)
       rw[weh,weh]at this;exact this
  ·rw[wem hp]at h;cases h⟩
noncomputable def zd7(nn:Nat)(a0:jb):Option Bool:=jl (σ:=Int×Int×jb) (λ(a,b,c)d=>ifB (decide (b<(c.1.length:Int))) (ja (atL c.1 b) λe=>ja (atL c.1 b) λf=>ja (some (w64 ((w64 (a+(min (e.2.1.length:Int) 1000)))+(min (f.1.length:Int) 1000)))) λg=>ja (some (w64 (b+1))) λh=>d (g,h,c)) (jl (σ:=Int×Int×jb) (λ(i,j,k)l=>ifB (decide (j<(k.2.1.length:Int))) (ja (atL k.2.1 j) λm=>ja (some (w64 (i+(min (m.length:Int) 1000)))) λn=>ja (some (w64 (j+1))) λo=>l (n,o,k)) (jl (σ:=Int×Int×jb) (λ(p,q,r)s=>ifB (decide (q<(r.2.2.1.length:Int))) (ja (atL r.2.2.1 q) λu=>ja (some (w64 (p+(min (u.2.1.length:Int) 1000)))) λv=>ja (some (w64 (q+1))) λw=>s (v,w,r)) (J (λ(x:Bool)=>some x) λy=>ja (some (decide ((r.1.length:Int)<=70))) λz=>ifB z (ifB (decide ((r.2.1.length:Int)<=70)) (ifB (decide ((r.2.2.1.length:Int)<=260)) (y (decide (p<=1500))) (y false)) (y false)) (y false))) nn (i,0,k))) nn (a,0,c))) nn (0,0,a0)
noncomputable def z15:=lk (α:=HK) [(58,me [vp 1 0,vi 3,vi 4] [.box 26 [.v Y_api_Grammar]] 1),(122,me [vp 1 0,vi 3,vi 5] [.box 26 [.v Y_api_Grammar]] 1),(126,me [vb 2] [] 0),(250,me [vp 1 0,vi 3,vi 6] [.box 26 [.v Y_api_Grammar]] 1)]
theorem zrz(nn:Nat):jz 52 ⟨[Y_api_Grammar],.bool,λt=>zd7 nn t⟩:=mk1 Tryz.func52 nn 0 [(0,[13,32,39,48,55,65,69])] [] [] [] itn z15 rn gn tn (by kernel_rfl) λt=>by kernel_rfl
noncomputable def za2(nn:Nat)(a0:jb):Option Bool:=J (λ(a:Bool)=>some a) λb=>ja (zd7 nn a0) λc=>ifB c (ifB (decide ((a0.2.1.length:Int)<=12)) (ifB (decide ((a0.1.length:Int)<=12)) (b (decide ((a0.2.2.1.length:Int)<=30))) (b false)) (b false)) (b false)
noncomputable def zuy:=lk (α:=HK) [(6,me [vb 2] [] 0)]
theorem znu(nn:Nat):jz 23 ⟨[Y_api_Grammar],.bool,λt=>za2 nn t⟩:=mk1 Tryz.func23 nn 0 [] [] [] [] itn zuy rn gn (tc (zrz nn) tn) (by kernel_rfl) λt=>by kernel_rfl
noncomputable def zbf(nn:Nat)(a0:jb):Option Bool:=jl (σ:=Int×Int×jb) (λ(a,b,c)d=>ifB (decide (b<(c.1.length:Int))) (ja (atL c.1 b) λe=>ja (some (w64 (a+(min (e.2.1.length:Int) 1000)))) λf=>ja (some (w64 (b+1))) λg=>d (f,g,c)) (J (λ(h:Bool)=>some h) λi=>ja (za2 nn c) λj=>ifB j (ifB (decide (a<=120)) (i (decide (c.2.2.2.2.1<=200))) (i false)) (i false))) nn (0,0,a0)
noncomputable def zvv:=lk (α:=HK) [(30,me [vb 2] [] 0),(58,me [vp 1 0,vi 3,vi 4] [.box 26 [.v Y_api_Grammar]] 1)]
theorem zng(nn:Nat):jz 7 ⟨[Y_api_Grammar],.bool,λt=>zbf nn t⟩:=mk1 Tryz.func7 nn 0 [(0,[11,21])] [] [] [] itn zvv rn gn (tc (znu nn) tn) (by kernel_rfl) λt=>by kernel_rfl
noncomputable def Vx(nn:Nat)(a0:(Option Jx)):Option jd:=ja (a0) λa=>ja (Z3 nn a.1) λb=>some b
theorem zi7(nn:Nat):jz 56 ⟨[(.ref J4)],jo,λt=>Vx nn t⟩:=mk1 Tryz.func56 nn 0 [] [] [] [] itn h0 rn gn (tc (zgs nn) tn) (by kernel_rfl) λt=>by kernel_rfl
noncomputable def Qs(nn:Nat)(a0:(List jg)):Option (List jg):=ja (jbx a0) λa=>ifB a (some []) (ja (apO 96 [] a0) λb=>some b)
theorem J8(nn:Nat):FFOk 209 ⟨[(.sl jh)],173,jh,λt=>Qs nn t⟩:=mk2 Tryz.func209 nn 0 [] [(0,[(5,.own jh)])] [] [] itn h0 rn gn tn (by kernel_rfl) λt=>by kernel_rfl
noncomputable def zf(nn:Nat)(a0:List jg):Option (List jg):=apO 96 [] a0
noncomputable abbrev Qw (nn:Nat):FF:=⟨[(.sl jh)],173,jh,λt=>zf nn t⟩
theorem Qh(nn:Nat):FFOk 209 (Qw nn):=by
 have hu:Tryz.prog.underlying 196=some (.slice 173):=by kernel_rfl
 have q22:∀(w:World)(a:Option Addr)(n c n' c':Nat),(binOp .eql 196 (.slice a n c) (.slice none n' c')).run Tryz.prog w=.ok (.bool a.isNone) w:=λw a n c n' c'=>Lib.run_eql_slice_nil w _ _ a n c n' c' hu;refine z4z (J8 nn) (λx r=>cloneZ _) (λc w=>?_) λa c w=>?_
 ·go_enter Tryz.func209,Tryz.ntmps209
  go_wp2
  go_ret
  exact⟨rfl,rfl⟩
 ·have hs0:(z7 Tryz.prog 196).map (λr=>(r.1,r.2.1,r.2.2.1))=some (173,12,96):=by kernel_rfl
  obtain⟨⟨e',k',b',z⟩,hse⟩:∃r,z7 Tryz.prog 196=some r:=by
   cases h:z7 Tryz.prog 196 with
   |none=>rw[h]at hs0;cases hs0
   |some r=>exact⟨r,rfl⟩
  rw[hse]at hs0;simp only[wep,we0,wg2]at hs0;obtain⟨rfl,rfl,rfl⟩:=hs0;obtain⟨i,hu2,hi,hz,hsz,hby,hzs,hpos⟩:=zan hse;clear hse
  go_enter Tryz.func209,Tryz.ntmps209
  go_wp2_with (at_builtin;refine wpList_append_own _ rfl _ _ 196 rfl w.heap.size 173 i z 12 96 hu hi hz hsz hby hzs hpos _ _ _ rfl (World.ownsRow_made w #[] 0 (wed _) (wf1 _) rfl) a 0 c [] rfl rfl (by intro j u hj;simp at hj) (by intro u hu;cases hu) (by unfold maxLen;omega) (by omega) (by simp) ?_)
  intro v' w1 hown hgrow hnil
  go_wp2
  go_ret
  refine⟨v',rfl,hown,?_⟩;exact((Below.refl _ w).alloc (wed _) _).grown hgrow (by simp) (by intro k hk;simp[Value.ownBlock]at hk;omega)
noncomputable abbrev Qy:=zf
noncomputable def Jo(nn:Nat)(a0:(List (Arr 4 Int))):Option (Arr 4 Int):=jl (σ:=(List (Arr 4 Int))×Int×Int×(Arr 4 Int)×(Arr 4 Int)) (λ(a,b,c,d,e)f=>ifB (decide (c<b)) (ja (atL a c) λg=>jl (σ:=(List (Arr 4 Int))×Int×Int×Int×(Arr 4 Int)×(Arr 4 Int)×(Arr 4 Int)) (λ(h,i,j,k,l,m,n)o=>ifB (decide (k<4)) (ja (vk 4 k) λp=>ja (atL m.l p) λq=>ja (vk 4 k) λr=>ja (atL n.l r) λs=>ja (vk 4 k) λu=>ja (zp4 m u (orI .u64 q s)) λv=>ja (some (w64 (k+1))) λw=>o (h,i,j,w,l,v,n)) (ja (some (w64 (j+1))) λx=>f (h,i,x,l,m))) nn (a,b,c,0,d,e,g)) (some e)) nn (a0,(a0.length:Int),0,⟨List.replicate 4 0,wd2⟩,⟨List.replicate 4 0,wd2⟩)
noncomputable def z5m:=lk (α:=HK) [(58,me [vp 2 0,vp 3 1,(7,.v (.sl (.arr 4 (.int .u64)))),vi 8,vi 9] [.box 97 [.v (.arr 4 (.int .u64))],.box 97 [.v (.arr 4 (.int .u64))]] 2),(14950,me [vp 2 0,vp 3 1,vp 5 2,(7,.v (.sl (.arr 4 (.int .u64)))),vi 8,vi 9,vi 13] [.box 97 [.v (.arr 4 (.int .u64))],.box 97 [.v (.arr 4 (.int .u64))],.box 97 [.v (.arr 4 (.int .u64))]] 3)]
theorem zjj(nn:Nat):jz 210 ⟨[(.sl (.arr 4 (.int .u64)))],(.arr 4 (.int .u64)),λt=>Jo nn t⟩:=mk1 Tryz.func210 nn 0 [(0,[24,25])] [] [] [] itn z5m rn gn tn (by kernel_rfl) λt=>by kernel_rfl
noncomputable def zcp(nn:Nat)(a0:jg)(a1:jg):Option jg:=J (σ:=Bool×jg×jg×jg) (λ(a,b,c,d)=>ifB a (some (false,0,0,false,⟨List.replicate 4 0,wd2⟩,⟨List.replicate 4 0,wd2⟩,())) (J (σ:=jg×jg×jg×jg) (λ(f,g,h,i)=>J (σ:=jg×jg) (λ(k,l)=>some l) λm=>ifB (decide (f.2.1=0)) (ja (Jo nn [f.2.2.2.2.1,g.2.2.2.2.1]) λn=>m (h,(i.1,i.2.1,i.2.2.1,i.2.2.2.1,n,i.2.2.2.2.2.1,()))) (m (h,i))) λj=>ifB b.2.2.2.1 (ja (Jo nn [b.2.2.2.2.2.1,c.2.2.2.2.2.1]) λo=>j (b,c,d,(true,min (w64 (b.2.1+c.2.1)) 1099511627776,min (w64 (b.2.2.1+c.2.2.1)) 1099511627776,true,b.2.2.2.2.1,o,()))) (ja (Jo nn [b.2.2.2.2.2.1,c.2.2.2.2.2.1]) λp=>j (b,c,d,(true,min (w64 (b.2.1+c.2.1)) 1099511627776,min (w64 (b.2.2.1+c.2.2.1)) 1099511627776,c.2.2.2.1,b.2.2.2.2.1,p,()))))) λe=>ja (some (!a0.1)) λq=>ifB q (e (true,a0,a1,(false,0,0,false,⟨List.replicate 4 0,wd2⟩,⟨List.replicate 4 0,wd2⟩,()))) (e (!a1.1,a0,a1,(false,0,0,false,⟨List.replicate 4 0,wd2⟩,⟨List.replicate 4 0,wd2⟩,())))
noncomputable def zzb:=lk (α:=HK) [(12,me [vp 2 0,vp 3 1,vp 4 2,vb 13] [.box 173 [.v jh],.box 173 [.v jh],.box 173 [.v jh]] 3),(14,me [vp 2 0,vp 3 1,vp 4 2,vp 5 3] [.box 173 [.v jh],.box 173 [.v jh],.box 173 [.v jh],.box 173 [.v jh]] 4),(15,me [vp 4 0,vp 5 1] [.box 173 [.v jh],.box 173 [.v jh]] 2)]
theorem zpz(nn:Nat):jz 188 ⟨[jh,jh],jh,λt=>zcp nn (t.1) (t.2)⟩:=mk1 Tryz.func188 nn 0 [(0,[8])] [(0,[(39,.told (.arr 4 (.int .u64))),(49,.told (.arr 4 (.int .u64)))])] [] [] itn zzb rn gn (tc (zjj nn) tn) (by kernel_rfl) λt=>by kernel_rfl
noncomputable def Ya(nn:Nat)(a0:jg)(a1:jg):Option jg:=ifB (!a0.1) (some a1) (ifB (!a1.1) (some a0) (J (λ(a:jg)=>some a) λb=>ifB a0.2.2.2.1 (ja (Jo nn [a0.2.2.2.2.1,a1.2.2.2.2.1]) λc=>ja (Jo nn [a0.2.2.2.2.2.1,a1.2.2.2.2.2.1]) λd=>b (true,min a0.2.1 a1.2.1,max a0.2.2.1 a1.2.2.1,true,c,d,())) (ja (Jo nn [a0.2.2.2.2.1,a1.2.2.2.2.1]) λe=>ja (Jo nn [a0.2.2.2.2.2.1,a1.2.2.2.2.2.1]) λf=>b (true,min a0.2.1 a1.2.1,max a0.2.2.1 a1.2.2.1,a1.2.2.2.1,e,f,()))))
noncomputable def zyc:=lk (α:=HK) [(14,me [vp 4 0] [.box 173 [.v jh]] 1)]
theorem zqs(nn:Nat):jz 189 ⟨[jh,jh],jh,λt=>Ya nn (t.1) (t.2)⟩:=mk1 Tryz.func189 nn 0 [] [(0,[(35,.told (.arr 4 (.int .u64))),(41,.told (.arr 4 (.int .u64)))])] [] [] itn zyc rn gn (tc (zjj nn) tn) (by kernel_rfl) λt=>by kernel_rfl
noncomputable def Yy(nn:Nat)(a0:jc)(a1:(List jg)):Option jg:=ifB (decide (a0.1=1)) (ifB (a0.2.1.l == (⟨List.replicate 4 0,wd2⟩:Arr 4 Int).l) (some (false,0,0,false,⟨List.replicate 4 0,wd2⟩,⟨List.replicate 4 0,wd2⟩,())) (some (true,1,1,false,a0.2.1,a0.2.1,()))) (ifB (decide (a0.1=3)) (ja (atL a1 0) λa=>ja (atL a1 1) λb=>ja (zcp nn a b) λc=>some c) (ifB (decide (a0.1=4)) (ja (atL a1 0) λd=>ja (atL a1 1) λe=>ja (Ya nn d e) λf=>some f) (ifB (decide (a0.1=7)) (ja (atL a1 0) λg=>ja (Ya nn (true,0,0,false,⟨List.replicate 4 0,wd2⟩,⟨List.replicate 4 0,wd2⟩,()) g) λh=>some h) (J (σ:=(List jg)×Bool×jc×jg×jg) (λ(i,j,k,l,m)=>ifB j (ja (atL i 0) λo=>J (σ:=jc×jg×jg×jg) (λ(p,q,r,s)=>J (σ:=jg×jg) (λ(v,w)=>some w) λx=>ifB (decide (p.1=5)) (ja (Ya nn r s) λy=>x (q,y)) (x (q,s))) λu=>ifB o.2.2.2.1 (u (k,l,m,(o.1,o.2.1,o.2.2.1,true,o.2.2.2.2.1,o.2.2.2.2.2.1,()))) (u (k,l,m,(o.1,o.2.1,o.2.2.1,decide (0<o.2.2.1),o.2.2.2.2.1,o.2.2.2.2.2.1,())))) (some m)) λn=>ja (some (decide (a0.1=6))) λz=>ifB z (n (a1,z,a0,(false,0,0,false,⟨List.replicate 4 0,wd2⟩,⟨List.replicate 4 0,wd2⟩,()),(true,0,0,false,⟨List.replicate 4 0,wd2⟩,⟨List.replicate 4 0,wd2⟩,()))) (ja (some (decide (a0.1=5))) λb0=>n (a1,b0,a0,(false,0,0,false,⟨List.replicate 4 0,wd2⟩,⟨List.replicate 4 0,wd2⟩,()),(true,0,0,false,⟨List.replicate 4 0,wd2⟩,⟨List.replicate 4 0,wd2⟩,())))))))
noncomputable def zo4:=lk (α:=HK) [(15103,me [(1,.v (.sl jh)),vp 2 0,vp 4 1,vp 5 2,vb 47] [.box 126 [.v Y_api_Rx],.box 173 [.v jh],.box 173 [.v jh]] 3),(241658,me [vp 2 0,vp 4 1,vp 5 2,vp 6 3] [.box 126 [.v Y_api_Rx],.box 173 [.v jh],.box 173 [.v jh],.box 173 [.v jh]] 4),(241659,me [vp 4 0,vp 6 1] [.box 173 [.v jh],.box 173 [.v jh]] 2)]
theorem zj5(nn:Nat):jz 187 ⟨[Y_api_Rx,(.sl jh)],jh,λt=>Yy nn (t.1) (t.2)⟩:=mk1 Tryz.func187 nn 0 [(0,[48,49])] [] [] [] itn zo4 rn gn (tc (zpz nn) (tc (zqs nn) tn)) (by kernel_rfl) λt=>by kernel_rfl
noncomputable def za3(nn:Nat)(a0:(List jc)):Option jg:=J (σ:=jg×jg) (λ(a,b)=>some b) λc=>ja (Vv nn a0) λd=>ifB (decide (¬d=0)) (c ((false,0,0,false,⟨List.replicate 4 0,wd2⟩,⟨List.replicate 4 0,wd2⟩,()),(false,0,0,false,⟨List.replicate 4 0,wd2⟩,⟨List.replicate 4 0,wd2⟩,()))) (jl (σ:=(List jc)×Int×Int×jg×(List jg)) (λ(e,f,g,h,i)j=>ifB (decide (g<f)) (ja (atL e g) λk=>J (σ:=Int×(List jc)×Int×Int×jg×(List jg)×jc) (λ(l,m,n,o,p,q,r)=>ja (some (w64 ((q.length:Int)-l))) λu=>ja (jh7 q u) λv=>ja (Qy nn (q.drop v)) λw=>ja (Yy nn r w) λx=>ja (zcd q u) λy=>ja (apO 96 y [x]) λz=>ja (some (w64 (o+1))) λb0=>j (m,n,b0,p,z)) λs=>J (σ:=Int×(List jc)×Int×Int×Int×Bool×jg×(List jg)×jc) (λ(b1,b2,b3,b4,b5,b6,b7,b8,b9)=>ifB b6 (s (2,b2,b3,b4,b7,b8,b9)) (J (σ:=Int×(List jc)×Int×Int×Bool×jg×(List jg)×jc) (λ(c1,c2,c3,c4,c5,c6,c7,c8)=>ifB c5 (s (1,c2,c3,c4,c6,c7,c8)) (s (c1,c2,c3,c4,c6,c7,c8))) λc9=>ja (some (decide (b5=5))) λd0=>ifB d0 (c9 (b1,b2,b3,b4,d0,b7,b8,b9)) (ja (some (decide (b5=6))) λd1=>ifB d1 (c9 (b1,b2,b3,b4,d1,b7,b8,b9)) (ja (some (decide (b5=7))) λd2=>c9 (b1,b2,b3,b4,d2,b7,b8,b9))))) λc0=>ja (some (decide (k.1=3))) λd3=>ifB d3 (c0 (0,e,f,g,k.1,d3,h,i,k)) (ja (some (decide (k.1=4))) λd4=>c0 (0,e,f,g,k.1,d4,h,i,k))) (ja (vk i.length 0) λd5=>ja (atL i d5) λd6=>c ((false,0,0,false,⟨List.replicate 4 0,wd2⟩,⟨List.replicate 4 0,wd2⟩,()),d6))) nn (a0,(a0.length:Int),0,(false,0,0,false,⟨List.replicate 4 0,wd2⟩,⟨List.replicate 4 0,wd2⟩,()),[]))
noncomputable def zva:=lk (α:=HK) [(6,me [vp 2 0,vp 3 1] [.box 173 [.v jh],.box 173 [.v jh]] 2)]
noncomputable def zmv:=lk (α:=HK) [(250,me [(1,.fn 187 [] []),vp 4 0,vo 7 1,(17,.v (.sl Y_api_Rx)),vi 18,vi 19] [.box 173 [.v jh],.row 173 jh] 2),(128205,me [(1,.fn 187 [] []),vp 4 0,vo 7 1,vp 9 2,vi 10,(17,.v (.sl Y_api_Rx)),vi 18,vi 19] [.box 173 [.v jh],.row 173 jh,.box 126 [.v Y_api_Rx]] 3),(256410,me [(1,.fn 187 [] []),vp 4 0,vo 7 1,vp 9 2,vi 10,(17,.v (.sl Y_api_Rx)),vi 18,vi 19,vi 24,vb 25] [.box 173 [.v jh],.row 173 jh,.box 126 [.v Y_api_Rx]] 3),(1025643,me [(1,.fn 187 [] []),vp 4 0,vo 7 1,vp 9 2,vi 10,(17,.v (.sl Y_api_Rx)),vi 18,vi 19,vb 28] [.box 173 [.v jh],.row 173 jh,.box 126 [.v Y_api_Rx]] 3)]
theorem znt(nn:Nat):jz 147 ⟨[(.sl Y_api_Rx)],jh,λt=>za3 nn t⟩:=mk1 Tryz.func147 nn 9 [(1,[26,27,29,30,31,35,49])] [(1,[(47,.told jh)])] [] [1001157] (itc 650186 Tryz.func186 zmv 1 [] itn (by kernel_rfl)) zva rn (gc (Qh nn) gn) (tc (zeh nn) (tc (zj5 nn) tn)) (by kernel_rfl) λt=>by kernel_rfl
noncomputable def Zt(nn:Nat)(a0:(List jc)):Option Int:=ja (za3 nn a0) λa=>ifB (!a.1) (some (-1)) (some a.2.1)
theorem zhq(nn:Nat):jz 99 ⟨[(.sl Y_api_Rx)],I6,λt=>Zt nn t⟩:=mk1 Tryz.func99 nn 0 [] [] [] [] itn h0 rn gn (tc (znt nn) tn) (by kernel_rfl) λt=>by kernel_rfl
noncomputable def y5(nn:Nat)(a0:(List jc)):Option Bool:=ja (Zt nn a0) λa=>some (decide (a=0))
theorem zhc(nn:Nat):jz 61 ⟨[(.sl Y_api_Rx)],.bool,λt=>y5 nn t⟩:=mk1 Tryz.func61 nn 0 [] [] [] [] itn h0 rn gn (tc (zhq nn) tn) (by kernel_rfl) λt=>by kernel_rfl
noncomputable def Qd(nn:Nat)(a0:(Option Jx)):Option jd:=J (λ(a:jd)=>some a) λb=>ja (a0) λc=>jl (σ:=Int×Int×Int×Int×(Option Jx)×jd) (λ(d,e,f,g,h,i)j=>ifB (decide (g<f)) (ja (h) λk=>ja (atL k.1.1 g) λl=>ja (y5 nn l.2.1) λm=>ifB (!(!m)) (b (d,g,e,())) (ja (some (w64 (g+1))) λn=>j (d,e,f,n,h,i))) (b (0,0,0,()))) nn (10,0,(c.1.1.length:Int),0,a0,(0,0,0,()))
noncomputable def zmm:=lk (α:=HK) [(6,me [vp 2 0] [.box 36 [.v jo]] 1)]
noncomputable def ziy:=lk (α:=HK) [(26,me [vi 1,vi 2,(3,.fn 60 [] [.pt 0 0]),vp 8 1,vi 10,vi 11] [.box 67 [.v (.ref J4)],.box 36 [.v jo]] 2)]
theorem zi5(nn:Nat):jz 58 ⟨[(.ref J4)],jo,λt=>Qd nn t⟩:=mk1 Tryz.func58 nn 9 [(1,[22])] [] [] [] (itc 710059 Tryz.func59 ziy 1 [] (itc 10002580060 Tryz.func60 h0 2 [] itn (by kernel_rfl)) (by kernel_rfl)) zmm rn gn (tc (zhc nn) tn) (by kernel_rfl) λt=>by kernel_rfl
noncomputable def Jl(nn:Nat)(a0:(Option Jx)):Option jd:=ja (a0) λa=>ja (ve nn a.1) λb=>J (λ(c:jd)=>some c) λd=>jl (σ:=Int×Int×Int×Int×(List Bool)×jd) (λ(e,f,g,h,i,j)k=>ifB (decide (h<g)) (ja (atL i h) λl=>ifB (!l) (d (e,h,f,())) (ja (some (w64 (h+1))) λm=>k (e,f,g,m,i,j))) (d (0,0,0,()))) nn (13,0,(b.length:Int),0,b,(0,0,0,()))
noncomputable def zmg:=lk (α:=HK) [(14,me [vp 2 0] [.box 36 [.v jo]] 1)]
noncomputable def ziz:=lk (α:=HK) [(26,me [vi 1,vi 2,(3,.fn 64 [] [.pt 0 0]),vp 8 1,vi 10,vi 11] [.box 42 [.v LB],.box 36 [.v jo]] 2)]
theorem zi3(nn:Nat):jz 62 ⟨[(.ref J4)],jo,λt=>Jl nn t⟩:=mk1 Tryz.func62 nn 9 [(1,[22])] [] [] [] (itc 1310059 Tryz.func59 ziz 1 [] (itc 10002580064 Tryz.func64 h0 2 [] itn (by kernel_rfl)) (by kernel_rfl)) zmg rn gn (tc (zdy nn) tn) (by kernel_rfl) λt=>by kernel_rfl
noncomputable def Zr(nn:Nat)(a0:jm)(a1:(List Bool)):Option Bool:=J (λ(a:Bool)=>some a) λb=>ja (some (!a0.1)) λc=>ifB c (b true) (ja (atL a1 a0.2.1) λd=>b d)
noncomputable def ztm:=lk (α:=HK) [(6,me [vb 4] [] 0)]
theorem zlu(nn:Nat):jz 103 ⟨[Y_api_Item,LB],.bool,λt=>Zr nn (t.1) (t.2)⟩:=mk1 Tryz.func103 nn 0 [(0,[7])] [] [] [] itn ztm rn gn tn (by kernel_rfl) λt=>by kernel_rfl
noncomputable def y9(nn:Nat)(a0:jb):Option (List Bool):=J (λ(a:(List Bool))=>some a) λb=>ja (vd nn a0) λc=>ifB (!c) (b []) (ja (some (a0.2.1.length:Int)) λd=>ja (mkO 1 d) λe=>jl (σ:=(List ji)×Bool×(List Bool)) (λ(f,g,h)i=>ifB g (jl (σ:=(List ji)×Bool×(List ji)×Int×Int×(List Bool)) (λ(j,k,l,m,n,o)p=>ifB (decide (n<m)) (ja (atL l n) λq=>J (σ:=(List ji)×Bool×(List ji)×Int×Int×(List Bool)) (λ(r,s,u,v,w,x)=>ja (some (w64 (w+1))) λz=>p (r,s,u,v,z,x)) λy=>ja (vk o.length q.1) λb0=>ja (atL o b0) λb1=>ifB b1 (y (j,k,l,m,n,o)) (jl (σ:=(List jm)×Int×Int×(List Bool)×ji) (λ(b2,b3,b4,b5,b6)b7=>ifB (decide (b4<b3)) (ja (atL b2 b4) λb8=>ja (Zr nn b8 b5) λb9=>ifB (!b9) (y (j,k,l,m,n,b5)) (ja (some (w64 (b4+1))) λc0=>b7 (b2,b3,c0,b5,b6))) (ja (vk b5.length b6.1) λc1=>ja (zas b5 c1 true) λc2=>y (j,true,l,m,n,c2))) nn (q.2.1,(q.2.1.length:Int),0,o,q))) (i (j,k,o))) nn (f,false,f,(f.length:Int),0,h)) (b h)) nn (a0.2.2.1,true,(List.replicate e false)))
noncomputable def zyt:=lk (α:=HK) [(6,me [vo 2 0] [.row 4 .bool] 1)]
noncomputable def zqo:=lk (α:=HK) [(6,me [(0,.v (.sl Y_api_Prod)),(1,.fn 148 [] [.pt 0 0,.pt 2 0]),vb 4] [.box 42 [.own 1],.row 4 .bool,.box 142 [.fn 103 [] []]] 3),(406,me [(0,.v (.sl Y_api_Prod)),(1,.fn 148 [] [.pt 0 0,.pt 2 0]),vb 4,(8,.v (.sl Y_api_Prod)),vi 9,vi 10] [.box 42 [.own 1],.row 4 .bool,.box 142 [.fn 103 [] []]] 3),(26009,me [(0,.v (.sl Y_api_Prod)),(1,.fn 148 [] [.pt 0 0,.pt 2 0]),vb 4,(8,.v (.sl Y_api_Prod)),vi 9,vi 10] [.box 42 [.own 1],.row 4 .bool,.box 142 [.fn 103 [] []]] 3)]
noncomputable def zqr:=lk (α:=HK) [(58,me [vp 1 0,vp 2 2,vp 3 3,(13,.v (.sl Y_api_Item)),vi 14,vi 15] [.box 42 [.own 1],.row 4 .bool,.box 142 [.fn 103 [] []],.box 66 [.v Y_api_Prod]] 4)]
theorem zpv(nn:Nat):FFOk 66 ⟨[Y_api_Grammar],4,.bool,λt=>y9 nn t⟩:=mk2 Tryz.func66 nn 9 [(1,[11]),(2,[20]),(3,[24])] [] [] [] (itc 650102 Tryz.func102 h0 1 [] (itc 10002590100 Tryz.func100 zqo 2 [] (itc 20003860148 Tryz.func148 zqr 3 [] itn (by kernel_rfl)) (by kernel_rfl)) (by kernel_rfl)) zyt rn gn (tc (za nn) (tc (zlu nn) tn)) (by kernel_rfl) λt=>by kernel_rfl
theorem zpw(nn:Nat):jz 66 ⟨[Y_api_Grammar],LB,λt=>y9 nn t⟩:=(zpv nn).pure
noncomputable def Jm(nn:Nat)(a0:(Option Jx)):Option jd:=ja (a0) λa=>ja (y9 nn a.1) λb=>J (λ(c:jd)=>some c) λd=>jl (σ:=Int×Int×Int×Int×(List Bool)×jd) (λ(e,f,g,h,i,j)k=>ifB (decide (h<g)) (ja (atL i h) λl=>ifB (!l) (d (e,h,f,())) (ja (some (w64 (h+1))) λm=>k (e,f,g,m,i,j))) (d (0,0,0,()))) nn (14,0,(b.length:Int),0,b,(0,0,0,()))
noncomputable def znv:=lk (α:=HK) [(14,me [vp 2 0] [.box 36 [.v jo]] 1)]
noncomputable def zi1:=lk (α:=HK) [(26,me [vi 1,vi 2,(3,.fn 67 [] [.pt 0 0]),vp 8 1,vi 10,vi 11] [.box 42 [.v LB],.box 36 [.v jo]] 2)]
theorem zja(nn:Nat):jz 65 ⟨[(.ref J4)],jo,λt=>Jm nn t⟩:=mk1 Tryz.func65 nn 9 [(1,[22])] [] [] [] (itc 1310059 Tryz.func59 zi1 1 [] (itc 10002580067 Tryz.func67 h0 2 [] itn (by kernel_rfl)) (by kernel_rfl)) znv rn gn (tc (zpw nn) tn) (by kernel_rfl) λt=>by kernel_rfl
noncomputable def Qg(nn:Nat)(a0:(Option Jx)):Option jd:=ja (a0) λa=>ja (vz nn a.1) λb=>some b.1
theorem ziv(nn:Nat):jz 68 ⟨[(.ref J4)],jo,λt=>Qg nn t⟩:=mk1 Tryz.func68 nn 0 [] [] [] [] itn h0 rn gn (tc (znw nn) tn) (by kernel_rfl) λt=>by kernel_rfl
noncomputable def zao(nn:Nat)(a0:Int):Option Bool:=some (decide (¬a0=a0))
theorem zis(nn:Nat):jz 231 ⟨[I6],.bool,λt=>zao nn t⟩:=mk1 Tryz.func231 nn 0 [] [] [] [] itn h0 rn gn tn (by kernel_rfl) λt=>by kernel_rfl
noncomputable def qg(nn:Nat)(a0:Int)(a1:Int):Option Bool:=J (λ(a:Bool)=>some a) λb=>ja (zao nn a0) λc=>ifB c (ja (zao nn a1) λd=>ifB (!d) (b true) (b (decide (a0<a1)))) (b (decide (a0<a1)))
noncomputable def zqh:=lk (α:=HK) [(6,me [vb 4] [] 0)]
theorem zjp(nn:Nat):jz 217 ⟨[I6,I6],.bool,λt=>qg nn (t.1) (t.2)⟩:=mk1 Tryz.func217 nn 0 [] [] [] [] itn zqh rn gn (tc (zis nn) tn) (by kernel_rfl) λt=>by kernel_rfl
noncomputable def p_slices_choosePivotOrdered_int_(nn:Nat)(a0:(List Int))(a1:Int)(a2:Int):Option (Int×Int×Unit):=ja (some (w64 (a2-a1))) λa=>ja (zj8 .i64 a 4) λb=>ja (some (w64 (a1+(w64 (b*1))))) λc=>ja (zj8 .i64 a 4) λd=>ja (some (w64 (a1+(w64 (d*2))))) λe=>ja (zj8 .i64 a 4) λf=>ja (some (w64 (a1+(w64 (f*3))))) λg=>J (σ:=Int×Int) (λ(h,i)=>ifB (decide (i=0)) (some (h,1,())) (ifB (decide (i=12)) (some (h,2,())) (some (h,0,())))) λj=>ifB (decide (8<=a)) (J (σ:=(List Int)×Int×Int×Int×Int) (λ(k,l,m,n,o)=>J (σ:=(List Int)×Int×Int×Int×Int) (λ(q,r,s,u,v)=>J (σ:=(List Int)×Int×Int×Int) (λ(x,y,z,b0)=>J (σ:=Int×Int) (λ(b2,b3)=>j (b2,b3)) λb4=>ja (atL x z) λb5=>ja (atL x y) λb6=>ja (qg nn b5 b6) λb7=>ifB b7 (b4 (y,w64 (b0+1))) (b4 (z,b0))) λb1=>ja (atL q u) λb8=>ja (atL q s) λb9=>ja (qg nn b8 b9) λc0=>ifB c0 (b1 (q,r,u,w64 (v+1))) (b1 (q,r,s,v))) λw=>ja (atL k m) λc1=>ja (atL k l) λc2=>ja (qg nn c1 c2) λc3=>ifB c3 (w (k,m,l,n,w64 (o+1))) (w (k,l,m,n,o))) λp=>ifB (decide (50<=a)) (J (σ:=(List Int)×Int×Int×Int×Int) (λ(c4,c5,c6,c7,c8)=>J (σ:=(List Int)×Int×Int×Int) (λ(d0,d1,d2,d3)=>J (σ:=Int×Int) (λ(d5,d6)=>J (σ:=(List Int)×Int×Int×Int×Int) (λ(d8,d9,e0,e1,e2)=>J (σ:=(List Int)×Int×Int×Int) (λ(e4,e5,e6,e7)=>J (σ:=Int×Int) (λ(e9,f0)=>J (σ:=(List Int)×Int×Int×Int×Int) (λ(f2,f3,f4,f5,f6)=>J (σ:=(List Int)×Int×Int×Int) (λ(f8,f9,g0,g1)=>J (σ:=Int×Int) (λ(g3,g4)=>p (a0,d5,e9,g3,g4)) λg5=>ja (atL f8 g0) λg6=>ja (atL f8 f9) λg7=>ja (qg nn g6 g7) λg8=>ifB g8 (g5 (f9,w64 (g1+1))) (g5 (g0,g1))) λg2=>ja (atL f2 f5) λg9=>ja (atL f2 f4) λh0=>ja (qg nn g9 h0) λh1=>ifB h1 (g2 (f2,f3,f5,w64 (f6+1))) (g2 (f2,f3,f4,f6))) λf7=>ja (atL a0 g) λh2=>ja (atL a0 (w64 (g-1))) λh3=>ja (qg nn h2 h3) λh4=>ifB h4 (f7 (a0,g,w64 (g-1),w64 (g+1),w64 (f0+1))) (f7 (a0,w64 (g-1),g,w64 (g+1),f0))) λf1=>ja (atL e4 e6) λh5=>ja (atL e4 e5) λh6=>ja (qg nn h5 h6) λh7=>ifB h7 (f1 (e5,w64 (e7+1))) (f1 (e6,e7))) λe8=>ja (atL d8 e1) λh8=>ja (atL d8 e0) λh9=>ja (qg nn h8 h9) λi0=>ifB i0 (e8 (d8,d9,e1,w64 (e2+1))) (e8 (d8,d9,e0,e2))) λe3=>ja (atL a0 e) λi1=>ja (atL a0 (w64 (e-1))) λi2=>ja (qg nn i1 i2) λi3=>ifB i3 (e3 (a0,e,w64 (e-1),w64 (e+1),w64 (d6+1))) (e3 (a0,w64 (e-1),e,w64 (e+1),d6))) λd7=>ja (atL d0 d2) λi4=>ja (atL d0 d1) λi5=>ja (qg nn i4 i5) λi6=>ifB i6 (d7 (d1,w64 (d3+1))) (d7 (d2,d3))) λd4=>ja (atL c4 c7) λi7=>ja (atL c4 c6) λi8=>ja (qg nn i7 i8) λi9=>ifB i9 (d4 (c4,c5,c7,w64 (c8+1))) (d4 (c4,c5,c6,c8))) λc9=>ja (atL a0 c) λj0=>ja (atL a0 (w64 (c-1))) λj1=>ja (qg nn j0 j1) λj2=>ifB j2 (c9 (a0,c,w64 (c-1),w64 (c+1),1)) (c9 (a0,w64 (c-1),c,w64 (c+1),0))) (p (a0,c,e,g,0))) (j (e,0))
noncomputable def yy(nn:Nat)(a0:(List Int))(a1:(List Int)):Option (List Int):=ja (small7 a0 a0) λa=>ja (apO 8 a a1) λb=>ja (small7 b (Z2 b)) λc=>ja (small7 c (Qu c)) λd=>some d
theorem zpo(nn:Nat):FFOk 215 ⟨[L6,L6],3,I6,λt=>yy nn (t.1) (t.2)⟩:=mk2 Tryz.func215 nn 0 [] [] [] [] itn h0 rn gn tn (by kernel_rfl) λt=>by kernel_rfl
theorem zpd(nn:Nat):jz 215 ⟨[L6,L6],L6,λt=>yy nn (t.1) (t.2)⟩:=(zpo nn).pure
noncomputable def Qj(nn:Nat)(a0:(List jc)):Option (Option zr3):=ja (Vv nn a0) λa=>ifB (decide (¬a=0)) (some none) (jl (σ:=(List jc)×Int×Int×Bool×Int×(List (Arr 4 Int))×(List (List Int))×(List Int)×(List Int)×(List qu)) (λ(b,c,d,e,f,g,h,i,j,k)l=>ifB (decide (d<c)) (ja (atL b d) λm=>J (σ:=(List jc)×Int×Int×Bool×Int×qu×(List (Arr 4 Int))×(List (List Int))×(List Int)×(List Int)×(List qu)) (λ(n,o,p,q,r,s,u,v,w,x,y)=>ja (apO 64 y [s]) λb0=>ja (some (w64 (p+1))) λb1=>l (n,o,b1,q,r,u,v,w,x,b0)) λz=>ifB (decide (m.1=1)) (ja (some (g.length:Int)) λb2=>ja (apO 32 g [m.2.1]) λb3=>ja (apO 24 h [[]]) λb4=>z (b,c,d,e,f,(([b2],[b2],false,()),1,()),b3,b4,i,j,k)) (ifB (decide (m.1=2)) (z (b,c,d,e,f,(([],[],true,()),0,()),g,h,i,j,k)) (ifB (decide (m.1=3)) (ja (vk k.length (w64 ((k.length:Int)-1))) λb5=>ja (atL k b5) λb6=>ja (zcd k (w64 ((k.length:Int)-1))) λb7=>ja (vk b7.length (w64 ((b7.length:Int)-1))) λb8=>ja (atL b7 b8) λb9=>ja (zcd b7 (w64 ((b7.length:Int)-1))) λc0=>jl (σ:=(List Int)×(List Int)×Int×Int×Bool×Int×(List (Arr 4 Int))×(List (List Int))×(List Int)×(List Int)) (λ(c1,c2,c3,c4,c5,c6,c7,c8,c9,d0)d1=>ifB (decide (c4<c3)) (ja (atL c2 c4) λd2=>ja (vk c8.length d2) λd3=>ja (atL c8 d3) λd4=>ja (yy nn d4 c1) λd5=>ja (vk c8.length d2) λd6=>ja (zas c8 d6 d5) λd7=>ja (some (w64 (c4+1))) λd8=>d1 (c1,c2,c3,d8,c5,c6,c7,d7,c9,d0)) (J (σ:=Bool×Int×(List (Arr 4 Int))×(List (List Int))×(List Int)×(List Int)×qu×qu×Bool×Int×qu×(List Int)×(List Int)) (λ(d9,e0,e1,e2,e3,e4,e5,e6,e7,e8,e9,f0,f1)=>J (σ:=Bool×Int×(List (Arr 4 Int))×(List (List Int))×(List Int)×(List Int)×qu×qu×Bool×Int×qu×(List Int)×(List Int)) (λ(f3,f4,f5,f6,f7,f8,f9,g0,g1,g2,g3,g4,g5)=>J (σ:=Bool×Int×(List (Arr 4 Int))×(List (List Int))×(List Int)×(List Int)×Bool×Int×qu×(List Int)×(List Int)) (λ(g7,g8,g9,h0,h1,h2,h3,h4,h5,h6,h7)=>z (b,c,d,g7,g8,h5,g9,h0,h1,h2,c0)) λh8=>ifB g0.1.2.2.1 (ja (yy nn f9.1.2.1 g0.1.2.1) λh9=>h8 (f3,f4,f5,f6,f7,f8,g1,g2,((g3.1.1,h9,g3.1.2.2.1,()),g3.2.1,()),g4,g5)) (h8 (f3,f4,f5,f6,f7,f8,g1,g2,g3,g4,g5))) λg6=>ifB e5.1.2.2.1 (ja (yy nn e5.1.1 e6.1.1) λi0=>g6 (d9,e0,e1,e2,e3,e4,e5,e6,e7,e8,((i0,e9.1.2.1,e9.1.2.2.1,()),e9.2.1,()),f0,f1)) (g6 (d9,e0,e1,e2,e3,e4,e5,e6,e7,e8,e9,f0,f1))) λf2=>ifB b9.1.2.2.1 (f2 (c5,c6,c7,c8,c9,d0,b9,b6,false,0,((b9.1.1,b6.1.2.1,b6.1.2.2.1,()),w64 (b9.2.1+b6.2.1),()),[],[])) (f2 (c5,c6,c7,c8,c9,d0,b9,b6,false,0,((b9.1.1,b6.1.2.1,false,()),w64 (b9.2.1+b6.2.1),()),[],[])))) nn (b6.1.1,b9.1.2.1,(b9.1.2.1.length:Int),0,e,f,g,h,i,j)) (ifB (decide (m.1=4)) (ja (vk k.length (w64 ((k.length:Int)-1))) λi1=>ja (atL k i1) λi2=>ja (zcd k (w64 ((k.length:Int)-1))) λi3=>ja (vk i3.length (w64 ((i3.length:Int)-1))) λi4=>ja (atL i3 i4) λi5=>ja (zcd i3 (w64 ((i3.length:Int)-1))) λi6=>J (σ:=(List jc)×Int×Int×Bool×Int×qu×(List (Arr 4 Int))×(List (List Int))×(List Int)×(List Int)×(List qu)) (λ(i7,i8,i9,j0,j1,j2,j3,j4,j5,j6,j7)=>z (i7,i8,i9,j0,j1,j2,j3,j4,j5,j6,j7)) λj8=>ja (yy nn i5.1.1 i2.1.1) λj9=>ja (yy nn i5.1.2.1 i2.1.2.1) λk0=>ifB i5.1.2.2.1 (j8 (b,c,d,e,f,((j9,k0,true,()),w64 (i5.2.1+i2.2.1),()),g,h,i,j,i6)) (j8 (b,c,d,e,f,((j9,k0,i2.1.2.2.1,()),w64 (i5.2.1+i2.2.1),()),g,h,i,j,i6))) (ja (vk k.length (w64 ((k.length:Int)-1))) λk1=>ja (atL k k1) λk2=>ja (zcd k (w64 ((k.length:Int)-1))) λk3=>J (σ:=(List jc)×Int×Int×Bool×Int×jc×qu×(List (Arr 4 Int))×(List (List Int))×(List Int)×(List Int)×(List qu)) (λ(k4,k5,k6,k7,k8,k9,l0,l1,l2,l3,l4,l5)=>J (σ:=(List jc)×Int×Int×Bool×Int×qu×(List (Arr 4 Int))×(List (List Int))×(List Int)×(List Int)×(List qu)) (λ(l7,l8,l9,m0,m1,m2,m3,m4,m5,m6,m7)=>z (l7,l8,l9,m0,m1,m2,m3,m4,m5,m6,m7)) λm8=>ifB l0.1.2.2.1 (m8 (k4,k5,k6,k7,k8,((l0.1.1,l0.1.2.1,true,()),l0.2.1,()),l1,l2,l3,l4,l5)) (m8 (k4,k5,k6,k7,k8,((l0.1.1,l0.1.2.1,decide (¬k9.1=6),()),l0.2.1,()),l1,l2,l3,l4,l5))) λl6=>ifB (decide (¬m.1=7)) (jl (σ:=(List Int)×(List Int)×Int×Int×Bool×Int×(List (Arr 4 Int))×(List (List Int))×(List Int)×(List Int)) (λ(m9,n0,n1,n2,n3,n4,n5,n6,n7,n8)n9=>ifB (decide (n2<n1)) (ja (atL n0 n2) λo0=>ja (vk n6.length o0) λo1=>ja (atL n6 o1) λo2=>ja (yy nn o2 m9) λo3=>ja (vk n6.length o0) λo4=>ja (zas n6 o4 o3) λo5=>ja (some (w64 (n2+1))) λo6=>n9 (m9,n0,n1,o6,n3,n4,n5,o5,n7,n8)) (l6 (b,c,d,n3,n4,m,k2,n5,n6,n7,n8,k3))) nn (k2.1.1,k2.1.2.1,(k2.1.2.1.length:Int),0,e,f,g,h,i,j)) (l6 (b,c,d,e,f,m,k2,g,h,i,j,k3))))))) (ja (vk k.length 0) λo7=>ja (atL k o7) λo8=>some (some (g,h,o8,())))) nn (a0,(a0.length:Int),0,false,0,[],[],[],[],[]))
noncomputable def z1g:=lk (α:=HK) [(506,me [vp 3 0,vp 4 1,(5,.fn 212 [] [.pt 1 0]),(18,.v (.sl Y_api_Rx)),vi 19,vi 20] [.box 207 [.own 2,.own 3,.agg [.agg [.own 4,.own 5,.v .bool],.v I6]],.box 230 [.own 6],.row 97 (.arr 4 (.int .u64)),.row 31 L6,.row 3 I6,.row 3 I6,.row 205 vm] 7),(259277,me [vp 3 0,vp 4 1,(5,.fn 212 [] [.pt 1 0]),vp 8 2,(18,.v (.sl Y_api_Rx)),vi 19,vi 20] [.box 207 [.own 3,.own 4,.agg [.agg [.own 5,.own 6,.v .bool],.v I6]],.box 230 [.own 7],.box 205 [.v vm],.row 97 (.arr 4 (.int .u64)),.row 31 L6,.row 3 I6,.row 3 I6,.row 205 vm] 8),(265500157,me [vp 3 0,vp 4 1,(5,.fn 212 [] [.pt 1 0]),vp 8 2,(18,.v (.sl Y_api_Rx)),vi 19,vi 20] [.box 207 [.own 3,.own 4,.agg [.agg [.own 5,.own 6,.v .bool],.v I6]],.box 230 [.own 7],.box 205 [.v vm],.row 97 (.arr 4 (.int .u64)),.row 31 L6,.row 3 I6,.row 3 I6,.row 205 vm] 8),(265500159,me [vp 3 0,vp 4 1,(5,.fn 212 [] [.pt 1 0]),vp 7 2,vp 8 3,(18,.v (.sl Y_api_Rx)),vi 19,vi 20] [.box 207 [.own 4,.own 5,.agg [.agg [.own 6,.own 7,.v .bool],.v I6]],.box 230 [.own 8],.box 126 [.v Y_api_Rx],.box 205 [.v vm],.row 97 (.arr 4 (.int .u64)),.row 31 L6,.row 3 I6,.row 3 I6,.row 205 vm] 9),(531000319,me [vp 3 0,vp 4 1,(5,.fn 212 [] [.pt 1 0]),vp 8 2,(18,.v (.sl Y_api_Rx)),vi 19,vi 20] [.box 207 [.own 3,.own 4,.agg [.agg [.own 5,.own 6,.v .bool],.v I6]],.box 230 [.own 7],.box 205 [.v vm],.row 97 (.arr 4 (.int .u64)),.row 31 L6,.row 3 I6,.row 3 I6,.row 205 vm] 8)]
noncomputable def zro:=lk (α:=HK) [(14,me [vp 4 5,vp 5 6,vp 6 7,vp 7 8] [.box 207 [.own 1,.own 2,.agg [.agg [.own 3,.own 4,.v .bool],.v I6]],.row 97 (.arr 4 (.int .u64)),.row 31 L6,.row 3 I6,.row 3 I6,.box 205 [.v vm],.box 205 [.v vm],.box 205 [.agg [.own 9,.own 10,.v .bool],.v I6],.box 205 [.v vm],.row 3 I6,.row 3 I6] 11),(15,me [vp 4 5,vp 5 6,vp 6 7,vp 7 8] [.box 207 [.own 1,.own 2,.agg [.agg [.own 3,.own 4,.v .bool],.v I6]],.row 97 (.arr 4 (.int .u64)),.row 31 L6,.row 3 I6,.row 3 I6,.box 205 [.v vm],.box 205 [.v vm],.box 205 [.agg [.own 9,.own 10,.v .bool],.v I6],.box 205 [.v vm],.row 3 I6,.row 3 I6] 11),(31,me [vp 6 5,vp 7 6] [.box 207 [.own 1,.own 2,.agg [.agg [.own 3,.own 4,.v .bool],.v I6]],.row 97 (.arr 4 (.int .u64)),.row 31 L6,.row 3 I6,.row 3 I6,.box 205 [.agg [.own 7,.own 8,.v .bool],.v I6],.box 205 [.v vm],.row 3 I6,.row 3 I6] 9)]
noncomputable def zta:=lk (α:=HK) [(6,me [vp 0 0,vl 2,vl 8,vi 9,vi 10] [.box 207 [.own 1,.own 2,.agg [.agg [.own 3,.own 4,.v .bool],.v I6]],.row 97 (.arr 4 (.int .u64)),.row 31 L6,.row 3 I6,.row 3 I6] 5)]
noncomputable def ztz:=lk (α:=HK) [(6,me [vp 0 0,vl 2,vl 8,vi 9,vi 10] [.box 207 [.own 1,.own 2,.agg [.agg [.own 3,.own 4,.v .bool],.v I6]],.row 97 (.arr 4 (.int .u64)),.row 31 L6,.row 3 I6,.row 3 I6] 5)]
theorem Z7(nn:Nat):jz 193 ⟨[(.sl Y_api_Rx)],(.ref zub),λt=>Qj nn t⟩:=mk1 Tryz.func193 nn 9 [(0,[107]),(1,[10]),(5,[29]),(9,[29])] [(0,[(105,.told vm)]),(1,[(17,.told (.arr 4 (.int .u64))),(26,.told L6),(31,.told I6),(33,.told I6)])] [] [] (itc 10270213 Tryz.func213 h0 1 [1,2] (itc 12810212 Tryz.func212 h0 2 [1] (itc 13460212 Tryz.func212 h0 3 [1] (itc 13480214 Tryz.func214 zro 4 [] (itc 40000710216 Tryz.func216 zta 5 [] (itc 14730212 Tryz.func212 h0 6 [1] (itc 14750212 Tryz.func212 h0 7 [1] (itc 7050212 Tryz.func212 h0 8 [1] (itc 8390216 Tryz.func216 ztz 9 [] itn (by kernel_rfl)) (by kernel_rfl)) (by kernel_rfl)) (by kernel_rfl)) (by kernel_rfl)) (by kernel_rfl)) (by kernel_rfl)) (by kernel_rfl)) (by kernel_rfl)) z1g rn gn (tc (zeh nn) (tc (zpd nn) tn)) (by kernel_rfl) λt=>by kernel_rfl
noncomputable def zd2(nn:Nat)(a0:(List jc)):Option (List Int):=ja (Qj nn a0) λa=>ifB (!a.isNone) (ja (a) λb=>some b.2.2.1.1.2.1) (some [])
theorem ztw(nn:Nat):jz 157 ⟨[(.sl Y_api_Rx)],L6,λt=>zd2 nn t⟩:=mk1 Tryz.func157 nn 0 [] [] [] [] itn h0 rn gn (tc (Z7 nn) tn) (by kernel_rfl) λt=>by kernel_rfl
noncomputable def zd8(nn:Nat)(a0:(List jc)):Option (List (Arr 4 Int)):=ja (Qj nn a0) λa=>ifB (!a.isNone) (ja (a) λb=>some b.1) (some [])
theorem zui(nn:Nat):jz 158 ⟨[(.sl Y_api_Rx)],(.sl (.arr 4 (.int .u64))),λt=>zd8 nn t⟩:=mk1 Tryz.func158 nn 0 [] [] [] [] itn h0 rn gn (tc (Z7 nn) tn) (by kernel_rfl) λt=>by kernel_rfl
noncomputable def Yi(nn:Nat)(a0:Int):Option Bool:=some (decide (¬a0=a0))
theorem zfl(nn:Nat):jz 218 ⟨[I6],.bool,λt=>Yi nn t⟩:=mk1 Tryz.func218 nn 0 [] [] [] [] itn h0 rn gn tn (by kernel_rfl) λt=>by kernel_rfl
noncomputable def yf(nn:Nat)(a0:(List Int))(a1:Int):Option (Int×Bool×Unit):=ja (some (a0.length:Int)) λa=>jl (σ:=(List Int)×Int×Int×Int×Int) (λ(b,c,d,e,f)g=>ifB (decide (e<f)) (J (σ:=(List Int)×Int×Int×Int×Int) (λ(h,i,j,k,l)=>g (h,i,j,k,l)) λm=>ja (zm2 .u64 (wr .u64 (w64 (e+f))) 1) λn=>ja (some (wr .i64 n)) λo=>ja (atL b o) λp=>ja (qg nn p c) λq=>ifB q (ja (some (w64 (o+1))) λr=>m (b,c,d,r,f)) (m (b,c,d,e,o))) (J (σ:=Int×Bool) (λ(s,u)=>some (s,u,())) λv=>ja (some (decide (e<d))) λw=>ifB w (ja (atL b e) λx=>ja (some (decide (x=c))) λy=>ifB y (v (e,true)) (ja (atL b e) λz=>ja (Yi nn z) λb0=>ifB b0 (ja (Yi nn c) λb1=>v (e,b1)) (v (e,false)))) (v (e,false)))) nn (a0,a1,a,0,a)
noncomputable def Zn:=lk (α:=HK) [(60,me [vl 0,vi 1,vi 6,vi 7,vi 8] [] 0),(62,me [vi 4,vb 5] [] 0),(241,me [vl 0,vi 1,vi 6,vi 7,vi 8] [] 0)]
theorem Ys(nn:Nat):jz 194 ⟨[L6,I6],(.tup (.cons I6 (.cons .bool .nil))),λt=>yf nn (t.1) (t.2)⟩:=mk1 Tryz.func194 nn 0 [(0,[11,21,29,34,41])] [] [] [] itn Zn rn gn (tc (zjp nn) (tc (zfl nn) tn)) (by kernel_rfl) λt=>by kernel_rfl
noncomputable def zfe(nn:Nat)(a0:(List Int))(a1:Int):Option Bool:=ja (yf nn a0 a1) λa=>some a.2.1
theorem zuu(nn:Nat):jz 159 ⟨[L6,I6],.bool,λt=>zfe nn (t.1) (t.2)⟩:=mk1 Tryz.func159 nn 0 [] [] [] [] itn h0 rn gn (tc (Ys nn) tn) (by kernel_rfl) λt=>by kernel_rfl
noncomputable def zbd(nn:Nat)(a0:(List jc))(a1:Int):Option (List Int):=ja (Qj nn a0) λa=>J (σ:=Int×(Option zr3)×Bool) (λ(b,c,d)=>ifB d (ja (c) λf=>ja (atL f.2.1 b) λg=>some g) (some [])) λe=>ja (some (!a.isNone)) λh=>ifB h (ifB (decide (0<=a1)) (ja (a) λi=>e (a1,a,decide (a1<i.2.2.1.2.1))) (e (a1,a,false))) (e (a1,a,false))
noncomputable def zv0:=lk (α:=HK) [(26,me [vi 1,(5,.v (.ref zub)),vb 22] [] 0)]
theorem zmw(nn:Nat):jz 161 ⟨[(.sl Y_api_Rx),I6],L6,λt=>zbd nn (t.1) (t.2)⟩:=mk1 Tryz.func161 nn 0 [(0,[9])] [] [] [] itn zv0 rn gn (tc (Z7 nn) tn) (by kernel_rfl) λt=>by kernel_rfl
noncomputable def Vd(nn:Nat)(a0:(List Int))(a1:Int):Option (List Int):=ja (some (a0.length:Int)) λa=>ja (mkO 8 a) λb=>jl (σ:=(List Int)×Int×Int×Int×(List Int)) (λ(c,d,e,f,g)h=>ifB (decide (f<e)) (ja (atL c f) λi=>ja (vk g.length f) λj=>ja (zas g j (w64 (i+d))) λk=>ja (some (w64 (f+1))) λl=>h (c,d,e,l,k)) (some g)) nn (a0,a1,(a0.length:Int),0,(List.replicate b (0:Int)))
noncomputable def zvb:=lk (α:=HK) [(58,me [vl 0,vi 1,vo 5 0,vi 11,vi 12] [.row 3 I6] 1)]
theorem zm8(nn:Nat):FFOk 160 ⟨[L6,I6],3,I6,λt=>Vd nn (t.1) (t.2)⟩:=mk2 Tryz.func160 nn 0 [(0,[8,24])] [] [] [] itn zvb rn gn tn (by kernel_rfl) λt=>by kernel_rfl
theorem znc(nn:Nat):jz 160 ⟨[L6,I6],L6,λt=>Vd nn (t.1) (t.2)⟩:=(zm8 nn).pure
noncomputable def zco(nn:Nat)(a0:(List jc)):Option (List Int):=ja (Qj nn a0) λa=>ifB (!a.isNone) (ja (a) λb=>some b.2.2.1.1.1) (some [])
theorem zpe(nn:Nat):jz 162 ⟨[(.sl Y_api_Rx)],L6,λt=>zco nn t⟩:=mk1 Tryz.func162 nn 0 [] [] [] [] itn h0 rn gn (tc (Z7 nn) tn) (by kernel_rfl) λt=>by kernel_rfl
noncomputable def Y9(nn:Nat)(a0:(List jv)):Option je:=jl (σ:=(List jv)×Int×Int×(List (Arr 4 Int))×(List Int)×(List Bool)×(List (List Int))×(List Int)×(List (Arr 4 Int))×(List Int)×(List Bool)×(List (List Int))×(List Int)) (λ(a,b,c,d,e,f,g,h,i,j,k,l,m)n=>ifB (decide (c<b)) (ja (atL a c) λo=>ja (some (i.length:Int)) λp=>ja (zd2 nn o.2.1) λq=>ja (zd8 nn o.2.1) λr=>jl (σ:=(List jv)×Int×(List jc)×Int×(List Int)×Int×Int×(List (Arr 4 Int))×Int×Int×(List (Arr 4 Int))×(List Int)×(List Bool)×(List (List Int))×(List Int)×(List (Arr 4 Int))×(List Int)×(List Bool)×(List (List Int))×(List Int)) (λ(s,u,v,w,x,y,z,b0,b1,b2,b3,b4,b5,b6,b7,b8,b9,c0,c1,c2)c3=>ifB (decide (b2<b1)) (ja (atL b0 b2) λc4=>ja (apO 32 b8 [c4]) λc5=>ja (apO 8 b9 [u]) λc6=>ja (zfe nn x b2) λc7=>ja (apO 1 c0 [c7]) λc8=>ja (zbd nn v b2) λc9=>ja (Vd nn c9 w) λd0=>ja (apO 24 c1 [d0]) λd1=>ja (some (w64 (b2+1))) λd2=>c3 (s,u,v,w,x,y,z,b0,b1,d2,b3,b4,b5,b6,b7,c5,c6,c8,d1,c2)) (ja (zco nn v) λd3=>ja (Vd nn d3 w) λd4=>ja (apO 8 c2 d4) λd5=>ja (some (w64 (z+1))) λd6=>n (s,y,d6,b3,b4,b5,b6,b7,b8,b9,c0,c1,d5))) nn (a,c,o.2.1,p,q,b,c,r,(r.length:Int),0,d,e,f,g,h,i,j,k,l,m)) (some (i,j,k,l,m,()))) nn (a0,(a0.length:Int),0,[],[],[],[],[],[],[],[],[],[])
noncomputable def z27:=lk (α:=HK) [(58,me [(0,.v (.sl Y_api_Token)),vp 2 0,vp 3 1,vi 11,vi 12] [.box 61 [.own 2,.own 3,.own 4,.own 5,.own 6],.box 61 [.own 7,.own 8,.own 9,.own 10,.own 11],.row 97 (.arr 4 (.int .u64)),.row 3 I6,.row 4 .bool,.row 31 L6,.row 3 I6,.row 97 (.arr 4 (.int .u64)),.row 3 I6,.row 4 .bool,.row 31 L6,.row 3 I6] 12),(119610,me [(0,.v (.sl Y_api_Token)),vp 2 0,vp 3 1,vi 4,(5,.v (.sl Y_api_Rx)),vi 6,vl 7,vi 11,vi 12,(26,.v (.sl (.arr 4 (.int .u64)))),vi 27,vi 28] [.box 61 [.own 2,.own 3,.own 4,.own 5,.own 6],.box 61 [.own 7,.own 8,.own 9,.own 10,.own 11],.row 97 (.arr 4 (.int .u64)),.row 3 I6,.row 4 .bool,.row 31 L6,.row 3 I6,.row 97 (.arr 4 (.int .u64)),.row 3 I6,.row 4 .bool,.row 31 L6,.row 3 I6] 12)]
theorem zs2(nn:Nat):jz 105 ⟨[(.sl Y_api_Token)],jj,λt=>Y9 nn t⟩:=mk1 Tryz.func105 nn 0 [(0,[22,63,72])] [(0,[(36,.told (.arr 4 (.int .u64))),(42,.told I6),(50,.told .bool),(60,.told L6)])] [] [] itn z27 rn gn (tc (ztw nn) (tc (zui nn) (tc (zuu nn) (tc (znc nn) (tc (zmw nn) (tc (zpe nn) tn)))))) (by kernel_rfl) λt=>by kernel_rfl
noncomputable def zcj(nn:Nat)(a0:(List Int)):Option Bool:=jl (σ:=(List Int)×Int×Int) (λ(a,b,c)d=>ifB (decide (c<b)) (ja (atL a c) λe=>ja (atL a (w64 (c+1))) λf=>ifB (decide (f<=e)) (some false) (ja (some (w64 (c+1))) λg=>d (a,b,g))) (some true)) nn (a0,w64 ((a0.length:Int)-1),0)
noncomputable def zz3:=lk (α:=HK) [(26,me [vl 0,vi 6,vi 7] [] 0)]
theorem zp7(nn:Nat):jz 211 ⟨[L6],.bool,λt=>zcj nn t⟩:=mk1 Tryz.func211 nn 0 [(0,[20])] [] [] [] itn zz3 rn gn tn (by kernel_rfl) λt=>by kernel_rfl
noncomputable def zac(nn:Nat)(a0:Int)(a1:(List (List Int))):Option Bool:=jl (σ:=Int×(List (List Int))×Int×Int) (λ(a,b,c,d)e=>ifB (decide (d<c)) (ja (atL b d) λf=>J (σ:=Int×(List (List Int))×Int×Int×Bool) (λ(g,h,i,j,k)=>ifB k (some false) (ja (some (w64 (j+1))) λm=>e (g,h,i,m))) λl=>ja (zcj nn f) λn=>ja (some (!n)) λo=>ifB o (l (a,b,c,d,true)) (ja (some (decide (0<(f.length:Int)))) λp=>ifB p (ja (atL f 0) λq=>ja (some (decide (q<0))) λr=>ifB r (l (a,b,c,d,true)) (ja (atL f (w64 ((f.length:Int)-1))) λs=>l (a,b,c,d,decide (a<=s)))) (l (a,b,c,d,false)))) (some true)) nn (a0,a1,(a1.length:Int),0)
noncomputable def zyg:=lk (α:=HK) [(26,me [vi 0,(7,.v M6),vi 8,vi 9] [] 0),(3378,me [vi 0,(7,.v M6),vi 8,vi 9,vb 36] [] 0)]
theorem zpi(nn:Nat):jz 190 ⟨[I6,M6],.bool,λt=>zac nn (t.1) (t.2)⟩:=mk1 Tryz.func190 nn 0 [(0,[15,19,24,37])] [] [] [] itn zyg rn gn (tc (zp7 nn) tn) (by kernel_rfl) λt=>by kernel_rfl
noncomputable def Qn(nn:Nat)(a0:je):Option Bool:=ja (some (a0.1.length:Int)) λa=>J (σ:=Int×Bool×je) (λ(b,c,d)=>ifB c (some false) (jl (σ:=Int×(List Int)×Int×Int×je) (λ(f,g,h,i,j)k=>ifB (decide (i<h)) (ja (atL g i) λl=>ifB (decide (l<0)) (some false) (ja (some (w64 (i+1))) λm=>k (f,g,h,m,j))) (J (λ(n:Bool)=>some n) λo=>ja (zac nn f [j.2.2.2.2.1]) λp=>ifB p (ja (zac nn f j.2.2.2.1) λq=>o q) (o false))) nn (b,d.2.1,(d.2.1.length:Int),0,d))) λe=>ja (some (decide (¬(a0.2.1.length:Int)=a))) λr=>ifB r (e (a,true,a0)) (ifB (decide (¬(a0.2.2.1.length:Int)=a)) (e (a,true,a0)) (e (a,decide (¬(a0.2.2.2.1.length:Int)=a),a0)))
noncomputable def zzs:=lk (α:=HK) [(28,me [vp 1 0,vi 3,vb 27] [.box 61 [.v jj]] 1),(62,me [vb 2] [] 0),(122,me [vp 1 0,vi 3,vl 29,vi 30,vi 31] [.box 61 [.v jj]] 1)]
theorem Yz(nn:Nat):jz 149 ⟨[jj],.bool,λt=>Qn nn t⟩:=mk1 Tryz.func149 nn 0 [(0,[8,13,37])] [(0,[(41,.told L6)])] [] [] itn zzs rn gn (tc (zpi nn) tn) (by kernel_rfl) λt=>by kernel_rfl
noncomputable def zar(nn:Nat)(a0:(Arr 4 Int))(a1:Int):Option Bool:=ja (zj8 .u8 a1 64) λa=>ja (vk 4 a) λb=>ja (atL a0.l b) λc=>ja (zmn .u8 a1 64) λd=>ja (zx6 .u64 1 d) λe=>some (decide (¬(zvi .u64 c e)=0))
theorem zvc(nn:Nat):jz 204 ⟨[(.arr 4 (.int .u64)),U8],.bool,λt=>zar nn (t.1) (t.2)⟩:=mk1 Tryz.func204 nn 0 [] [] [] [] itn h0 rn gn tn (by kernel_rfl) λt=>by kernel_rfl
noncomputable def Qq(nn:Nat)(a0:(Arr 256 Int))(a1:(Arr 4 Int)):Option (Arr 256 Int):=jl (σ:=Int×(Arr 256 Int)×(Arr 4 Int)×(Arr 256 Int)×(List (v7×Int×Unit))) (λ(a,b,c,d,e)f=>ifB (decide (a<256)) (ja (vk 256 a) λg=>ja (atL b.l g) λh=>ja (zar nn c (wr .u8 a)) λi=>J (σ:=Int×Int×(Arr 256 Int)×(Arr 4 Int)×(Arr 256 Int)×(List (v7×Int×Unit))×v7) (λ(j,k,l,m,n,o,p)=>ja (some (zr J0 o p)) λr=>ja (vk 256 j) λs=>ja (zp4 l s (gD 0 r)) λu=>ja (some (w64 (k+1))) λv=>f (v,u,m,n,o)) λq=>ja (some (zr J0 e (h,i,()))) λw=>ifB (!w.isSome) (ja (some (e.length:Int)) λx=>ja (some (Zi J0 e (h,i,()) (wr .u8 x))) λy=>q (a,a,b,c,d,y,(h,i,()))) (q (a,a,b,c,d,e,(h,i,())))) (some b)) nn (0,a0,a1,⟨List.replicate 256 0,wd2⟩,[])
noncomputable def zzh:=lk (α:=HK) [(58,me [vp 2 0,vp 3 1,vp 4 2,vo 5 3,vi 11] [.box 29 [.v (.arr 256 U8)],.box 97 [.v (.arr 4 (.int .u64))],.box 29 [.v (.arr 256 U8)],.obj (.mp Ql U8)] 4),(7475,me [vp 2 0,vp 3 1,vp 4 2,vo 5 3,vi 6,vp 7 4,vi 11] [.box 29 [.v (.arr 256 U8)],.box 97 [.v (.arr 4 (.int .u64))],.box 29 [.v (.arr 256 U8)],.obj (.mp Ql U8),.box 223 [.v Ql]] 5)]
theorem zgv(nn:Nat):jz 173 ⟨[(.arr 256 U8),(.arr 4 (.int .u64))],(.arr 256 U8),λt=>Qq nn (t.1) (t.2)⟩:=mk1 Tryz.func173 nn 0 [(0,[40])] [] [] [] itn zzh rn gn (tc (zvc nn) tn) (by kernel_rfl) λt=>by kernel_rfl
noncomputable def Qr(nn:Nat)(a0:(Arr 256 Int)):Option Int:=jl (σ:=Int×(Arr 256 Int)×Int) (λ(a,b,c)d=>ifB (decide (c<256)) (ja (atL b.l c) λe=>ja (some (max a (w64 ((wr .i64 e)+1)))) λf=>ja (some (w64 (c+1))) λg=>d (f,b,g)) (some a)) nn (0,a0,0)
noncomputable def z0c:=lk (α:=HK) [(58,me [vi 3,(6,.v (.arr 256 U8)),vi 7] [] 0)]
theorem zgq(nn:Nat):jz 112 ⟨[(.arr 256 U8)],I6,λt=>Qr nn t⟩:=mk1 Tryz.func112 nn 0 [(0,[14,15])] [] [] [] itn z0c rn gn tn (by kernel_rfl) λt=>by kernel_rfl
noncomputable def zic(nn:Nat)(a0:(List (Arr 4 Int))):Option ((Arr 256 Int)×Int×Unit):=jl (σ:=(List (Arr 4 Int))×Int×Int×(Arr 256 Int)×(Arr 256 Int)) (λ(a,b,c,d,e)f=>ifB (decide (c<b)) (ja (atL a c) λg=>ja (Qq nn e g) λh=>ja (some (w64 (c+1))) λi=>f (a,b,i,d,h)) (ja (Qr nn e) λj=>some (e,j,()))) nn (a0,(a0.length:Int),0,⟨List.replicate 256 0,wd2⟩,⟨List.replicate 256 0,wd2⟩)
noncomputable def z8k:=lk (α:=HK) [(58,me [vp 2 0,vp 4 1,(7,.v (.sl (.arr 4 (.int .u64)))),vi 8,vi 9] [.box 29 [.v (.arr 256 U8)],.box 29 [.v (.arr 256 U8)]] 2)]
theorem zz8(nn:Nat):jz 150 ⟨[(.sl (.arr 4 (.int .u64)))],(.tup (.cons (.arr 256 U8) (.cons I6 .nil))),λt=>zic nn t⟩:=mk1 Tryz.func150 nn 0 [(0,[16])] [] [] [] itn z8k rn gn (tc (zgq nn) (tc (zgv nn) tn)) (by kernel_rfl) λt=>by kernel_rfl
noncomputable def za1(nn:Nat)(a0:(List Int)):Option (List UInt8):=jl (σ:=(List Int)×Int×Int×(List Int)) (λ(a,b,c,d)e=>ifB (decide (c<b)) (ja (atL a c) λf=>jl (σ:=Int×Int×(List Int)×Int×Int×(List Int)) (λ(g,h,i,j,k,l)m=>ifB (decide (0<=h)) (ja (zm2 .u64 (wr .u64 g) h) λn=>ja (apO 1 l [wr .u8 n]) λo=>ja (some (w64 (h-8))) λp=>m (g,p,i,j,k,o)) (ja (some (w64 (k+1))) λq=>e (i,j,q,l))) nn (f,56,a,b,c,d)) (ja (b2s d) λr=>some r)) nn (a0,(a0.length:Int),0,[])
noncomputable def z5y:=lk (α:=HK) [(58,me [vo 3 0,vl 7,vi 8,vi 9] [.row 5 U8] 1),(14950,me [vo 3 0,vi 5,vi 6,vl 7,vi 8,vi 9] [.row 5 U8] 1)]
theorem zvj(nn:Nat):jz 152 ⟨[L6],.str,λt=>za1 nn t⟩:=mk1 Tryz.func152 nn 0 [(0,[16,25])] [(0,[(23,.told U8)])] [] [] itn z5y rn gn tn (by kernel_rfl) λt=>by kernel_rfl
noncomputable def Jt(nn:Nat)(a0:(Arr 256 Int))(a1:Int):Option (List Int):=jl (σ:=Int×Int×(Arr 256 Int)×(List Int)) (λ(a,b,c,d)e=>ifB (decide (b<256)) (J (σ:=Int×Int×(Arr 256 Int)×(List Int)) (λ(f,g,h,i)=>ja (some (w64 (g+1))) λk=>e (f,k,h,i)) λj=>ja (vk 256 b) λl=>ja (atL c.l l) λm=>ifB (decide ((wr .i64 m)=a)) (ja (apO 1 d [wr .u8 b]) λn=>j (a,b,c,n)) (j (a,b,c,d))) (some d)) nn (a1,0,a0,[])
noncomputable def zyh:=lk (α:=HK) [(58,me [vi 1,vp 2 0,vo 5 1,vi 7] [.box 29 [.v (.arr 256 U8)],.row 5 U8] 2),(934,me [vi 1,vp 2 0,vo 5 1,vi 7] [.box 29 [.v (.arr 256 U8)],.row 5 U8] 2)]
theorem zo6(nn:Nat):FFOk 153 ⟨[(.arr 256 U8),I6],5,U8,λt=>Jt nn (t.1) (t.2)⟩:=mk2 Tryz.func153 nn 0 [(0,[21])] [(0,[(19,.told U8)])] [] [] itn zyh rn gn tn (by kernel_rfl) λt=>by kernel_rfl
theorem zo9(nn:Nat):jz 153 ⟨[(.arr 256 U8),I6],(.sl U8),λt=>Jt nn (t.1) (t.2)⟩:=(zo6 nn).pure
noncomputable def zei(nn:Nat)(a0:je)(a1:(List Int))(a2:Int):Option (List Int):=jl (σ:=Int×(List Int)×Int×Int×je×(List Int)) (λ(a,b,c,d,e,f)g=>ifB (decide (d<c)) (J (σ:=Int×(List Int)×Int×Int×je×(List Int)) (λ(h,i,j,k,l,m)=>ja (some (w64 (k+1))) λo=>g (h,i,j,o,l,m)) λn=>ja (atL b d) λp=>ja (zj8 .u8 a 64) λq=>ja (atL e.1 p) λr=>ja (atL r.l q) λs=>ja (zmn .u8 a 64) λu=>ja (zm2 .u64 s u) λv=>ifB (decide (¬(zvi .u64 v 1)=0)) (ja (apO 8 f [p]) λw=>n (a,b,c,d,e,w)) (n (a,b,c,d,e,f))) (some f)) nn (a2,a1,(a1.length:Int),0,a0,[])
noncomputable def zvl:=lk (α:=HK) [(58,me [(2,.v U8),vp 3 0,vo 7 1,vl 10,vi 11,vi 12] [.box 61 [.v jj],.row 3 I6] 2),(934,me [(2,.v U8),vp 3 0,vo 7 1,vl 10,vi 11,vi 12] [.box 61 [.v jj],.row 3 I6] 2)]
theorem zeq(nn:Nat):FFOk 191 ⟨[jj,L6,U8],3,I6,λt=>zei nn (t.1) (t.2.1) (t.2.2)⟩:=mk2 Tryz.func191 nn 0 [(0,[33])] [(0,[(31,.told I6)])] [] [] itn zvl rn gn tn (by kernel_rfl) λt=>by kernel_rfl
noncomputable abbrev zbi:=zei
noncomputable def Zu(nn:Nat)(a0:je)(a1:Int):Option (List Int):=ja (Qn nn a0) λa=>ifB (!a) (some []) (ja (zbi nn a0 a0.2.2.2.2.1 a1) λb=>some b)
theorem zpx(nn:Nat):FFOk 154 ⟨[jj,U8],3,I6,λt=>Zu nn (t.1) (t.2)⟩:=mk2 Tryz.func154 nn 0 [] [] [] [196] itn h0 rn (gc (zeq nn) gn) (tc (Yz nn) tn) (by kernel_rfl) λt=>by kernel_rfl
theorem zpm(nn:Nat):jz 154 ⟨[jj,U8],L6,λt=>Zu nn (t.1) (t.2)⟩:=(zpx nn).pure
noncomputable def zn8(nn:Nat)(a0:je)(a1:(List Int))(a2:Int):Option (List Int):=jl (σ:=Int×(List Int)×(List Int)×Int×Int×je) (λ(a,b,c,d,e,f)g=>ifB (decide (e<d)) (J (σ:=Int×(List Int)×(List Int)×Int×Int×je) (λ(h,i,j,k,l,m)=>ja (some (w64 (l+1))) λo=>g (h,i,j,k,o,m)) λn=>ja (atL c e) λp=>J (σ:=Int×(List Int)×Int×(List Int)×Int×Int×Bool×je) (λ(q,r,s,u,v,w,x,y)=>ifB x (ja (atL y.2.2.2.1 s) λb0=>ja (Je nn r b0) λb1=>n (q,b1,u,v,w,y)) (n (q,r,u,v,w,y))) λz=>ja (some (decide (0<=p))) λb2=>ifB b2 (z (a,b,p,c,d,e,decide (p<(f.2.2.2.1.length:Int)),f)) (z (a,b,p,c,d,e,false,f))) (ja (zbi nn f b a) λb3=>some b3)) nn (a2,[],a1,(a1.length:Int),0,a0)
noncomputable def z9p:=lk (α:=HK) [(58,me [(2,.v U8),vp 3 0,vl 7,vl 10,vi 11,vi 12] [.box 61 [.v jj]] 1),(934,me [(2,.v U8),vp 3 0,vl 7,vl 10,vi 11,vi 12] [.box 61 [.v jj]] 1),(7474,me [(2,.v U8),vp 3 0,vl 7,vi 9,vl 10,vi 11,vi 12,vb 24] [.box 61 [.v jj]] 1)]
theorem zz2(nn:Nat):FFOk 192 ⟨[jj,L6,U8],3,I6,λt=>zn8 nn (t.1) (t.2.1) (t.2.2)⟩:=mk2 Tryz.func192 nn 0 [(0,[17,32])] [] [] [515] itn z9p rn (gc (zeq nn) gn) (tc (zgp nn) tn) (by kernel_rfl) λt=>by kernel_rfl
noncomputable abbrev zoi:=zn8
noncomputable def zbw(nn:Nat)(a0:je)(a1:(List Int))(a2:Int):Option (List Int):=ja (Qn nn a0) λa=>ifB (!a) (some []) (ja (zoi nn a0 a1 a2) λb=>some b)
theorem zrq(nn:Nat):FFOk 155 ⟨[jj,L6,U8],3,I6,λt=>zbw nn (t.1) (t.2.1) (t.2.2)⟩:=mk2 Tryz.func155 nn 0 [] [] [] [195] itn h0 rn (gc (zz2 nn) gn) (tc (Yz nn) tn) (by kernel_rfl) λt=>by kernel_rfl
theorem zur(nn:Nat):jz 155 ⟨[jj,L6,U8],L6,λt=>zbw nn (t.1) (t.2.1) (t.2.2)⟩:=(zrq nn).pure
noncomputable def zcs(nn:Nat)(a0:je)(a1:(List Int)):Option Int:=ja (Qn nn a0) λa=>ifB (!a) (some (-1)) (jl (σ:=Int×(List Int)×Int×Int×je) (λ(b,c,d,e,f)g=>ifB (decide (e<d)) (J (σ:=Int×(List Int)×Int×Int×je) (λ(h,i,j,k,l)=>ja (some (w64 (k+1))) λn=>g (h,i,j,n,l)) λm=>ja (atL c e) λo=>J (σ:=Int×Int×(List Int)×Int×Int×Bool×je) (λ(p,q,r,s,u,v,w)=>ifB v (m (p,r,s,u,w)) (J (σ:=Int×Int×(List Int)×Int×Int×je) (λ(y,z,b0,b1,b2,b3)=>ja (atL b3.2.1 z) λb5=>ja (some (min y b5)) λb6=>m (b6,b0,b1,b2,b3)) λb4=>ifB (decide (p<0)) (ja (atL w.2.1 q) λb7=>b4 (b7,q,r,s,u,w)) (b4 (p,q,r,s,u,w)))) λx=>ja (some (decide (o<0))) λb8=>ifB b8 (x (b,o,c,d,e,true,f)) (ifB (decide ((f.2.1.length:Int)<=o)) (x (b,o,c,d,e,true,f)) (ja (atL f.2.2.1 o) λb9=>x (b,o,c,d,e,!b9,f)))) (some b)) nn ((-1),a1,(a1.length:Int),0,a0))
noncomputable def zyv:=lk (α:=HK) [(122,me [vp 2 0,vi 5,vl 12,vi 13,vi 14] [.box 61 [.v jj]] 1),(1958,me [vp 2 0,vi 5,vl 12,vi 13,vi 14] [.box 61 [.v jj]] 1),(15667,me [vp 2 0,vi 5,vi 7,vl 12,vi 13,vi 14] [.box 61 [.v jj]] 1),(31332,me [vp 2 0,vi 5,vi 7,vl 12,vi 13,vi 14,vb 34] [.box 61 [.v jj]] 1)]
theorem zpr(nn:Nat):jz 156 ⟨[jj,L6],I6,λt=>zcs nn (t.1) (t.2)⟩:=mk1 Tryz.func156 nn 0 [(0,[19,48,49])] [] [] [] itn zyv rn gn (tc (Yz nn) tn) (by kernel_rfl) λt=>by kernel_rfl
noncomputable def Zb(nn:Nat)(a0:je)(a1:Int):Option (D_api_Dfa×Int×Int×Unit):=ja (Qn nn a0) λa=>ifB (!a) (some ((⟨List.replicate 256 0,wd2⟩,0,[],[],()),0,3,())) (J (σ:=Int×Bool×je×(Arr 256 Int)×Int×(List (List Int))×(List Int)) (λ(b,c,d,e,f,g,h)=>ifB c (some ((⟨List.replicate 256 0,wd2⟩,0,[],[],()),0,2,())) (ja (zic nn d.1) λj=>jl (σ:=Int×Int×je×(Arr 256 Int)×Int×(Arr 256 Int)×Int×(List (List Int))×(List Int)×(List (List Int))×(List Int)×(List (List Int))×(List ((List UInt8)×Int×Unit))) (λ(k,l,m,n,o,p,q,r,s,u,v,w,x)y=>ifB (decide (l<(w.length:Int))) (ja (mkO 8 q) λz=>jl (σ:=Int×Int×Int×Int×je×(Arr 256 Int)×Int×(Arr 256 Int)×Int×(List Int)×(List (List Int))×(List Int)×(List (List Int))×(List Int)×(List (List Int))×(List ((List UInt8)×Int×Unit))) (λ(b0,b1,b2,b3,b4,b5,b6,b7,b8,b9,c0,c1,c2,c3,c4,c5)c6=>ifB (decide (b3<b2)) (ja (Jt nn b7 b3) λc7=>ja (atL c7 0) λc8=>J (σ:=Int×Int×Int×Int×je×(Arr 256 Int)×Int×(Arr 256 Int)×Int×(List Int)×(List (List Int))×(List Int)×(List (List Int))×(List Int)×(List (List Int))×(List ((List UInt8)×Int×Unit))) (λ(c9,d0,d1,d2,d3,d4,d5,d6,d7,d8,d9,e0,e1,e2,e3,e4)=>ifB (decide (c9<(e3.length:Int))) (some ((⟨List.replicate 256 0,wd2⟩,0,[],[],()),0,16,())) (ja (some (w64 (d2+1))) λe6=>c6 (c9,d0,d1,e6,d3,d4,d5,d6,d7,d8,d9,e0,e1,e2,e3,e4))) λe5=>ifB (decide (b1=0)) (J (σ:=Int×Int×Int×Int×je×(Arr 256 Int)×Int×(Arr 256 Int)×Int×(List Int)×(List (List Int))×(List Int)×(List (List Int))×(List Int)×(List (List Int))×(List ((List UInt8)×Int×Unit))) (λ(e7,e8,e9,f0,f1,f2,f3,f4,f5,f6,f7,f8,f9,g0,g1,g2)=>e5 (e7,e8,e9,f0,f1,f2,f3,f4,f5,f6,f7,f8,f9,g0,g1,g2)) λg3=>ja (Zu nn b4 c8) λg4=>ifB (decide ((g4.length:Int)=0)) (ja (vk b9.length b3) λg5=>ja (zas b9 g5 (-1)) λg6=>g3 (b0,b1,b2,b3,b4,b5,b6,b7,b8,g6,c0,c1,c2,c3,c4,c5)) (ja (za1 nn g4) λg7=>ja (some (zr zj1 c5 g7)) λg8=>J (σ:=Int×(List ((List UInt8)×Int×Unit))×(List (List Int))) (λ(g9,h0,h1)=>ja (vk b9.length b3) λh3=>ja (zas b9 h3 g9) λh4=>g3 (b0,b1,b2,b3,b4,b5,b6,b7,b8,h4,c0,c1,c2,c3,h1,h0)) λh2=>ifB (!g8.isSome) (ja (some (c4.length:Int)) λh5=>ja (some (Zi zj1 c5 g7 h5)) λh6=>ja (apO 24 c4 [g4]) λh7=>h2 (h5,h6,h7)) (h2 (gD 0 g8,c5,c4)))) (J (σ:=Int×Int×Int×Int×je×(Arr 256 Int)×Int×(Arr 256 Int)×Int×(List Int)×(List (List Int))×(List Int)×(List (List Int))×(List Int)×(List (List Int))×(List ((List UInt8)×Int×Unit))) (λ(h8,h9,i0,i1,i2,i3,i4,i5,i6,i7,i8,i9,j0,j1,j2,j3)=>e5 (h8,h9,i0,i1,i2,i3,i4,i5,i6,i7,i8,i9,j0,j1,j2,j3)) λj4=>ja (vk c4.length b1) λj5=>ja (atL c4 j5) λj6=>ja (zbw nn b4 j6 c8) λj7=>ifB (decide ((j7.length:Int)=0)) (ja (vk b9.length b3) λj8=>ja (zas b9 j8 (-1)) λj9=>j4 (b0,b1,b2,b3,b4,b5,b6,b7,b8,j9,c0,c1,c2,c3,c4,c5)) (ja (za1 nn j7) λk0=>ja (some (zr zj1 c5 k0)) λk1=>J (σ:=Int×(List ((List UInt8)×Int×Unit))×(List (List Int))) (λ(k2,k3,k4)=>ja (vk b9.length b3) λk6=>ja (zas b9 k6 k2) λk7=>j4 (b0,b1,b2,b3,b4,b5,b6,b7,b8,k7,c0,c1,c2,c3,k4,k3)) λk5=>ifB (!k1.isSome) (ja (some (c4.length:Int)) λk8=>ja (some (Zi zj1 c5 k0 k8)) λk9=>ja (apO 24 c4 [j7]) λl0=>k5 (k8,k9,l0)) (k5 (gD 0 k1,c5,c4))))) (ja (apO 24 c2 [b9]) λl1=>ja (vk c4.length b1) λl2=>ja (atL c4 l2) λl3=>ja (zcs nn b4 l3) λl4=>ja (apO 8 c3 [l4]) λl5=>ja (some (w64 (b1+1))) λl6=>y (b0,l6,b4,b5,b6,b7,b8,c0,c1,l1,l5,c4,c5))) nn (k,l,((List.replicate z (0:Int)).length:Int),0,m,n,o,p,q,(List.replicate z (0:Int)),r,s,u,v,w,x)) (some ((p,q,u,v,()),(w.length:Int),0,()))) nn (b,0,d,e,f,j.1,j.2.1,g,h,[],[],[[]],[]))) λi=>ja (some (decide (a1<1))) λl7=>ifB l7 (i (a1,true,a0,⟨List.replicate 256 0,wd2⟩,0,[],[])) (i (a1,decide (4096<a1),a0,⟨List.replicate 256 0,wd2⟩,0,[],[])))
noncomputable def z10:=lk (α:=HK) [(102,me [vi 1,vp 2 0,vp 4 1,vb 20] [.box 61 [.v jj],.box 33 [.v (.arr 256 U8),.v I6,.own 2,.own 3],.row 31 L6,.row 3 I6] 4),(1018,me [vi 1,vp 2 0,vp 4 1,vp 7 2,vp 8 3,(10,.fn 151 [] [.pt 4 0,.pt 3 0]),vi 11] [.box 61 [.v jj],.box 33 [.v (.arr 256 U8),.v I6,.own 5,.own 6],.box 33 [.v (.arr 256 U8),.v I6,.own 7,.own 8],.box 30 [.own 9],.box 175 [.own 10],.row 31 L6,.row 3 I6,.row 31 L6,.row 3 I6,.row 31 L6,.obj (.mp .str I6)] 11),(260682,me [vi 1,vp 2 0,vp 4 1,vp 7 2,vp 8 3,(10,.fn 151 [] [.pt 4 0,.pt 3 0]),vi 11,vo 12 5,vi 49,vi 50] [.box 61 [.v jj],.box 33 [.v (.arr 256 U8),.v I6,.own 6,.own 7],.box 33 [.v (.arr 256 U8),.v I6,.own 8,.own 9],.box 30 [.own 10],.box 175 [.own 11],.row 3 I6,.row 31 L6,.row 3 I6,.row 31 L6,.row 3 I6,.row 31 L6,.obj (.mp .str I6)] 12),(33367347,me [vi 1,vp 2 0,vp 4 1,vp 7 2,vp 8 3,(10,.fn 151 [] [.pt 4 0,.pt 3 0]),vi 11,vo 12 5,vi 49,vi 50] [.box 61 [.v jj],.box 33 [.v (.arr 256 U8),.v I6,.own 6,.own 7],.box 33 [.v (.arr 256 U8),.v I6,.own 8,.own 9],.box 30 [.own 10],.box 175 [.own 11],.row 3 I6,.row 31 L6,.row 3 I6,.row 31 L6,.row 3 I6,.row 31 L6,.obj (.mp .str I6)] 12),(266938778,me [vi 1,vp 2 0,vp 4 1,vp 7 2,vp 8 3,(10,.fn 151 [] [.pt 4 0,.pt 3 0]),vi 11,vo 12 5,vi 49,vi 50] [.box 61 [.v jj],.box 33 [.v (.arr 256 U8),.v I6,.own 6,.own 7],.box 33 [.v (.arr 256 U8),.v I6,.own 8,.own 9],.box 30 [.own 10],.box 175 [.own 11],.row 3 I6,.row 31 L6,.row 3 I6,.row 31 L6,.row 3 I6,.row 31 L6,.obj (.mp .str I6)] 12),(266938779,me [vi 1,vp 2 0,vp 4 1,vp 7 2,vp 8 3,(10,.fn 151 [] [.pt 4 0,.pt 3 0]),vi 11,vo 12 5,vi 49,vi 50] [.box 61 [.v jj],.box 33 [.v (.arr 256 U8),.v I6,.own 6,.own 7],.box 33 [.v (.arr 256 U8),.v I6,.own 8,.own 9],.box 30 [.own 10],.box 175 [.own 11],.row 3 I6,.row 31 L6,.row 3 I6,.row 31 L6,.row 3 I6,.row 31 L6,.obj (.mp .str I6)] 12)]
noncomputable def zuo:=lk (α:=HK) [(31,me [vi 6] [.box 175 [.own 1],.obj (.mp .str I6),.box 30 [.own 3],.row 31 L6] 4)]
noncomputable def zum:=lk (α:=HK) [(31,me [vi 6] [.box 175 [.own 1],.obj (.mp .str I6),.box 30 [.own 3],.row 31 L6] 4)]
theorem zup(nn:Nat):jz 104 ⟨[jj,I6],(.tup (.cons Y_api_Dfa (.cons I6 (.cons I6 .nil)))),λt=>Zb nn (t.1) (t.2)⟩:=mk1 Tryz.func104 nn 9 [(0,[22,44,86]),(1,[22]),(2,[22])] [(0,[(36,.own L6),(90,.ownx),(101,.told I6)]),(1,[(28,.told L6)]),(2,[(28,.told L6)])] [(1476,[(90,M6)])] [] (itc 11580151 Tryz.func151 zuo 1 [3] (itc 12260151 Tryz.func151 zum 2 [3] itn (by kernel_rfl)) (by kernel_rfl)) z10 rn gn (tc (Yz nn) (tc (zz8 nn) (tc (zvj nn) (tc (zo9 nn) (tc (zpm nn) (tc (zur nn) (tc (zpr nn) tn))))))) (by kernel_rfl) λt=>by kernel_rfl
noncomputable def zct(nn:Nat)(a0:(Arr 256 Int)):Option Bool:=ja (Qq nn a0 (⟨List.replicate 4 0,wd2⟩)) λa=>some (a.l == a0.l)
theorem zp8(nn:Nat):jz 111 ⟨[(.arr 256 U8)],.bool,λt=>zct nn t⟩:=mk1 Tryz.func111 nn 0 [] [] [] [] itn h0 rn gn (tc (zgv nn) tn) (by kernel_rfl) λt=>by kernel_rfl
noncomputable def p_dfa_Right(nn:Nat)(a0:D_api_Dfa):Option Bool:=ja (some (a0.2.2.1.length:Int)) λa=>J (σ:=Int×Bool×D_api_Dfa) (λ(b,c,d)=>ifB c (some false) (J (λ(f:Bool)=>some f) λg=>jl (σ:=Int×Bool×(List (List Int))×Int×Int×D_api_Dfa) (λ(h,i,j,k,l,m)n=>ifB (decide (l<k)) (ja (atL j l) λo=>J (σ:=Int×Bool×(List Int)×(List (List Int))×Int×Int×Bool×D_api_Dfa) (λ(p,q,r,s,u,v,w,x)=>ifB w (g false) (jl (σ:=Int×Bool×(List (List Int))×Int×Int×(List Int)×Int×Int×D_api_Dfa) (λ(z,b0,b1,b2,b3,b4,b5,b6,b7)b8=>ifB (decide (b6<b5)) (ja (atL b4 b6) λb9=>J (σ:=Int×Bool×(List (List Int))×Int×Int×(List Int)×Int×Int×Bool×D_api_Dfa) (λ(c0,c1,c2,c3,c4,c5,c6,c7,c8,c9)=>ifB c8 (g false) (ja (some (w64 (c7+1))) λd1=>b8 (c0,c1,c2,c3,c4,c5,c6,d1,c9))) λd0=>ja (some (decide (b9<(-1)))) λd2=>ifB d2 (d0 (z,b0,b1,b2,b3,b4,b5,b6,true,b7)) (d0 (z,b0,b1,b2,b3,b4,b5,b6,decide (z<=b9),b7))) (ja (some (w64 (b3+1))) λd3=>n (z,b0,b1,b2,d3,b7))) nn (p,q,s,u,v,r,(r.length:Int),0,x))) λy=>ja (some (decide (¬(o.length:Int)=m.2.1))) λd4=>ifB d4 (y (h,i,o,j,k,l,true,m)) (ja (atL m.2.2.2.1 l) λd5=>y (h,i,o,j,k,l,decide (d5<(-1)),m))) (g i)) nn (b,true,d.2.2.1,(d.2.2.1.length:Int),0,d))) λe=>ja (some (decide (a=0))) λd6=>ifB d6 (e (a,true,a0)) (ifB (decide (¬(a0.2.2.2.1.length:Int)=a)) (e (a,true,a0)) (ja (zct nn a0.1) λd7=>ifB (!d7) (e (a,true,a0)) (ja (Qr nn a0.1) λd8=>e (a,decide (¬d8=a0.2.1),a0))))
noncomputable def z2x:=lk (α:=HK) [(52,me [vp 1 0,vi 3,vb 34] [.box 33 [.v Y_api_Dfa]] 1),(445,me [vb 4] [] 0),(890,me [vp 1 0,vi 3,vb 4,(36,.v M6),vi 37,vi 38] [.box 33 [.v Y_api_Dfa]] 1),(227940,me [vp 1 0,vi 3,vb 4,vl 6,(36,.v M6),vi 37,vi 38,vb 55] [.box 33 [.v Y_api_Dfa]] 1),(455886,me [vp 1 0,vi 3,vb 4,(36,.v M6),vi 37,vi 38,vl 56,vi 57,vi 58] [.box 33 [.v Y_api_Dfa]] 1),(58353458,me [vp 1 0,vi 3,vb 4,(36,.v M6),vi 37,vi 38,vl 56,vi 57,vi 58,vb 68] [.box 33 [.v Y_api_Dfa]] 1)]
theorem P_dfa_Right_ok(nn:Nat):jz 75 ⟨[Y_api_Dfa],.bool,λt=>p_dfa_Right nn t⟩:=mk1 Tryz.func75 nn 0 [(0,[11,13,47,63,69,70])] [] [] [] itn z2x rn gn (tc (zp8 nn) (tc (zgq nn) tn)) (by kernel_rfl) λt=>by kernel_rfl
end Go.Proofs.YtdllbdlnmjngcaaGreat.T
namespace Go.Proofs.YtdllbdlnmjngcaaGreat
set_option maxRecDepth 100000
set_option maxHeartbeats 8000000
set_option linter.unusedVariables false
set_option linter.unusedSimpArgs false
open Go Go.RowKit L
set_option maxRecDepth 10000
set_option maxHeartbeats 4000000
structure qh where
 z0p:(Arr 256 Int)
 zcv:Int
 jy:(List (List Int))
 Jq:(List Int)
def q7(x:qh):PV :=.agg (((arV (n:=256) U8) x.z0p).cells++[I x.zcv,zmr x.jy,slI x.Jq])
theorem Q6(x:qh):NoP (q7 x) :=.agg _ (nopa (zcw (jie _ (λ_=>(.u _)))) (zef (.u _) (zef (zdi _) (zef (zfo _) (zhe)))))
theorem zbg(x:qh):(q7 x).cells.length=259:=(jgr (zy7 _ _ (λ_=>rfl)) rfl)
theorem zfp(H:PHeap)(x:qh):(q7 x).cells.all (vg H)=true:=(jib (arV_lf _ _ _ (λ_=>rfl)) rfl)
theorem zbe(x:qh):vw false 1 ((q7 x).cells.drop 257)=some (zmr x.jy):=(ld_r (m:=256) (i:=1) (zy7 _ _ (λ_=>rfl)) rfl)
theorem zv2(x:qh):vw false 1 ((q7 x).cells.drop 258)=some (slI x.Jq):=(ld_r (m:=256) (i:=2) (zy7 _ _ (λ_=>rfl)) rfl)
def zwz(a:qh):T.D_api_Dfa:=(⟨a.z0p.1,a.z0p.2⟩,a.zcv,a.jy,a.Jq,())
theorem flatU8(l:List Int):l.flatMap (T.encC (.int .u8))=l.map U8:=by
 induction l with
 |nil=>rfl
 |cons a l ih=>rw[wex,ih];rfl
theorem zod(a:qh):T.enc T.Y_api_Dfa (zwz a)=q7 a:=by
 cases a with
 |mk c w n l=>
  show PV.agg (c.1.flatMap (T.encC (.int .u8))++_)=PV.agg ((c.1.map U8)++_);rw[flatU8];rfl
def qz(a:T.D_api_Dfa):qh:=⟨⟨a.1.l,a.1.h⟩,a.2.1,a.2.2.1,a.2.2.2.1⟩
noncomputable def Zc(a0:qh):G Bool:=λnn=>T.p_dfa_Right nn (zwz a0)
theorem zjg{nn:Nat}{a0:qh}{r:Bool}(h0:Zc a0 nn=some r):PCall Tryz.prog 75 [q7 a0] (· = B r):=by
 have:=(T.P_dfa_Right_ok nn).2 (zwz a0) r h0;rw[<- zod];exact this
noncomputable def zai(a0:qh)(a1:Int):G (List Int):=
 G.bind (G.lift (idx a0.jy a1)) λx5=>G.bind (G.loop (σ:=(Int×(List Int))) (α:=(List Int)) (λ(x9,x10)=>G.cond (decide (x9<(x5.length:Int))) (G.bind (α:=(List Int)) (G.bind (G.lift (idx x5 x9)) λx25=>G.cond (decide (0<=x25)) (G.bind (G.lift (app 8 x10 ([x25]:List Int))) λx28=>G.pure x28) (G.pure x10)) λx22=>G.pure (.inl ((w64 (x9+1)),x22))) (G.pure (.inr x10))) (0,[])) λx33=>G.pure x33
theorem z3u {nn : Nat} {a0 : qh} {a1 : Int} {r : (List Int)} (h0 : zai a0 a1 nn = some r) : PCall Tryz.prog 115 [q7 a0, I a1] (· = PV.fr 3 1 (r.map I)) := by
 unfold zai at h0
 refine wag Tryz.func115 rfl Tryz.ntmps115 (by simp) fun W => A2 0 (e_ (q7 a0)) 1 (e_ (I a1)) fun F f0 f1 => ?_
 generalize PHeap.empty = H
 refine SR fun K1 hK1 => q3 (jcd f0 (zfp _ _)) <| q1 (Vr rfl) ?_
 have o1004 : ownL 3 1 I H 1004 (PV.u (.slice none 0 0)) [] := ownL.nil _ _
 refine nl hK1 <| A2 1 f1 2 (e_ (PV.rp (q7 a0).cells)) fun F f1 f2 => ?_
 refine SR fun K2 hK2 => q1 (Vr rfl) ?_
 have o1004 : ownL 3 1 I H 1004 (PV.u (.slice none 0 0)) [] := ownL.nil _ _
 refine nl hK2 <| A3 1 f1 2 f2 5 (e_ (PV.u (.slice none 0 0))) fun F f1 f2 f5 => ?_
 refine PC.seq fun K3 hK3 => SR fun K4 hK4 => q1 (zrj zl8 zce (by decide) f2) <| q1 (zkt zce rfl (zbe a0)) <| m_ f1 <| bk h0 fun x5 hx5 h0 => q1 (zfc (rep := slI) (xs := a0.jy) zhx rfl rfl hx5) <| q1 (zg7 zgb rfl) <| q1 (zg4 (rep := I) (xs := x5) zaj rfl) <| m_ (e_ (I 0)) <| nl hK4 <| A4 5 f5 12 (e_ (slI x5)) 13 (e_ (I (x5.length : Int))) 14 (e_ (I 0)) fun F f5 f12 f13 f14 => ?_
 refine PC.block <| bk h0 fun o12 ho12 h0 => ?_
 obtain ⟨B13, hB13, ho12⟩ := waz ho12
 refine PC.loop (fun m16 F H => ∃ s36 : (Int × (List Int)), ∃ q11, zdm B13 m16 s36 = some o12 ∧ F 5 = q11 ∧ F 12 = (slI x5) ∧ F 13 = (I (x5.length : Int)) ∧ F 14 = (I s36.1) ∧ ownL 3 1 I H 1004 q11 s36.2) (m := nn) ⟨(0, []), (PV.u (.slice none 0 0)), ho12, f5, f12, f13, f14, o1004⟩ fun m16 F H hI => ?_
 obtain ⟨⟨x9, x10⟩, q11, ho12, f5, f12, f13, f14, o1004⟩ := hI
 obtain ⟨m16, rfl, st14, hs15, ho12⟩ := zay ho12
 rw [hB13] at hs15
 try dsimp only at hs15
 refine SR fun K17 hK17 => q1 (zav rfl f14 f13 zet) <| nl hK17 <| A5 5 f5 12 f12 13 f13 14 f14 15 (e_ (B (decide (x9 < (x5.length : Int))))) fun F f5 f12 f13 f14 f15 => ?_
 refine PC.seq fun K18 hK18 => ?_
 refine cd f15 hs15 (fun hb19 hs15 => ?_) fun hb19 hs15 => ?_
 refine sk hK18 <| A4 5 f5 12 f12 13 f13 14 f14 fun F f5 f12 f13 f14 => ?_
 obtain ⟨o21, ho21, hs15⟩ := bs hs15
 refine wcm (fun F H => ∃ s31 : (List Int), ∃ q23, o21 = s31 ∧ F 5 = q23 ∧ F 12 = (slI x5) ∧ F 13 = (I (x5.length : Int)) ∧ F 14 = (I x9) ∧ ownL 3 1 I H 1004 q23 s31) ?_ ?_
 refine PC.block <| SR fun K24 hK24 => bk ho21 fun x25 hx25 ho21 => q1 (zfc (rep := I) (xs := x5) zdp f12 f14 hx25) <| q1 (zg7 zoy rfl) <| q1 (Vr (e_ (I x25))) <| nl hK24 <| A5 5 f5 7 (e_ (I x25)) 12 f12 13 f13 14 f14 fun F f5 f7 f12 f13 f14 => ?_
 refine SR fun K26 hK26 => m_ f7 <| q1 (zav rfl rfl rfl zt9) <| nl hK26 <| A6 5 f5 7 f7 12 f12 13 f13 14 f14 19 (e_ (B (decide (0 ≤ x25)))) fun F f5 f7 f12 f13 f14 f19 => ?_
 refine cd f19 ho21 (fun hb27 ho21 => ?_) fun hb27 ho21 => ?_
 refine PC.region <| m_ f5 <| m_ f7 <| q3 (z20 (rep := I) (xs := [x25]) Qx rfl (by decide) (bm (e_ (I x25)) (bm0)) rfl rfl) <| bk ho21 fun x28 hx28 ho21 => wde (rep := I) (ys := ([x25] : List Int)) rfl rfl rfl (by decide) Qx (e_ q11) o1004 (e_ (slI ([x25] : List Int))) (fun _ => rfl) (lf1 (fun _ => rfl) (fun _ => rfl)) hx28 fun q29 H o1004 fz30 => q1 (Vr (e_ q29)) <| PL.nil ?_
 obtain rfl := pz ho21
 exact ⟨x28, q29, rfl, (e_ q29), f12, f13, f14, o1004⟩
 refine PC.skip ?_
 obtain rfl := pz ho21
 exact ⟨x10, q11, rfl, f5, f12, f13, f14, o1004⟩
 intro F H hI
 obtain ⟨x22, q23, ho, f5, f12, f13, f14, o1004⟩ := hI
 have ho := ho.symm
 subst ho
 try dsimp only at hs15
 refine PC.region <| q1 (zav rfl f14 rfl zsw) <| m_ (e_ (I (w64 (x9 + 1)))) <| PL.nil ?_
 obtain rfl := pz hs15
 exact ⟨m16, wgl _, _, q23, ho12, f5, f12, f13, rfl, o1004⟩
 refine PC.exit ?_
 obtain rfl := pz hs15
 try dsimp only at ho12
 subst ho12
 try dsimp only at h0
 refine hK3 _ _ <| A1 5 f5 fun F f5 => ?_
 refine SR fun K32 hK32 => m_ f5 <| q1 (Vr (e_ q11)) <| nl hK32 <| A1 4 (e_ q11) fun F f4 => ?_
 refine PC.ret ?_
 obtain rfl := pz h0
 exact jhq (.inr rfl) (zdv Tryz.results115 f4) o1004 (fun _ => rfl)
theorem zoz{nn:Nat}{a0:qh}{a1:Int}{r:(List Int)}(h0:zai a0 a1 nn=some r):PCall Tryz.prog 115 [q7 a0,I a1] (· = slI r):=(z3u h0).forget
noncomputable def Qe(a0:Int)(c0:qh):G (List Int):=
 G.bind (zai c0 a0) λx3=>G.pure x3
theorem zjw {nn : Nat} {a0 : Int} {c0 : qh} {r : (List Int)} (h0 : Qe a0 c0 nn = some r) : PCall Tryz.prog 114 [I a0, PV.rp (q7 c0).cells] (· = slI r) := by
 unfold Qe at h0
 refine wag Tryz.func114 rfl Tryz.ntmps114 (by simp) fun W => A2 0 (e_ (I a0)) 1 (e_ (PV.rp (q7 c0).cells)) fun F f0 f1 => ?_
 generalize PHeap.empty = H
 refine SR fun K1 hK1 => q3 (zog (k := 1)) <| nl hK1 <| A2 0 f0 1 f1 fun F f0 f1 => ?_
 refine SR fun K2 hK2 => q1 (zy2 zze f1 (zbg _)) <| m_ f0 <| bk h0 fun x3 hx3 h0 => q3 (zxv (by kernel_rfl) (am rfl (am rfl (am0))) (zef (Q6 _) (zef (.u _) (zhe))) (zoz hx3)) <| q1 (Vr (e_ (slI x3))) <| nl hK2 <| A1 3 (e_ (slI x3)) fun F f3 => ?_
 refine PC.ret ?_
 obtain rfl := pz h0
 exact fin (.inr rfl) (zdv Tryz.results114 f3) (zfo _)
noncomputable def Q5(a0:Int)(a1:(List Int))(a2:Int->G (List Int)):G (List Bool):=
 G.bind (G.lift (mkS 1 (false:Bool) a0)) λx3=>G.bind (G.lift (small7 a1 a1)) λx7=>G.bind (G.loop (σ:=(Int×(List Bool))) (α:=(List Bool)) (λ(x17,x18)=>G.cond (decide (x17<(a1.length:Int))) (G.bind (G.lift (idx a1 x17)) λx30=>G.bind (G.lift (idx x18 x30)) λx31=>G.pure (.inl ((w64 (x17+1)),(x18.set (x30:Int).toNat true)))) (G.pure (.inr x18))) (0,x3)) λx106=>G.bind (G.loop (σ:=((List Bool)×(List Int))) (α:=(List Bool)) (λ(x113,x115)=>G.cond (decide (0<(x115.length:Int))) (G.bind (G.lift (idx x115 0)) λx126=>G.bind (G.lift (z8j x115 1 (x115.length:Int))) λx129=>G.bind (a2 x126) λx132=>G.bind (G.loop (σ:=(Int×(List Bool)×(List Int))) (α:=((List Bool)×(List Int))) (λ(x138,x139,x141)=>G.cond (decide (x138<(x132.length:Int))) (G.bind (α:=((List Bool)×(List Int))) (G.bind (G.lift (idx x132 x138)) λx158=>G.bind (G.lift (idx x139 x158)) λx160=>G.cond (!x160) (G.bind (G.lift (idx x139 x158)) λx163=>G.bind (G.lift (app 8 x141 ([x158]:List Int))) λx165=>G.pure ((x139.set (x158:Int).toNat true),x165)) (G.pure (x139,x141))) λ(x153,x155)=>G.pure (.inl ((w64 (x138+1)),x153,x155))) (G.pure (.inr (x139,x141)))) (0,x113,x129)) λ(x169,x171)=>G.pure (.inl (x169,x171))) (G.pure (.inr x113))) (x106,x7)) λx176=>G.pure x176
theorem zgi {nn : Nat} {a0 : Int} {a1 : (List Int)} {a2 : Int → G (List Int)} {a2_f : Nat} {a2_A a2_B : List PV} (a2_na : ∀ p ∈ a2_A, NoP p) (a2_nb : ∀ p ∈ a2_B, NoP p) (a2_g : Jb Tryz.prog a2_f = true) (a2_w : ∀ {nn : Nat} {x0 : Int} {r : (List Int)}, a2 x0 nn = some r → PCall Tryz.prog a2_f (a2_A ++ [I x0] ++ a2_B) (· = slI r)) {r : (List Bool)} (h0 : Q5 a0 a1 a2 nn = some r) : PCall Tryz.prog 113 [I a0, slI a1, PV.fn (.func a2_f) a2_A a2_B] (· = slB r) := by
 unfold Q5 at h0
 refine wag Tryz.func113 rfl Tryz.ntmps113 (by simp) fun W => A3 0 (e_ (I a0)) 1 (e_ (slI a1)) 2 (e_ (PV.fn (.func a2_f) a2_A a2_B)) fun F f0 f1 f2 => ?_
 generalize PHeap.empty = H
 refine SR fun K1 hK1 => q1 (Vr rfl) ?_
 have o1006 : ownL 4 1 B H 1006 (PV.u (.slice none 0 0)) [] := ownL.nil _ _
 refine nl hK1 <| A3 0 f0 1 f1 2 f2 fun F f0 f1 f2 => ?_
 refine SR fun K2 hK2 => m_ f0 <| bk h0 fun x3 hx3 h0 => PL.mkS (rep := B) 1006 rfl rfl rfl (by decide) jar rfl rfl (e_ (I a0)) hx3 fun q4 H o1006 fz5 => q1 (Vr (e_ q4)) <| nl hK2 <| A3 1 f1 2 f2 7 (e_ q4) fun F f1 f2 f7 => ?_
 refine SR fun K6 hK6 => m_ f1 <| bk h0 fun x7 hx7 h0 => wdd 1008 rfl rfl rfl (by decide) (e_ (slI a1)) hx7 fun q8 H o1008 fz9 => have o1006 := o1006.mono (fz9 1006 (by decide)); ?_
 have o1008 : ownQ 3 1 I H 1008 q8 x7 := .inl o1008
 refine q1 (Vr (e_ q8)) <| nl hK6 <| A4 1 f1 2 f2 7 f7 8 (e_ q8) fun F f1 f2 f7 f8 => ?_
 refine PC.seq fun K10 hK10 => SR fun K11 hK11 => m_ f1 <| q1 (zg4 (rep := I) (xs := a1) zaj rfl) <| m_ (e_ (I 0)) <| nl hK11 <| A6 2 f2 7 f7 8 f8 18 (e_ (slI a1)) 19 (e_ (I (a1.length : Int))) 20 (e_ (I 0)) fun F f2 f7 f8 f18 f19 f20 => ?_
 refine PC.block <| bk h0 fun o20 ho20 h0 => ?_
 obtain ⟨B21, hB21, ho20⟩ := waz ho20
 refine PC.loop (fun m24 F H => ∃ s181 : (Int × (List Bool)), ∃ q19, zdm B21 m24 s181 = some o20 ∧ F 2 = (PV.fn (.func a2_f) a2_A a2_B) ∧ F 7 = q19 ∧ F 8 = q8 ∧ F 18 = (slI a1) ∧ F 19 = (I (a1.length : Int)) ∧ F 20 = (I s181.1) ∧ ownL 4 1 B H 1006 q19 s181.2 ∧ ownQ 3 1 I H 1008 q8 x7) (m := nn) ⟨(0, x3), q4, ho20, f2, f7, f8, f18, f19, f20, o1006, o1008⟩ fun m24 F H hI => ?_
 obtain ⟨⟨x17, x18⟩, q19, ho20, f2, f7, f8, f18, f19, f20, o1006, o1008⟩ := hI
 obtain ⟨m24, rfl, st22, hs23, ho20⟩ := zay ho20
 rw [hB21] at hs23
 try dsimp only at hs23
 refine SR fun K25 hK25 => q1 (zav rfl f20 f19 zet) <| nl hK25 <| A7 2 f2 7 f7 8 f8 18 f18 19 f19 20 f20 21 (e_ (B (decide (x17 < (a1.length : Int))))) fun F f2 f7 f8 f18 f19 f20 f21 => ?_
 refine PC.seq fun K26 hK26 => ?_
 refine cd f21 hs23 (fun hb27 hs23 => ?_) fun hb27 hs23 => ?_
 refine sk hK26 <| A6 2 f2 7 f7 8 f8 18 f18 19 f19 20 f20 fun F f2 f7 f8 f18 f19 f20 => ?_
 refine PC.seq fun K28 hK28 => PC.block <| SR fun K29 hK29 => bk hs23 fun x30 hx30 hs23 => q1 (zfc (rep := I) (xs := a1) zdp f18 f20 hx30) <| q1 (zg7 zoy rfl) <| q1 (Vr (e_ (I x30))) <| nl hK29 <| A7 2 f2 7 f7 8 f8 10 (e_ (I x30)) 18 f18 19 f19 20 f20 fun F f2 f7 f8 f10 f18 f19 f20 => ?_
 refine PC.region <| m_ f7 <| m_ f10 <| bk hs23 fun x31 hx31 hs23 => q1 (zq4 (rep := B) z4b o1006 rfl rfl hx31) <| wdu (rep := B) (v := true) rfl rfl (fun _ h => by cases h) (e_ (PV.pp 1006 ((x30 : Int).toNat * 1) (zcg q19))) o1006 jdc hx31 (e_ (B true)) (fun _ => rfl) fun H o1006 fz32 => have o1008 := o1008.mono (fz32 1008 (by decide)); nl hK28 <| A6 2 f2 7 f7 8 f8 18 f18 19 f19 20 f20 fun F f2 f7 f8 f18 f19 f20 => ?_
 refine PC.region <| q1 (zav rfl f20 rfl zsw) <| m_ (e_ (I (w64 (x17 + 1)))) <| PL.nil ?_
 obtain rfl := pz hs23
 exact ⟨m24, wgl _, _, q19, ho20, f2, f7, f8, f18, f19, rfl, o1006, o1008⟩
 refine PC.exit ?_
 obtain rfl := pz hs23
 try dsimp only at ho20
 subst ho20
 try dsimp only at h0
 refine hK10 _ _ <| A3 2 f2 7 f7 8 f8 fun F f2 f7 f8 => ?_
 refine PC.seq fun K33 hK33 => PC.block <| bk h0 fun o42 ho42 h0 => ?_
 obtain ⟨B43, hB43, ho42⟩ := waz ho42
 refine PC.loop (fun m46 F H => ∃ s105 : ((List Bool) × (List Int)), ∃ q39, ∃ q41, zdm B43 m46 s105 = some o42 ∧ F 2 = (PV.fn (.func a2_f) a2_A a2_B) ∧ F 7 = q39 ∧ F 8 = q41 ∧ ownL 4 1 B H 1006 q39 s105.1 ∧ ownQ 3 1 I H 1008 q41 s105.2) (m := nn) ⟨(x18, x7), q19, q8, ho42, f2, f7, f8, o1006, o1008⟩ fun m46 F H hI => ?_
 obtain ⟨⟨x38, x40⟩, q39, q41, ho42, f2, f7, f8, o1006, o1008⟩ := hI
 obtain ⟨m46, rfl, st44, hs45, ho42⟩ := zay ho42
 rw [hB43] at hs45
 try dsimp only at hs45
 refine PC.seq fun K47 hK47 => SR fun K48 hK48 => m_ f8 <| q3 (q_len zaj o1008 (e_ q41)) <| q1 (zav rfl rfl rfl z12) <| nl hK48 <| A4 2 f2 7 f7 8 f8 30 (e_ (B (decide (0 < (x40.length : Int))))) fun F f2 f7 f8 f30 => ?_
 refine cd f30 hs45 (fun hb49 hs45 => ?_) fun hb49 hs45 => ?_
 refine sk hK47 <| A3 2 f2 7 f7 8 f8 fun F f2 f7 f8 => ?_
 refine PC.block <| SR fun K50 hK50 => m_ f8 <| bk hs45 fun x51 hx51 hs45 => PL.ex rfl (Zq (by decide)) (q_idx (rep := I) zdp (fun _ => rfl) o1008 (e_ q41) (e_ (I 0)) hx51) fun p52 ⟨csp52, hlp52, h1p52, h2p52⟩ => q1 (q_ld1 zoy (e_ p52) hlp52 (h1p52 _ rfl)) <| q1 (Vr (e_ (I x51))) <| nl hK50 <| A4 2 f2 7 f7 8 f8 11 (e_ (I x51)) fun F f2 f7 f8 f11 => ?_
 refine SR fun K53 hK53 => m_ f8 <| bk hs45 fun x54 hx54 hs45 => PL.ex rfl (Zq (by decide)) (q_from (rep := I) zdp (fun _ => rfl) o1008 (e_ q41) (e_ (I 1)) hx54 (by decide)) fun q55 o1008 => q1 (Vr (e_ q55)) <| nl hK53 <| A4 2 f2 7 f7 8 (e_ q55) 11 f11 fun F f2 f7 f8 f11 => ?_
 refine SR fun K56 hK56 => m_ f2 <| m_ f11 <| bk hs45 fun x57 hx57 hs45 => q3 (callv (e_ (PV.fn (.func a2_f) a2_A a2_B)) a2_g (am (e_ (I x51)) (am0)) (nopa (nopa a2_na (zef (.u _) (zhe))) a2_nb) (a2_w hx57)) <| q1 (zg4 (rep := I) (xs := x57) zaj rfl) <| m_ (e_ (I 0)) <| nl hK56 <| A6 2 f2 7 f7 8 f8 38 (e_ (slI x57)) 39 (e_ (I (x57.length : Int))) 40 (e_ (I 0)) fun F f2 f7 f8 f38 f39 f40 => ?_
 refine PC.block <| bk hs45 fun o68 ho68 hs45 => ?_
 obtain ⟨B69, hB69, ho68⟩ := waz ho68
 refine PC.loop (fun m72 F H => ∃ s98 : (Int × (List Bool) × (List Int)), ∃ q65, ∃ q67, zdm B69 m72 s98 = some o68 ∧ F 2 = (PV.fn (.func a2_f) a2_A a2_B) ∧ F 7 = q65 ∧ F 8 = q67 ∧ F 38 = (slI x57) ∧ F 39 = (I (x57.length : Int)) ∧ F 40 = (I s98.1) ∧ ownL 4 1 B H 1006 q65 s98.2.1 ∧ ownQ 3 1 I H 1008 q67 s98.2.2) (m := nn) ⟨(0, x38, x54), q39, q55, ho68, f2, f7, f8, f38, f39, f40, o1006, o1008⟩ fun m72 F H hI => ?_
 obtain ⟨⟨x63, x64, x66⟩, q65, q67, ho68, f2, f7, f8, f38, f39, f40, o1006, o1008⟩ := hI
 obtain ⟨m72, rfl, st70, hs71, ho68⟩ := zay ho68
 rw [hB69] at hs71
 try dsimp only at hs71
 refine SR fun K73 hK73 => q1 (zav rfl f40 f39 zet) <| nl hK73 <| A7 2 f2 7 f7 8 f8 38 f38 39 f39 40 f40 41 (e_ (B (decide (x63 < (x57.length : Int))))) fun F f2 f7 f8 f38 f39 f40 f41 => ?_
 refine PC.seq fun K74 hK74 => ?_
 refine cd f41 hs71 (fun hb75 hs71 => ?_) fun hb75 hs71 => ?_
 refine sk hK74 <| A6 2 f2 7 f7 8 f8 38 f38 39 f39 40 f40 fun F f2 f7 f8 f38 f39 f40 => ?_
 obtain ⟨o77, ho77, hs71⟩ := bs hs71
 refine wcm (fun F H => ∃ s93 : ((List Bool) × (List Int)), ∃ q79, ∃ q81, o77 = s93 ∧ F 2 = (PV.fn (.func a2_f) a2_A a2_B) ∧ F 7 = q79 ∧ F 8 = q81 ∧ F 38 = (slI x57) ∧ F 39 = (I (x57.length : Int)) ∧ F 40 = (I x63) ∧ ownL 4 1 B H 1006 q79 s93.1 ∧ ownQ 3 1 I H 1008 q81 s93.2) ?_ ?_
 refine PC.block <| SR fun K82 hK82 => bk ho77 fun x83 hx83 ho77 => q1 (zfc (rep := I) (xs := x57) zdp f38 f40 hx83) <| q1 (zg7 zoy rfl) <| q1 (Vr (e_ (I x83))) <| nl hK82 <| A7 2 f2 7 f7 8 f8 13 (e_ (I x83)) 38 f38 39 f39 40 f40 fun F f2 f7 f8 f13 f38 f39 f40 => ?_
 refine SR fun K84 hK84 => m_ f7 <| m_ f13 <| bk ho77 fun x85 hx85 ho77 => q1 (zq4 (rep := B) z4b o1006 rfl rfl hx85) <| q1 (st_ldO jdc rfl o1006 hx85) <| q1 (z35 rfl) <| nl hK84 <| A8 2 f2 7 f7 8 f8 13 f13 38 f38 39 f39 40 f40 48 (e_ (B (!x85))) fun F f2 f7 f8 f13 f38 f39 f40 f48 => ?_
 refine cd f48 ho77 (fun hb86 ho77 => ?_) fun hb86 ho77 => ?_
 refine SR fun K87 hK87 => m_ f7 <| m_ f13 <| bk ho77 fun x88 hx88 ho77 => q1 (zq4 (rep := B) z4b o1006 rfl rfl hx88) <| wdu (rep := B) (v := true) rfl rfl (fun _ h => by cases h) (e_ (PV.pp 1006 ((x83 : Int).toNat * 1) (zcg q65))) o1006 jdc hx88 (e_ (B true)) (fun _ => rfl) fun H o1006 fz89 => have o1008 := o1008.mono (fz89 1008 (by decide)); nl hK87 <| A7 2 f2 7 f7 8 f8 13 f13 38 f38 39 f39 40 f40 fun F f2 f7 f8 f13 f38 f39 f40 => ?_
 refine PC.region <| m_ f8 <| m_ f13 <| q3 (z20 (rep := I) (xs := [x83]) Qx rfl (by decide) (bm (e_ (I x83)) (bm0)) rfl rfl) <| bk ho77 fun x90 hx90 ho77 => PL.appQ (rep := I) (ys := ([x83] : List Int)) rfl rfl rfl (by decide) Qx (e_ q67) o1008 (e_ (slI ([x83] : List Int))) (fun _ => rfl) (lf1 (fun _ => rfl) (fun _ => rfl)) hx90 fun q91 H o1008 fz92 => have o1006 := o1006.mono (fz92 1006 (by decide)); q1 (Vr (e_ q91)) <| PL.nil ?_
 obtain rfl := pz ho77
 exact ⟨((x64.set (x83 : Int).toNat true), x90), q65, q91, rfl, f2, f7, (e_ q91), f38, f39, f40, o1006, o1008⟩
 refine PC.skip ?_
 obtain rfl := pz ho77
 exact ⟨(x64, x66), q65, q67, rfl, f2, f7, f8, f38, f39, f40, o1006, o1008⟩
 intro F H hI
 obtain ⟨⟨x78, x80⟩, q79, q81, ho, f2, f7, f8, f38, f39, f40, o1006, o1008⟩ := hI
 have ho := ho.symm
 subst ho
 try dsimp only at hs71
 refine PC.region <| q1 (zav rfl f40 rfl zsw) <| m_ (e_ (I (w64 (x63 + 1)))) <| PL.nil ?_
 obtain rfl := pz hs71
 exact ⟨m72, wgl _, _, q79, q81, ho68, f2, f7, f8, f38, f39, rfl, o1006, o1008⟩
 refine PC.exit ?_
 obtain rfl := pz hs71
 try dsimp only at ho68
 subst ho68
 try dsimp only at hs45
 obtain rfl := pz hs45
 exact ⟨m46, wgl _, _, q65, q67, ho42, f2, f7, f8, o1006, o1008⟩
 refine PC.exit ?_
 obtain rfl := pz hs45
 try dsimp only at ho42
 subst ho42
 try dsimp only at h0
 refine hK33 _ _ <| A1 7 f7 fun F f7 => ?_
 refine SR fun K99 hK99 => m_ f7 <| q1 (Vr (e_ q39)) <| nl hK99 <| A1 6 (e_ q39) fun F f6 => ?_
 refine wb4 (rep := B) 6 f6 o1006 (fun _ => rfl) fun H fz100 => PC.ret ?_
 obtain rfl := pz h0
 exact fin (.inr rfl) (zdv Tryz.results113 (e_ (slB x38))) (zkq _)
noncomputable def Vj(a0:qh):G (List Bool):=
 G.bind (Zc a0) λx4=>G.cond (!x4) (G.pure []) (G.bind (Q5 (a0.jy.length:Int) ([0]:List Int) (λy8=>Qe y8 a0)) λx9=>G.pure x9)
theorem znf {nn : Nat} {a0 : qh} {r : (List Bool)} (h0 : Vj a0 nn = some r) : PCall Tryz.prog 76 [q7 a0] (· = slB r) := by
 unfold Vj at h0
 refine wag Tryz.func76 rfl Tryz.ntmps76 (by simp) fun W => A1 0 (e_ (q7 a0)) fun F f0 => ?_
 generalize PHeap.empty = H
 refine SR fun K1 hK1 => q3 (jcd f0 (zfp _ _)) <| q3 (zog (k := 1)) <| nl hK1 <| A1 1 (e_ (PV.rp (q7 a0).cells)) fun F f1 => ?_
 refine PC.seq fun K2 hK2 => SR fun K3 hK3 => q1 (zy2 zze f1 (zbg _)) <| bk h0 fun x4 hx4 h0 => q3 (zxv (by kernel_rfl) (am rfl (am0)) (zef (Q6 _) (zhe)) (zjg hx4)) <| q1 (z35 rfl) <| nl hK3 <| A2 1 f1 5 (e_ (B (!x4))) fun F f1 f5 => ?_
 refine cd f5 h0 (fun hb5 h0 => ?_) fun hb5 h0 => ?_
 refine SR fun K6 hK6 => q3 (zog (k := 1)) <| nl hK6 <| A1 2 (e_ (slB [])) fun F f2 => ?_
 refine PC.ret ?_
 obtain rfl := pz h0
 exact fin (.inr rfl) (zdv Tryz.results76 f2) (zkq _)
 refine sk hK2 <| A1 1 f1 fun F f1 => ?_
 refine SR fun K7 hK7 => q1 (zrj zl8 zce (by decide) f1) <| q1 (zkt zce rfl (zbe a0)) <| q1 (zg4 (rep := slI) (xs := a0.jy) zjs rfl) <| q3 (z20 (rep := I) (xs := [0]) Qx rfl (by decide) (bm (e_ (I 0)) (bm0)) rfl rfl) <| q1 (jb8 (am0) (am f1 (am0))) <| bk h0 fun x9 hx9 h0 => q3 (zxv (by kernel_rfl) (am rfl (am rfl (am rfl (am0)))) (zef (.u _) (zef (zfo _) (zef (.fn _ _ _ (zhe) (zef (.rp _ (zcw (Q6 _))) (zhe))) (zhe)))) (zgi (zhe) (zef (.rp _ (zcw (Q6 _))) (zhe)) (by kernel_rfl) (fun h => zjw h) hx9)) <| q1 (Vr (e_ (slB x9))) <| nl hK7 <| A1 2 (e_ (slB x9)) fun F f2 => ?_
 refine PC.ret ?_
 obtain rfl := pz h0
 exact fin (.inr rfl) (zdv Tryz.results76 f2) (zkq _)
noncomputable def Vg(a0:Int)(c0:(List (List Int))):G (List Int):=
 G.bind (G.lift (idx c0 a0)) λx3=>G.pure x3
theorem znq {nn : Nat} {a0 : Int} {c0 : (List (List Int))} {r : (List Int)} (h0 : Vg a0 c0 nn = some r) : PCall Tryz.prog 116 [I a0, PV.rp (zmr c0).cells] (· = slI r) := by
 unfold Vg at h0
 refine wag Tryz.func116 rfl Tryz.ntmps116 (by simp) fun W => A2 0 (e_ (I a0)) 1 (e_ (PV.rp (zmr c0).cells)) fun F f0 f1 => ?_
 generalize PHeap.empty = H
 refine SR fun K1 hK1 => q3 (zog (k := 1)) <| nl hK1 <| A2 0 f0 1 f1 fun F f0 f1 => ?_
 refine SR fun K2 hK2 => q1 (zg7 zce f1) <| m_ f0 <| bk h0 fun x3 hx3 h0 => q1 (zfc (rep := slI) (xs := c0) zhx rfl rfl hx3) <| q1 (zg7 zgb rfl) <| q1 (Vr (e_ (slI x3))) <| nl hK2 <| A1 3 (e_ (slI x3)) fun F f3 => ?_
 refine PC.ret ?_
 obtain rfl := pz h0
 exact fin (.inr rfl) (zdv Tryz.results116 f3) (zfo _)
noncomputable def Zs(a0:qh):G (List Bool):=
 G.bind (Zc a0) λx4=>G.cond (!x4) (G.pure []) (G.bind (G.lift (mkS 24 ([]:(List Int)) (a0.jy.length:Int))) λx8=>G.bind (G.loop (σ:=(Int×(List Int)×(List (List Int)))) (α:=((List Int)×(List (List Int)))) (λ(x22,x23,x25)=>G.cond (decide (x22<(a0.Jq.length:Int))) (G.bind (α:=((List Int)×(List (List Int)))) (G.bind (G.lift (idx a0.Jq x22)) λx42=>G.bind (zai a0 x22) λx45=>G.bind (G.loop (σ:=(Int×(List (List Int)))) (α:=(List (List Int))) (λ(x51,x52)=>G.cond (decide (x51<(x45.length:Int))) (G.bind (G.lift (idx x45 x51)) λx64=>G.bind (G.lift (idx x52 x64)) λx65=>G.bind (G.lift (app 8 x65 ([x22]:List Int))) λx67=>G.bind (G.lift (idx x52 x64)) λx70=>G.pure (.inl ((w64 (x51+1)),(x52.set (x64:Int).toNat x67)))) (G.pure (.inr x52))) (0,x25)) λx77=>G.cond (decide (0<=x42)) (G.bind (G.lift (app 8 x23 ([x22]:List Int))) λx81=>G.pure (x81,x77)) (G.pure (x23,x77))) λ(x37,x39)=>G.pure (.inl ((w64 (x22+1)),x37,x39))) (G.pure (.inr (x23,x25)))) (0,[],x8)) λ(x91,x93)=>G.bind (Q5 (a0.jy.length:Int) x91 (λy98=>Vg y98 x93)) λx99=>G.pure x99)
theorem zsg {nn : Nat} {a0 : qh} {r : (List Bool)} (h0 : Zs a0 nn = some r) : PCall Tryz.prog 77 [q7 a0] (· = slB r) := by
 unfold Zs at h0
 refine wag Tryz.func77 rfl Tryz.ntmps77 (by simp) fun W => A1 0 (e_ (q7 a0)) fun F f0 => ?_
 generalize PHeap.empty = H
 refine SR fun K1 hK1 => q3 (jcd f0 (zfp _ _)) <| q3 (zog (k := 1)) <| nl hK1 <| A1 1 (e_ (PV.rp (q7 a0).cells)) fun F f1 => ?_
 refine PC.seq fun K2 hK2 => SR fun K3 hK3 => q1 (zy2 zze f1 (zbg _)) <| bk h0 fun x4 hx4 h0 => q3 (zxv (by kernel_rfl) (am rfl (am0)) (zef (Q6 _) (zhe)) (zjg hx4)) <| q1 (z35 rfl) <| nl hK3 <| A2 1 f1 11 (e_ (B (!x4))) fun F f1 f11 => ?_
 refine cd f11 h0 (fun hb5 h0 => ?_) fun hb5 h0 => ?_
 refine SR fun K6 hK6 => q3 (zog (k := 1)) <| nl hK6 <| A1 2 (e_ (slB [])) fun F f2 => ?_
 refine PC.ret ?_
 obtain rfl := pz h0
 exact fin (.inr rfl) (zdv Tryz.results77 f2) (zkq _)
 refine sk hK2 <| A1 1 f1 fun F f1 => ?_
 refine SR fun K7 hK7 => q1 (zrj zl8 zce (by decide) f1) <| q1 (zkt zce rfl (zbe a0)) <| q1 (zg4 (rep := slI) (xs := a0.jy) zjs rfl) <| bk h0 fun x8 hx8 h0 => wdb (e := 3) (rep := I) 1015 100000 (by decide) rfl rfl rfl (by decide) z3p (e_ (I (a0.jy.length : Int))) hx8 fun q9 H o1015 fz10 => waq 203 (cs := [(PV.u (.slice none 0 0))]) rfl rfl rfl (by decide) jc8 (by kernel_rfl) (by kernel_rfl) fun v203 H b203 fz11 => have o1015 := o1015.mono (fz11 1015 (by decide)) (fun j hj => fz11 j (by omega)); PL.recell (cs' := [(zmr [])]) b203 (WeakL.cons (Weak.nil _) WeakL.nil) fun H b203 fz12 => have o1015 := o1015.mono (fz12 1015 (by decide)) (fun j hj => fz12 j (by omega)); wam (ag := false) (cs' := [q9]) (ps := [q9]) rfl rfl (fun _ h => by cases h) (e_ (PV.pp 203 0 v203)) b203 zce (e_ q9) (ll_ok o1015) (je0 o1015) rfl (by decide) rfl fun H b203 fz13 => have o1015 := o1015.mono (fz13 1015 (by decide)) (fun j hj => fz13 j (by omega)); nl hK7 <| A2 1 f1 3 (e_ (PV.pp 203 0 v203)) fun F f1 f3 => ?_
 refine SR fun K14 hK14 => q1 (Vr rfl) ?_
 have o1004 : ownL 3 1 I H 1004 (PV.u (.slice none 0 0)) [] := ownL.nil _ _
 refine nl hK14 <| A3 1 f1 3 f3 4 (e_ (PV.u (.slice none 0 0))) fun F f1 f3 f4 => ?_
 refine PC.seq fun K15 hK15 => SR fun K16 hK16 => q1 (zrj jb2 zgb (by decide) f1) <| q1 (zkt zgb rfl (zv2 a0)) <| q1 (zg4 (rep := I) (xs := a0.Jq) zaj rfl) <| m_ (e_ (I 0)) <| nl hK16 <| A6 1 f1 3 f3 4 f4 17 (e_ (slI a0.Jq)) 18 (e_ (I (a0.Jq.length : Int))) 19 (e_ (I 0)) fun F f1 f3 f4 f17 f18 f19 => ?_
 refine PC.block <| bk h0 fun o27 ho27 h0 => ?_
 obtain ⟨B28, hB28, ho27⟩ := waz ho27
 refine PC.loop (fun m31 F H => ∃ s100 : (Int × (List Int) × (List (List Int))), ∃ q24, ∃ q26, zdm B28 m31 s100 = some o27 ∧ F 1 = (PV.rp (q7 a0).cells) ∧ F 3 = (PV.pp 203 0 v203) ∧ F 4 = q24 ∧ F 17 = (slI a0.Jq) ∧ F 18 = (I (a0.Jq.length : Int)) ∧ F 19 = (I s100.1) ∧ H 203 = ⟨v203, some (.box 30 [q26])⟩ ∧ ownL 3 1 I H 1004 q24 s100.2.1 ∧ ownLL 31 3 100000 I H 1015 q26 s100.2.2) (m := nn) ⟨(0, [], x8), (PV.u (.slice none 0 0)), q9, ho27, f1, f3, f4, f17, f18, f19, b203, o1004, o1015⟩ fun m31 F H hI => ?_
 obtain ⟨⟨x22, x23, x25⟩, q24, q26, ho27, f1, f3, f4, f17, f18, f19, b203, o1004, o1015⟩ := hI
 obtain ⟨m31, rfl, st29, hs30, ho27⟩ := zay ho27
 rw [hB28] at hs30
 try dsimp only at hs30
 refine SR fun K32 hK32 => q1 (zav rfl f19 f18 zet) <| nl hK32 <| A7 1 f1 3 f3 4 f4 17 f17 18 f18 19 f19 20 (e_ (B (decide (x22 < (a0.Jq.length : Int))))) fun F f1 f3 f4 f17 f18 f19 f20 => ?_
 refine PC.seq fun K33 hK33 => ?_
 refine cd f20 hs30 (fun hb34 hs30 => ?_) fun hb34 hs30 => ?_
 refine sk hK33 <| A6 1 f1 3 f3 4 f4 17 f17 18 f18 19 f19 fun F f1 f3 f4 f17 f18 f19 => ?_
 obtain ⟨o36, ho36, hs30⟩ := bs hs30
 refine wcm (fun F H => ∃ s85 : ((List Int) × (List (List Int))), ∃ q38, ∃ q40, o36 = s85 ∧ F 1 = (PV.rp (q7 a0).cells) ∧ F 3 = (PV.pp 203 0 v203) ∧ F 4 = q38 ∧ F 17 = (slI a0.Jq) ∧ F 18 = (I (a0.Jq.length : Int)) ∧ F 19 = (I x22) ∧ H 203 = ⟨v203, some (.box 30 [q40])⟩ ∧ ownL 3 1 I H 1004 q38 s85.1 ∧ ownLL 31 3 100000 I H 1015 q40 s85.2) ?_ ?_
 refine PC.block <| SR fun K41 hK41 => m_ f19 <| bk ho36 fun x42 hx42 ho36 => q1 (zfc (rep := I) (xs := a0.Jq) zdp f17 f19 hx42) <| q1 (zg7 zoy rfl) <| q1 (Vr (e_ (I x22))) <| q1 (Vr (e_ (I x42))) <| nl hK41 <| A8 1 f1 3 f3 4 f4 5 (e_ (I x22)) 6 (e_ (I x42)) 17 f17 18 f18 19 f19 fun F f1 f3 f4 f5 f6 f17 f18 f19 => ?_
 refine PC.seq fun K43 hK43 => SR fun K44 hK44 => q1 (zy2 zze f1 (zbg _)) <| m_ f5 <| bk ho36 fun x45 hx45 ho36 => q3 (zxv (by kernel_rfl) (am rfl (am rfl (am0))) (zef (Q6 _) (zef (.u _) (zhe))) (zoz hx45)) <| q1 (zg4 (rep := I) (xs := x45) zaj rfl) <| m_ (e_ (I 0)) <| nl hK44 <| A11 1 f1 3 f3 4 f4 5 f5 6 f6 17 f17 18 f18 19 f19 26 (e_ (slI x45)) 27 (e_ (I (x45.length : Int))) 28 (e_ (I 0)) fun F f1 f3 f4 f5 f6 f17 f18 f19 f26 f27 f28 => ?_
 refine PC.block <| bk ho36 fun o54 ho54 ho36 => ?_
 obtain ⟨B55, hB55, ho54⟩ := waz ho54
 refine PC.loop (fun m58 F H => ∃ s84 : (Int × (List (List Int))), ∃ q53, zdm B55 m58 s84 = some o54 ∧ F 1 = (PV.rp (q7 a0).cells) ∧ F 3 = (PV.pp 203 0 v203) ∧ F 4 = q24 ∧ F 5 = (I x22) ∧ F 6 = (I x42) ∧ F 17 = (slI a0.Jq) ∧ F 18 = (I (a0.Jq.length : Int)) ∧ F 19 = (I x22) ∧ F 26 = (slI x45) ∧ F 27 = (I (x45.length : Int)) ∧ F 28 = (I s84.1) ∧ H 203 = ⟨v203, some (.box 30 [q53])⟩ ∧ ownL 3 1 I H 1004 q24 x23 ∧ ownLL 31 3 100000 I H 1015 q53 s84.2) (m := nn) ⟨(0, x25), q26, ho54, f1, f3, f4, f5, f6, f17, f18, f19, f26, f27, f28, b203, o1004, o1015⟩ fun m58 F H hI => ?_
 obtain ⟨⟨x51, x52⟩, q53, ho54, f1, f3, f4, f5, f6, f17, f18, f19, f26, f27, f28, b203, o1004, o1015⟩ := hI
 obtain ⟨m58, rfl, st56, hs57, ho54⟩ := zay ho54
 rw [hB55] at hs57
 try dsimp only at hs57
 refine SR fun K59 hK59 => q1 (zav rfl f28 f27 zet) <| nl hK59 <| A12 1 f1 3 f3 4 f4 5 f5 6 f6 17 f17 18 f18 19 f19 26 f26 27 f27 28 f28 29 (e_ (B (decide (x51 < (x45.length : Int))))) fun F f1 f3 f4 f5 f6 f17 f18 f19 f26 f27 f28 f29 => ?_
 refine PC.seq fun K60 hK60 => ?_
 refine cd f29 hs57 (fun hb61 hs57 => ?_) fun hb61 hs57 => ?_
 refine sk hK60 <| A11 1 f1 3 f3 4 f4 5 f5 6 f6 17 f17 18 f18 19 f19 26 f26 27 f27 28 f28 fun F f1 f3 f4 f5 f6 f17 f18 f19 f26 f27 f28 => ?_
 refine PC.seq fun K62 hK62 => PC.block <| SR fun K63 hK63 => bk hs57 fun x64 hx64 hs57 => q1 (zfc (rep := I) (xs := x45) zdp f26 f28 hx64) <| q1 (zg7 zoy rfl) <| q1 (Vr (e_ (I x64))) <| nl hK63 <| A12 1 f1 3 f3 4 f4 5 f5 6 f6 8 (e_ (I x64)) 17 f17 18 f18 19 f19 26 f26 27 f27 28 f28 fun F f1 f3 f4 f5 f6 f8 f17 f18 f19 f26 f27 f28 => ?_
 obtain ⟨x65, hx65, hs57⟩ := bs hs57
 obtain ⟨x67, hx67, hs57⟩ := bs hs57
 refine wcz (fun H' => ∀ j, j < 100000 → H' j = H j) (fun pq H' => ownL 3 1 I H' (100000 + (x64 : Int).toNat) pq x67 ∧ ∀ j, j ≠ (100000 + (x64 : Int).toNat) → H' j = H j) 9 8 [0, 1, 2, 3, 4, 5, 6, 7] [9, 10] mixed (by kernel_rfl) rfl rfl (by decide) rfl (fun _ _ => rfl) (fun p H' h j hj => h.2 j (by omega)) <| JF.q (p := q53) rfl (Zq (by decide)) (fun hJ => jdz zce f3 ((hJ 203 (by decide)).trans b203) rfl) <| JF.q (p := (I x64)) rfl (Zq (by decide)) (fun hJ => z6s f8) <| JF.q (p := q53) rfl (Zq (by decide)) (fun hJ => jdz zce f3 ((hJ 203 (by decide)).trans b203) rfl) <| JF.q (p := (I x64)) rfl (Zq (by decide)) (fun hJ => z6s f8) <| JF.q (p := (PV.pp 1015 ((x64 : Int).toNat * 1) (zcg q53))) rfl (Zq (by decide)) (fun hJ => z7j zhx o1015 (hJ 1015 (by decide)) (e_ q53) (e_ (I x64)) hx65) <| JF.ex rfl (Zq (by decide)) (ll_ldJ zgb o1015 (fun H' hJ => hJ 1015 (by decide)) (e_ (PV.pp 1015 ((x64 : Int).toNat * 1) (zcg q53))) hx65) fun p66 cp66 => JF.q (p := (I x22)) rfl (Zq (by decide)) (fun hJ => z6s f5) <| JF.qq (p := (slI ([x22] : List Int))) rfl (Zq (by decide)) (fun hJ => z20 (rep := I) (xs := [x22]) Qx rfl (by decide) (bm (e_ (I x22)) (bm0)) rfl rfl) ?_
 refine JF.nil ⟨fun F2 hF2 => wdh (rep := I) (ys := ([x22] : List Int)) (id := (100000 + (x64 : Int).toNat)) rfl rfl (by decide) Qx ((hF2 37 (by simp [Op.operands, Call.operands])).trans (e_ p66)) (cp66.inner hx65) ((hF2 39 (by simp [Op.operands, Call.operands])).trans (e_ (slI ([x22] : List Int)))) (fun _ => rfl) (fun _ => rfl) hx67, fun q68 H ⟨oiq68, fz69⟩ => ?_⟩
 obtain ⟨x70, hx70, hs57⟩ := bs hs57
 refine q1 (z7j zhx o1015 (fz69 1015 (by omega)) (e_ q53) (e_ (I x64)) hx70) <| wda (by decide) rfl rfl rfl zgb cp66 fz69 oiq68 hx65 (e_ q68) (e_ (PV.pp 1015 ((x64 : Int).toNat * 1) (zcg q53))) fun H o1015 fz71 => have b203 := (fz71 203 (by decide) (by decide)).trans b203; have o1004 := o1004.mono (fz71 1004 (by decide) (by decide)); nl hK62 <| A11 1 f1 3 f3 4 f4 5 f5 6 f6 17 f17 18 f18 19 f19 26 f26 27 f27 28 f28 fun F f1 f3 f4 f5 f6 f17 f18 f19 f26 f27 f28 => ?_
 refine PC.region <| q1 (zav rfl f28 rfl zsw) <| m_ (e_ (I (w64 (x51 + 1)))) <| PL.nil ?_
 obtain rfl := pz hs57
 exact ⟨m58, wgl _, _, q53, ho54, f1, f3, f4, f5, f6, f17, f18, f19, f26, f27, rfl, b203, o1004, o1015⟩
 refine PC.exit ?_
 obtain rfl := pz hs57
 try dsimp only at ho54
 subst ho54
 try dsimp only at ho36
 refine hK43 _ _ <| A8 1 f1 3 f3 4 f4 5 f5 6 f6 17 f17 18 f18 19 f19 fun F f1 f3 f4 f5 f6 f17 f18 f19 => ?_
 refine SR fun K72 hK72 => m_ f6 <| q1 (zav rfl rfl rfl zt9) <| nl hK72 <| A8 1 f1 3 f3 4 f4 5 f5 17 f17 18 f18 19 f19 44 (e_ (B (decide (0 ≤ x42)))) fun F f1 f3 f4 f5 f17 f18 f19 f44 => ?_
 refine cd f44 ho36 (fun hb73 ho36 => ?_) fun hb73 ho36 => ?_
 refine PC.region <| m_ f4 <| m_ f5 <| q3 (z20 (rep := I) (xs := [x22]) Qx rfl (by decide) (bm (e_ (I x22)) (bm0)) rfl rfl) <| bk ho36 fun x74 hx74 ho36 => wde (rep := I) (ys := ([x22] : List Int)) rfl rfl rfl (by decide) Qx (e_ q24) o1004 (e_ (slI ([x22] : List Int))) (fun _ => rfl) (lf1 (fun _ => rfl) (fun _ => rfl)) hx74 fun q75 H o1004 fz76 => have o1015 := o1015.mono (fz76 1015 (by decide)) (fun j hj => fz76 j (by omega)); have b203 := (fz76 203 (by decide)).trans b203; q1 (Vr (e_ q75)) <| PL.nil ?_
 obtain rfl := pz ho36
 exact ⟨(x74, x52), q75, q53, rfl, f1, f3, (e_ q75), f17, f18, f19, b203, o1004, o1015⟩
 refine PC.skip ?_
 obtain rfl := pz ho36
 exact ⟨(x23, x52), q24, q53, rfl, f1, f3, f4, f17, f18, f19, b203, o1004, o1015⟩
 intro F H hI
 obtain ⟨⟨x37, x39⟩, q38, q40, ho, f1, f3, f4, f17, f18, f19, b203, o1004, o1015⟩ := hI
 have ho := ho.symm
 subst ho
 try dsimp only at hs30
 refine PC.region <| q1 (zav rfl f19 rfl zsw) <| m_ (e_ (I (w64 (x22 + 1)))) <| PL.nil ?_
 obtain rfl := pz hs30
 exact ⟨m31, wgl _, _, q38, q40, ho27, f1, f3, f4, f17, f18, rfl, b203, o1004, o1015⟩
 refine PC.exit ?_
 obtain rfl := pz hs30
 try dsimp only at ho27
 subst ho27
 try dsimp only at h0
 refine hK15 _ _ <| A3 1 f1 3 f3 4 f4 fun F f1 f3 f4 => ?_
 refine PC.seq fun K86 hK86 => wb4 (rep := I) 4 f4 o1004 (fun _ => rfl) fun H fz87 => have o1015 := o1015.mono (fz87 1015 (by decide)) (fun j hj => fz87 j (by omega)); have b203 := (fz87 203 (by decide)).trans b203; wc0 (fun i => i == 203 || i == 1015 || decide (100000 ≤ i)) 3 f3 (z4o b203 o1015 (fun _ => rfl) (fun _ => (.u _)) rfl rfl (fun j hj => by simp [hj])) (.rp _ (zcw (p := zmr x25) (zdi _))) fun H fz88 => PC.region <| q1 (zrj zl8 zce (by decide) f1) <| q1 (zkt zce rfl (zbe a0)) <| q1 (zg4 (rep := slI) (xs := a0.jy) zjs rfl) <| m_ (e_ (slI x23)) <| q1 (jb8 (am0) (am rfl (am0))) <| bk h0 fun x90 hx90 h0 => q3 (zxv (by kernel_rfl) (am rfl (am rfl (am rfl (am0)))) (zef (.u _) (zef (zfo _) (zef (.fn _ _ _ (zhe) (zef (.rp _ (zcw (zdi _))) (zhe))) (zhe)))) (zgi (zhe) (zef (.rp _ (zcw (zdi _))) (zhe)) (by kernel_rfl) (fun h => znq h) hx90)) <| q1 (Vr (e_ (slB x90))) <| nl hK86 <| A1 2 (e_ (slB x90)) fun F f2 => ?_
 refine PC.ret ?_
 obtain rfl := pz h0
 exact fin (.inr rfl) (zdv Tryz.results77 f2) (zkq _)
end Go.Proofs.YtdllbdlnmjngcaaGreat
namespace Go.Proofs.YtdllbdlnmjngcaaGreat.T
set_option maxRecDepth 100000
set_option maxHeartbeats 8000000
set_option linter.unusedVariables false
set_option linter.unusedSimpArgs false
open Go Go.RowKit L
noncomputable def Vu(nn:Nat)(a0:D_api_Dfa):Option (List Bool):=Vj (qz a0) nn
noncomputable abbrev zrb (nn:Nat):PF:=⟨[Y_api_Dfa],(.sl .bool),λt=>Vu nn t⟩
theorem zdu(nn:Nat):jz 76 (zrb nn):=⟨by kernel_rfl,λt r h=>by
 have:=znf h;rw[<- zod]at this;exact this⟩
noncomputable def zfj(nn:Nat)(a0:D_api_Dfa):Option (List Bool):=Zs (qz a0) nn
noncomputable abbrev zy4 (nn:Nat):PF:=⟨[Y_api_Dfa],(.sl .bool),λt=>zfj nn t⟩
theorem zo8(nn:Nat):jz 77 (zy4 nn):=⟨by kernel_rfl,λt r h=>by
 have:=zsg h;rw[<- zod]at this;exact this⟩
noncomputable def zj(nn:Nat)(a0:D_api_Dfa):Option (List Int):=ja (Vu nn a0) λa=>jl (σ:=(List Bool)×Int×Int×D_api_Dfa×(List Int)) (λ(b,c,d,e,f)g=>ifB (decide (d<c)) (J (σ:=(List Bool)×Int×Int×D_api_Dfa×(List Int)) (λ(h,i,j,k,l)=>ja (some (w64 (j+1))) λn=>g (h,i,n,k,l)) λm=>ja (atL b d) λo=>J (σ:=Int×(List Bool)×Int×Int×Bool×D_api_Dfa×(List Int)) (λ(p,q,r,s,u,v,w)=>ifB u (ja (atL v.2.2.2.1 p) λy=>ja (apO 8 w [y]) λz=>m (q,r,s,v,z)) (m (q,r,s,v,w))) λx=>ifB o (ja (atL e.2.2.2.1 d) λb0=>x (d,b,c,d,decide (0<=b0),e,f)) (x (d,b,c,d,false,e,f))) (ja (small7 f (Z2 f)) λb1=>ja (small7 b1 (Qu b1)) λb2=>some b2)) nn (a,(a.length:Int),0,a0,[])
noncomputable def zu8:=lk (α:=HK) [(58,me [vp 1 0,vo 3 1,(7,.v LB),vi 8,vi 9] [.box 33 [.v Y_api_Dfa],.row 3 I6] 2),(934,me [vp 1 0,vo 3 1,(7,.v LB),vi 8,vi 9] [.box 33 [.v Y_api_Dfa],.row 3 I6] 2),(7474,me [vp 1 0,vo 3 1,vi 4,(7,.v LB),vi 8,vi 9,vb 22] [.box 33 [.v Y_api_Dfa],.row 3 I6] 2)]
theorem zoc(nn:Nat):FFOk 106 ⟨[Y_api_Dfa],3,I6,λt=>zj nn t⟩:=mk2 Tryz.func106 nn 0 [(0,[31])] [(0,[(29,.told I6)])] [] [] itn zu8 rn gn (tc (zdu nn) tn) (by kernel_rfl) λt=>by kernel_rfl
theorem zn5(nn:Nat):jz 106 ⟨[Y_api_Dfa],L6,λt=>zj nn t⟩:=(zoc nn).pure
noncomputable def zg(nn:Nat)(a0:(List Int))(a1:Int):Option Int:=jl (σ:=(List Int)×Int×Int×Int) (λ(a,b,c,d)e=>ifB (decide (d<c)) (ja (atL a d) λf=>ifB (decide (b=f)) (some d) (ja (some (w64 (d+1))) λg=>e (a,b,c,g))) (some (-1))) nn (a0,a1,(a0.length:Int),0)
noncomputable def zdr:=lk (α:=HK) [(26,me [vl 0,vi 1,vi 7,vi 8] [] 0)]
theorem zb6(nn:Nat):jz 165 ⟨[L6,I6],I6,λt=>zg nn (t.1) (t.2)⟩:=mk1 Tryz.func165 nn 0 [(0,[18])] [] [] [] itn zdr rn gn tn (by kernel_rfl) λt=>by kernel_rfl
noncomputable def yq(nn:Nat)(a0:(List Int))(a1:Int):Option Bool:=ja (zg nn a0 a1) λa=>some (decide (0<=a))
theorem zah(nn:Nat):jz 108 ⟨[L6,I6],.bool,λt=>yq nn (t.1) (t.2)⟩:=mk1 Tryz.func108 nn 0 [] [] [] [] itn h0 rn gn (tc (zb6 nn) tn) (by kernel_rfl) λt=>by kernel_rfl
noncomputable def Ja(nn:Nat)(a0:(Option Jx)):Option jd:=ja (a0) λa=>ja (zj nn a.2.1) λb=>J (λ(c:jd)=>some c) λd=>ja (a0) λe=>jl (σ:=Int×Int×Int×Int×(List Int)×jd) (λ(f,g,h,i,j,k)l=>ifB (decide (i<h)) (ja (yq nn j i) λm=>ifB (!m) (d (f,i,g,())) (ja (some (w64 (i+1))) λn=>l (f,g,h,n,j,k))) (d (0,0,0,()))) nn (13,1,(e.1.1.length:Int),0,b,(0,0,0,()))
noncomputable def zen:=lk (α:=HK) [(14,me [vp 2 0] [.box 36 [.v jo]] 1)]
noncomputable def zdd:=lk (α:=HK) [(26,me [vi 1,vi 2,(3,.fn 107 [] [.pt 0 0]),vp 8 1,vi 10,vi 11] [.box 31 [.v L6],.box 36 [.v jo]] 2)]
theorem zc7(nn:Nat):jz 71 ⟨[(.ref J4)],jo,λt=>Ja nn t⟩:=mk1 Tryz.func71 nn 9 [(1,[22])] [] [] [] (itc 1350059 Tryz.func59 zdd 1 [] (itc 10002580107 Tryz.func107 h0 2 [] itn (by kernel_rfl)) (by kernel_rfl)) zen rn gn (tc (zn5 nn) (tc (zah nn) tn)) (by kernel_rfl) λt=>by kernel_rfl
noncomputable def zec(nn:Nat)(a0:D_api_Dfa):Option D_api_Dfa:=ja (p_dfa_Right nn a0) λa=>ifB (!a) (some (⟨List.replicate 256 0,wd2⟩,0,[],[],())) (ja (Vu nn a0) λb=>ja (zfj nn a0) λc=>ja (some (a0.2.2.1.length:Int)) λd=>ja (mkO 8 d) λe=>jl (σ:=(List Bool)×(List Bool)×Int×Int×D_api_Dfa×(Arr 256 Int)×Int×(List Int)×(List Int)×(List (List Int))×(List Int)) (λ(f,g,h,i,j,k,l,m,n,o,p)q=>ifB (decide (i<h)) (J (σ:=(List Bool)×(List Bool)×Int×Int×D_api_Dfa×(Arr 256 Int)×Int×(List Int)×(List Int)×(List (List Int))×(List Int)) (λ(r,s,u,v,w,x,y,z,b0,b1,b2)=>ja (some (w64 (v+1))) λb4=>q (r,s,u,b4,w,x,y,z,b0,b1,b2)) λb3=>ja (vk m.length i) λb5=>ja (zas m b5 (-1)) λb6=>J (σ:=(List Bool)×(List Bool)×Int×Int×Int×Bool×D_api_Dfa×(Arr 256 Int)×Int×(List Int)×(List Int)×(List (List Int))×(List Int)) (λ(b7,b8,b9,c0,c1,c2,c3,c4,c5,c6,c7,c8,c9)=>ifB c2 (ja (vk c6.length b9) λd1=>ja (zas c6 d1 (c7.length:Int)) λd2=>ja (apO 8 c7 [b9]) λd3=>b3 (b7,b8,c0,c1,c3,c4,c5,d2,d3,c8,c9)) (b3 (b7,b8,c0,c1,c3,c4,c5,c6,c7,c8,c9))) λd0=>ja (some (decide (i=0))) λd4=>ifB d4 (d0 (f,g,i,h,i,true,j,k,l,b6,n,o,p)) (ja (atL f i) λd5=>ifB d5 (ja (atL g i) λd6=>d0 (f,g,i,h,i,d6,j,k,l,b6,n,o,p)) (d0 (f,g,i,h,i,false,j,k,l,b6,n,o,p)))) (jl (σ:=Int×Int×D_api_Dfa×(Arr 256 Int)×Int×(List Int)×(Arr 256 Int)×Int×(List Int)×(List (List Int))×(List Int)×(List (List Int))×(List Int)) (λ(d7,d8,d9,e0,e1,e2,e3,e4,e5,e6,e7,e8,e9)f0=>ifB (decide (d8<d7)) (ja (vk e5.length d8) λf1=>ja (atL e5 f1) λf2=>ja (mkO 8 d9.2.1) λf3=>ja (atL d9.2.2.1 f2) λf4=>ja (jbo (List.replicate f3 (0:Int)) f4) λf5=>jl (σ:=Int×Int×Int×Int×Int×D_api_Dfa×(Arr 256 Int)×Int×(List Int)×(Arr 256 Int)×Int×(List Int)×(List Int)×(List (List Int))×(List Int)×(List (List Int))×(List Int)) (λ(f6,f7,f8,f9,g0,g1,g2,g3,g4,g5,g6,g7,g8,g9,h0,h1,h2)h3=>ifB (decide (g0<f9)) (J (σ:=Int×Int×Int×Int×Int×D_api_Dfa×(Arr 256 Int)×Int×(List Int)×(Arr 256 Int)×Int×(List Int)×(List Int)×(List (List Int))×(List Int)×(List (List Int))×(List Int)) (λ(h4,h5,h6,h7,h8,h9,i0,i1,i2,i3,i4,i5,i6,i7,i8,i9,j0)=>ja (some (w64 (h8+1))) λj2=>h3 (h4,h5,h6,h7,j2,h9,i0,i1,i2,i3,i4,i5,i6,i7,i8,i9,j0)) λj1=>ja (vk g7.length g0) λj3=>ja (atL g7 j3) λj4=>ifB (decide (0<=j4)) (ja (vk g4.length j4) λj5=>ja (atL g4 j5) λj6=>ja (vk g7.length g0) λj7=>ja (zas g7 j7 j6) λj8=>j1 (f6,f7,f8,f9,g0,g1,g2,g3,g4,g5,g6,j8,g8,g9,h0,h1,h2)) (j1 (f6,f7,f8,f9,g0,g1,g2,g3,g4,g5,g6,g7,g8,g9,h0,h1,h2))) (ja (apO 24 h1 [g7]) λj9=>ja (atL g1.2.2.2.1 f6) λk0=>ja (apO 8 h2 [k0]) λk1=>ja (some (w64 (f8+1))) λk2=>f0 (f7,k2,g1,g2,g3,g4,g5,g6,g8,g9,h0,j9,k1))) nn (f2,d7,d8,(f5.2.length:Int),0,d9,e0,e1,e2,e3,e4,f5.2,e5,e6,e7,e8,e9)) (some (e3,e4,e8,e9,()))) nn ((n.length:Int),0,j,k,l,m,j.1,j.2.1,n,o,p,[],[]))) nn (b,c,((List.replicate e (0:Int)).length:Int),0,a0,⟨List.replicate 256 0,wd2⟩,0,(List.replicate e (0:Int)),[],[],[]))
noncomputable def z2e:=lk (α:=HK) [(506,me [vp 1 0,vp 2 1,(3,.v LB),(4,.v LB),vo 5 2,vo 6 3,vi 27,vi 28] [.box 33 [.v Y_api_Dfa],.box 33 [.v (.arr 256 U8),.v I6,.own 4,.own 5],.row 3 I6,.row 3 I6,.row 31 L6,.row 3 I6] 6),(2042,me [vp 1 0,vp 2 1,vo 5 2,vp 8 3,vo 63 4,vi 64,vi 65] [.box 33 [.v Y_api_Dfa],.box 33 [.v (.arr 256 U8),.v I6,.own 5,.own 6],.row 3 I6,.box 33 [.v (.arr 256 U8),.v I6,.own 7,.own 8],.row 3 I6,.row 31 L6,.row 3 I6,.row 31 L6,.row 3 I6] 9),(8102,me [vp 1 0,vp 2 1,(3,.v LB),(4,.v LB),vo 5 2,vo 6 3,vi 27,vi 28] [.box 33 [.v Y_api_Dfa],.box 33 [.v (.arr 256 U8),.v I6,.own 4,.own 5],.row 3 I6,.row 3 I6,.row 31 L6,.row 3 I6] 6),(129638,me [vp 1 0,vp 2 1,(3,.v LB),(4,.v LB),vo 5 2,vo 6 3,vi 7,vi 27,vi 28,vb 47] [.box 33 [.v Y_api_Dfa],.box 33 [.v (.arr 256 U8),.v I6,.own 4,.own 5],.row 3 I6,.row 3 I6,.row 31 L6,.row 3 I6] 6),(4182842,me [vp 1 0,vp 2 1,vo 5 2,vp 8 3,vi 10,vo 11 4,vo 63 5,vi 64,vi 65,vo 79 4,vi 80,vi 81] [.box 33 [.v Y_api_Dfa],.box 33 [.v (.arr 256 U8),.v I6,.own 6,.own 7],.row 3 I6,.box 33 [.v (.arr 256 U8),.v I6,.own 8,.own 9],.row 3 I6,.row 3 I6,.row 31 L6,.row 3 I6,.row 31 L6,.row 3 I6] 10),(66925478,me [vp 1 0,vp 2 1,vo 5 2,vp 8 3,vi 10,vo 11 4,vo 63 5,vi 64,vi 65,vo 79 4,vi 80,vi 81] [.box 33 [.v Y_api_Dfa],.box 33 [.v (.arr 256 U8),.v I6,.own 6,.own 7],.row 3 I6,.box 33 [.v (.arr 256 U8),.v I6,.own 8,.own 9],.row 3 I6,.row 3 I6,.row 31 L6,.row 3 I6,.row 31 L6,.row 3 I6] 10)]
theorem zrc(nn:Nat):jz 27 ⟨[Y_api_Dfa],Y_api_Dfa,λt=>zec nn t⟩:=mk1 Tryz.func27 nn 0 [(0,[24,35,57,95,112])] [(0,[(55,.told I6),(99,.ownx),(109,.told I6)])] [(1668,[(99,M6)])] [] itn z2e rn gn (tc (P_dfa_Right_ok nn) (tc (zdu nn) (tc (zo8 nn) tn))) (by kernel_rfl) λt=>by kernel_rfl
noncomputable def Qc(nn:Nat)(a0:jb):Option (D_api_Dfa×(List (List Int))×jd×Unit):=J (σ:=jb×(Arr 256 Int)×jd×jb×D_api_Dfa×jd×(List (List Int))×(List Int)×(List (List Int))) (λ(a,b,c,d,e,f,g,h,i)=>ifB (decide (¬f.1=0)) (some ((⟨List.replicate 256 0,wd2⟩,0,[],[],()),[],f,())) (ja (Vc nn a) λk=>ja (zec nn e) λl=>some (l,k.1,f,()))) λj=>ja (Vx nn (some (a0,(⟨List.replicate 256 0,wd2⟩,0,[],[],()),[],()))) λm=>ifB (decide (¬m.1=0)) (j (a0,⟨List.replicate 256 0,wd2⟩,(0,0,0,()),a0,(⟨List.replicate 256 0,wd2⟩,0,[],[],()),m,[],[],[])) (ja (Qd nn (some (a0,(⟨List.replicate 256 0,wd2⟩,0,[],[],()),[],()))) λn=>ifB (decide (¬n.1=0)) (j (a0,⟨List.replicate 256 0,wd2⟩,(0,0,0,()),a0,(⟨List.replicate 256 0,wd2⟩,0,[],[],()),n,[],[],[])) (ja (Jl nn (some (a0,(⟨List.replicate 256 0,wd2⟩,0,[],[],()),[],()))) λo=>ifB (decide (¬o.1=0)) (j (a0,⟨List.replicate 256 0,wd2⟩,(0,0,0,()),a0,(⟨List.replicate 256 0,wd2⟩,0,[],[],()),o,[],[],[])) (ja (Jm nn (some (a0,(⟨List.replicate 256 0,wd2⟩,0,[],[],()),[],()))) λp=>ifB (decide (¬p.1=0)) (j (a0,⟨List.replicate 256 0,wd2⟩,(0,0,0,()),a0,(⟨List.replicate 256 0,wd2⟩,0,[],[],()),p,[],[],[])) (ja (Qg nn (some (a0,(⟨List.replicate 256 0,wd2⟩,0,[],[],()),[],()))) λq=>ifB (decide (¬q.1=0)) (j (a0,⟨List.replicate 256 0,wd2⟩,(0,0,0,()),a0,(⟨List.replicate 256 0,wd2⟩,0,[],[],()),q,[],[],[])) (J (σ:=jb×(Arr 256 Int)×jd×jb×D_api_Dfa×jd×(List (List Int))×(List Int)×(List (List Int))) (λ(r,s,u,v,w,x,y,z,b0)=>ifB (decide (¬x.1=0)) (j (r,s,u,v,w,x,y,z,b0)) (ja (Ja nn (some (v,w,b0,()))) λb2=>ifB (decide (¬b2.1=0)) (j (r,s,u,v,w,b2,y,z,b0)) (j (r,s,u,v,w,b2,y,z,b0)))) λb1=>ja (Y9 nn a0.1) λb3=>ja (Zb nn b3 a0.2.2.2.2.1) λb4=>ifB (decide (¬b4.2.2.1=0)) (b1 (a0,⟨List.replicate 256 0,wd2⟩,(0,0,0,()),a0,(⟨List.replicate 256 0,wd2⟩,0,[],[],()),(16,0,0,()),[],[],[])) (b1 (a0,⟨List.replicate 256 0,wd2⟩,(0,0,0,()),a0,b4.1,(0,0,0,()),[],[],[])))))))
noncomputable def ztl:=lk (α:=HK) [(221,me [vp 1 0,vp 2 1,vp 4 2,vp 5 3,vp 6 4] [.box 26 [.v Y_api_Grammar],.box 33 [.v (.arr 256 U8),.ci .i64 (0),.own 5,.own 6],.box 36 [.v jo],.box 69 [.v Y_api_Grammar,.v Y_api_Dfa,.own 7],.box 36 [.v jo],.row 31 L6,.row 3 I6,.row 31 L6] 8),(442,.unroll 24),(1814450,me [vp 1 0,vp 2 1,vp 4 2,vp 5 3,vp 6 4,vo 12 5,(13,.ci .i64 (7)),(14,.ci .i64 (5))] [.box 26 [.v Y_api_Grammar],.box 33 [.v (.arr 256 U8),.ci .i64 (0),.own 6,.own 7],.box 36 [.v jo],.box 69 [.v Y_api_Grammar,.v Y_api_Dfa,.own 8],.box 36 [.v jo],.rowx 74 1 [.agg [.fn 56 [] []],.agg [.fn 58 [] []],.agg [.fn 62 [] []],.agg [.fn 65 [] []],.agg [.fn 68 [] []],.agg [.fn 70 [] []],.agg [.fn 71 [] []]],.row 31 L6,.row 3 I6,.row 31 L6] 9)]
theorem zkm(nn:Nat):jz 9 ⟨[Y_api_Grammar],(.tup (.cons Y_api_Dfa (.cons M6 (.cons jo .nil)))),λt=>Qc nn t⟩:=mk1 Tryz.func9 nn 9 [] [(1,[(8,.ownx)])] [] [] (itc 1920025 Tryz.func25 h0 1 [] (itc 3870070 Tryz.func70 h0 2 [] itn (by kernel_rfl)) (by kernel_rfl)) ztl rn gn (tc (znd nn) (tc (zrc nn) (tc (zi7 nn) (tc (zi5 nn) (tc (zi3 nn) (tc (zja nn) (tc (ziv nn) (tc (zc7 nn) (tc (zup nn) (tc (zs2 nn) tn)))))))))) (by kernel_rfl) λt=>by kernel_rfl
noncomputable def qa(nn:Nat)(a0:jb):Option jd:=ja (Qc nn a0) λa=>some a.2.2.1
theorem zc6(nn:Nat):jz 13 ⟨[Y_api_Grammar],jo,λt=>qa nn t⟩:=mk1 Tryz.func13 nn 0 [] [] [] [] itn h0 rn gn (tc (zkm nn) tn) (by kernel_rfl) λt=>by kernel_rfl
noncomputable def zkk(nn:Nat)(a0:(Arr 4 Int))(a1:Int):Option (Arr 4 Int):=ja (zj8 .i64 a1 64) λa=>ja (zj8 .i64 a1 64) λb=>ja (vk 4 b) λc=>ja (atL a0.l c) λd=>ja (zmn .u64 (wr .u64 a1) 64) λe=>ja (zx6 .u64 1 e) λf=>ja (vk 4 a) λg=>ja (zp4 a0 g (orI .u64 d f)) λh=>some h
theorem zpy(nn:Nat):jz 91 ⟨[(.arr 4 (.int .u64)),I6],(.arr 4 (.int .u64)),λt=>zkk nn (t.1) (t.2)⟩:=mk1 Tryz.func91 nn 0 [] [] [] [] itn h0 rn gn tn (by kernel_rfl) λt=>by kernel_rfl
noncomputable def zo1(nn:Nat)(a0:Int):Option (Arr 4 Int):=ja (zkk nn (⟨List.replicate 4 0,wd2⟩) (wr .i64 a0)) λa=>some a
theorem ztt(nn:Nat):jz 54 ⟨[U8],(.arr 4 (.int .u64)),λt=>zo1 nn t⟩:=mk1 Tryz.func54 nn 0 [] [] [] [] itn h0 rn gn (tc (zpy nn) tn) (by kernel_rfl) λt=>by kernel_rfl
noncomputable def zhv(nn:Nat)(a0:(Arr 4 Int)):Option (List jc):=some [(1,a0,())]
theorem zun(nn:Nat):FFOk 53 ⟨[(.arr 4 (.int .u64))],126,Y_api_Rx,λt=>zhv nn t⟩:=mk2 Tryz.func53 nn 0 [] [(0,[(5,.own Y_api_Rx)])] [] [] itn h0 rn gn tn (by kernel_rfl) λt=>by kernel_rfl
theorem zsx(nn:Nat):jz 53 ⟨[(.arr 4 (.int .u64))],(.sl Y_api_Rx),λt=>zhv nn t⟩:=(zun nn).pure
noncomputable def zjk(nn:Nat):Option (List jc):=some [(2,⟨List.replicate 4 0,wd2⟩,())]
theorem znk(nn:Nat):FFOk 92 ⟨[],126,Y_api_Rx,λt=>zjk nn⟩:=mk2 Tryz.func92 nn 0 [] [(0,[(2,.own Y_api_Rx)])] [] [] itn h0 rn gn tn (by kernel_rfl) λt=>by kernel_rfl
noncomputable abbrev zv9:=zjk
noncomputable def zk5(nn:Nat)(a0:(List (List jc)))(a1:Int):Option (List jc):=jl (σ:=(List (List jc))×Int×Int×(List jc)) (λ(a,b,c,d)e=>ifB (decide (c<(a.length:Int))) (J (σ:=(List (List jc))×Int×Int×(List jc)) (λ(f,g,h,i)=>ja (some (w64 (h+1))) λk=>e (f,g,k,i)) λj=>ja (atL a c) λl=>ja (apO 40 d l) λm=>ifB (decide (0<c)) (ja (apO 40 m [(b,⟨List.replicate 4 0,wd2⟩,())]) λn=>j (a,b,c,n)) (j (a,b,c,m))) (some d)) nn (a0,a1,0,[])
noncomputable def z0h:=lk (α:=HK) [(58,me [(0,.v (.sl (.sl Y_api_Rx))),vi 1,vo 5 0,vi 6] [.row 126 Y_api_Rx] 1),(466,me [(0,.v (.sl (.sl Y_api_Rx))),vi 1,vo 5 0,vi 6] [.row 126 Y_api_Rx] 1)]
theorem zqf(nn:Nat):FFOk 93 ⟨[(.sl (.sl Y_api_Rx)),I6],126,Y_api_Rx,λt=>zk5 nn (t.1) (t.2)⟩:=mk2 Tryz.func93 nn 0 [(0,[13])] [(0,[(7,.own Y_api_Rx),(25,.told Y_api_Rx)])] [] [] itn z0h rn gn tn (by kernel_rfl) λt=>by kernel_rfl
noncomputable abbrev z0o:=zk5
noncomputable def zoq(nn:Nat)(a0:(List (List jc))):Option (List jc):=ifB (decide ((a0.length:Int)=0)) (ja (zv9 nn) λa=>some a) (ja (z0o nn a0 3) λb=>some b)
theorem ztg(nn:Nat):FFOk 55 ⟨[(.sl (.sl Y_api_Rx))],126,Y_api_Rx,λt=>zoq nn t⟩:=mk2 Tryz.func55 nn 0 [] [] [] [128,193] itn h0 rn (gc (znk nn) (gc (zqf nn) gn)) tn (by kernel_rfl) λt=>by kernel_rfl
noncomputable abbrev z30:=zoq
noncomputable def zcn(nn:Nat)(a0:(List UInt8)):Option (List jc):=jl (σ:=(List UInt8)×Int×(List (List jc))) (λ(a,b,c)d=>ifB (decide (b<(a.length:Int))) (ja (z43 a b) λe=>ja (zo1 nn e) λf=>ja (zhv nn f) λg=>ja (apO 24 c [g]) λh=>ja (some (w64 (b+1))) λi=>d (a,i,h)) (ja (z30 nn c) λj=>some j)) nn (a0,0,[])
noncomputable def zzu:=lk (α:=HK) [(58,me [(0,.v .str),vo 3 0,vi 4] [.row 45 (.sl Y_api_Rx)] 1)]
theorem zp2(nn:Nat):FFOk 24 ⟨[.str],126,Y_api_Rx,λt=>zcn nn t⟩:=mk2 Tryz.func24 nn 0 [(0,[11])] [(0,[(5,.own (.sl Y_api_Rx)),(18,.told (.sl Y_api_Rx))])] [] [385] itn zzu rn (gc (ztg nn) gn) (tc (zsx nn) (tc (ztt nn) tn)) (by kernel_rfl) λt=>by kernel_rfl
theorem zp9(nn:Nat):jz 24 ⟨[.str],(.sl Y_api_Rx),λt=>zcn nn t⟩:=(zp2 nn).pure
noncomputable def Jz(nn:Nat):Option Bool:=ja (zcn nn [97]) λa=>ja (zcn nn [97]) λb=>J (λ(c:Bool)=>some c) λd=>ja (qa nn ([([97],a,0,())],[[115]],[(0,[(true,0,0,0,()),(false,0,0,0,())],())],0,9,1,1,1,())) λe=>ja (some (jhv [e.1 == (14,0,0,()).1,e.2.1 == (14,0,0,()).2.1,e.2.2.1 == (14,0,0,()).2.2.1])) λf=>ifB f (ja (qa nn ([([97],a,0,()),([98],b,0,())],[[115]],[(0,[(false,0,0,0,())],())],0,9,1,1,1,())) λg=>d (jhv [g.1 == (13,1,1,()).1,g.2.1 == (13,1,1,()).2.1,g.2.2.1 == (13,1,1,()).2.2.1])) (d false)
noncomputable def zv4:=lk (α:=HK) [(126,me [vb 0] [] 0)]
theorem znz(nn:Nat):jz 8 ⟨[],.bool,λt=>Jz nn⟩:=mk1 Tryz.func8 nn 0 [(0,[30])] [(0,[(10,.told Y_api_Token),(11,.told .str),(14,.told Y_api_Item),(16,.told Y_api_Prod),(20,.told Y_api_Token),(21,.told .str),(23,.told Y_api_Item),(25,.told Y_api_Prod)])] [] [] itn zv4 rn gn (tc (zc6 nn) (tc (zp9 nn) tn)) (by kernel_rfl) λt=>by kernel_rfl
noncomputable def zaq(nn:Nat)(a0:Int):Option Int:=J (σ:=Int×Bool) (λ(a,b)=>ifB b (some 0) (J (σ:=Int×Bool) (λ(d,e)=>ifB e (some 2) (J (λ(g:Bool)=>ifB g (some 1) (some (-1))) λh=>ja (some (decide (d=5))) λi=>ifB i (h true) (ifB (decide (d=6)) (h true) (h (decide (d=7)))))) λf=>ja (some (decide (a=3))) λj=>ifB j (f (a,true)) (f (a,decide (a=4))))) λc=>ja (some (decide (a0=1))) λk=>ifB k (c (a0,true)) (c (a0,decide (a0=2)))
noncomputable def z5z:=lk (α:=HK) [(12,me [vi 0,vb 8] [] 0),(28,me [vi 0,vb 14] [] 0),(60,me [vb 24] [] 0)]
theorem zji(nn:Nat):jz 125 ⟨[I6],I6,λt=>zaq nn t⟩:=mk1 Tryz.func125 nn 0 [(0,[4,10,16])] [] [] [] itn z5z rn gn tn (by kernel_rfl) λt=>by kernel_rfl
noncomputable def Q9(nn:Nat)(a0:(List jc)):Option Int:=ifB (decide (512<(a0.length:Int))) (some 4) (jl (σ:=(List jc)×Int×Int) (λ(a,b,c)d=>ifB (decide (c<(a.length:Int))) (ja (atL a c) λe=>ja (zaq nn e.1) λf=>J (σ:=(List jc)×Int×Int×Int×Bool) (λ(g,h,i,j,k)=>ifB k (some 1) (ifB (decide (h<j)) (some 3) (ja (some (w64 ((w64 (h-j))+1))) λm=>ja (some (w64 (i+1))) λn=>d (g,m,n)))) λl=>ja (some (decide (f<0))) λo=>ifB o (l (a,b,c,f,true)) (ja (atL a c) λp=>ja (some (decide (¬p.1=1))) λq=>ifB q (ja (atL a c) λr=>l (a,b,c,f,!(r.2.1.l == (⟨List.replicate 4 0,wd2⟩:Arr 4 Int).l))) (l (a,b,c,f,false)))) (ifB (decide (¬b=1)) (some 3) (some 0))) nn (a0,0,0))
noncomputable def zvm:=lk (α:=HK) [(122,me [(0,.v (.sl Y_api_Rx)),vi 3,vi 4] [] 0),(15652,me [(0,.v (.sl Y_api_Rx)),vi 3,vi 4,vi 5,vb 39] [] 0)]
theorem zaz(nn:Nat):jz 82 ⟨[(.sl Y_api_Rx)],I6,λt=>Q9 nn t⟩:=mk1 Tryz.func82 nn 0 [(0,[14,22,29,46])] [] [] [] itn zvm rn gn (tc (zji nn) tn) (by kernel_rfl) λt=>by kernel_rfl
noncomputable def V6(nn:Nat)(a0:(List jc)):Option (List (Arr 4 Int)):=ja (Q9 nn a0) λa=>ifB (decide (¬a=0)) (some []) (jl (σ:=(List jc)×Int×(List (Arr 4 Int))) (λ(b,c,d)e=>ifB (decide (c<(b.length:Int))) (J (σ:=(List jc)×Int×(List (Arr 4 Int))) (λ(f,g,h)=>ja (some (w64 (g+1))) λj=>e (f,j,h)) λi=>ja (atL b c) λk=>ifB (decide (k.1=1)) (ja (atL b c) λl=>ja (apO 32 d [l.2.1]) λm=>i (b,c,m)) (i (b,c,d))) (some d)) nn (a0,0,[]))
noncomputable def zzp:=lk (α:=HK) [(122,me [(0,.v (.sl Y_api_Rx)),vo 3 0,vi 4] [.row 97 (.arr 4 (.int .u64))] 1),(978,me [(0,.v (.sl Y_api_Rx)),vo 3 0,vi 4] [.row 97 (.arr 4 (.int .u64))] 1)]
theorem zp6(nn:Nat):FFOk 45 ⟨[(.sl Y_api_Rx)],97,(.arr 4 (.int .u64)),λt=>V6 nn t⟩:=mk2 Tryz.func45 nn 0 [(0,[15])] [(0,[(5,.own (.arr 4 (.int .u64))),(28,.told (.arr 4 (.int .u64)))])] [] [] itn zzp rn gn (tc (zaz nn) tn) (by kernel_rfl) λt=>by kernel_rfl
theorem zgo(nn:Nat):jz 45 ⟨[(.sl Y_api_Rx)],(.sl (.arr 4 (.int .u64))),λt=>V6 nn t⟩:=(zp6 nn).pure
noncomputable def Zx(nn:Nat)(a0:(List jc))(a1:Int):Option Int:=jl (σ:=(List jc)×Int×Int×Int) (λ(a,b,c,d)e=>ifB (decide (d<b)) (J (σ:=(List jc)×Int×Int×Int) (λ(f,g,h,i)=>ja (some (w64 (i+1))) λk=>e (f,g,h,k)) λj=>ja (atL a d) λl=>ifB (decide (l.1=1)) (ja (some (w64 (c+1))) λm=>j (a,b,m,d)) (j (a,b,c,d))) (some c)) nn (a0,a1,0,0)
noncomputable def zr4:=lk (α:=HK) [(58,me [(0,.v (.sl Y_api_Rx)),vi 1,vi 5,vi 6] [] 0),(466,me [(0,.v (.sl Y_api_Rx)),vi 1,vi 5,vi 6] [] 0)]
theorem zlg(nn:Nat):jz 137 ⟨[(.sl Y_api_Rx),I6],I6,λt=>Zx nn (t.1) (t.2)⟩:=mk1 Tryz.func137 nn 0 [(0,[11,19])] [] [] [] itn zr4 rn gn tn (by kernel_rfl) λt=>by kernel_rfl
noncomputable def Yw(nn:Nat)(rec:((List jc)×Int)->Option Int)(a0:(List jc))(a1:Int):Option Int:=J (σ:=(List jc)×Int×Bool) (λ(a,b,c)=>ifB c (some (-1)) (ja (atL a b) λe=>ja (zaq nn e.1) λf=>jl (σ:=(List jc)×Int×Int×Int) (λ(g,h,i,j)k=>ifB (decide (j<h)) (ja (rec (g,(w64 (i-1)))) λl=>ifB (decide (l<0)) (some (-1)) (ja (some (w64 (j+1))) λm=>k (g,h,l,m))) (ifB (decide (h<0)) (some (-1)) (some i))) nn (a,f,b,0))) λd=>ja (some (decide (a1<0))) λn=>ifB n (d (a0,a1,true)) (d (a0,a1,decide ((a0.length:Int)<=a1)))
noncomputable def qp(nn:Nat):Nat->DL [(.sl Y_api_Rx),I6]->Option (Ty.D I6)
 |0,_=>none
 |m+1,t=>Yw nn (qp nn m) (t.1) (t.2)
noncomputable def Q8(nn:Nat)(a0:(List jc))(a1:Int):Option Int:=qp nn nn (a0,a1)
noncomputable def zu3:=lk (α:=HK) [(12,me [(0,.v (.sl Y_api_Rx)),vi 1,vb 15] [] 0),(250,me [(0,.v (.sl Y_api_Rx)),vi 5,vi 6,vi 7] [] 0)]
theorem zmp(nn:Nat):∀m,jz 138 ⟨[(.sl Y_api_Rx),I6],I6,qp nn m⟩:=mk3 (ats:=[(.sl Y_api_Rx),I6]) (rt:=I6) (b:=λrec t=>Yw nn rec (t.1) (t.2)) (q:=qp nn) Tryz.func138 nn 0 [(0,[9,27])] [] [] [] itn zu3 rn gn (λrec h=>tc h (tc (zji nn) tn)) (by kernel_rfl) (λrec t=>by kernel_rfl) (λ_=>rfl) λ_ _=>rfl
theorem zap(nn:Nat):jz 138 ⟨[(.sl Y_api_Rx),I6],I6,qp nn nn⟩:=zmp nn nn
noncomputable def y0(nn:Nat)(rec:((List jc)×Int)->Option Bool)(a0:(List jc))(a1:Int):Option Bool:=ja (atL a0 a1) λa=>ifB (decide (a.1=1)) (some false) (J (σ:=(List jc)×Int×Int×Bool) (λ(b,c,d,e)=>ifB e (some true) (ja (rec (b,(w64 (c-1)))) λg=>ifB (decide (d=6)) (some g) (ja (Q8 nn b (w64 (c-1))) λh=>ja (rec (b,(w64 (h-1)))) λi=>ifB (decide (d=3)) (J (λ(j:Bool)=>some j) λk=>ifB i (k g) (k false)) (J (λ(l:Bool)=>some l) λm=>ifB i (m true) (m g))))) λf=>ja (some (decide (a.1=2))) λn=>ifB n (f (a0,a1,a.1,true)) (ifB (decide (a.1=5)) (f (a0,a1,a.1,true)) (f (a0,a1,a.1,decide (a.1=7)))))
noncomputable def zk(nn:Nat):Nat->DL [(.sl Y_api_Rx),I6]->Option (Ty.D .bool)
 |0,_=>none
 |m+1,t=>y0 nn (zk nn m) (t.1) (t.2)
noncomputable def zfu(nn:Nat)(a0:(List jc))(a1:Int):Option Bool:=zk nn nn (a0,a1)
noncomputable def zz9:=lk (α:=HK) [(60,me [(0,.v (.sl Y_api_Rx)),vi 1,vi 5,vb 24] [] 0),(1022,me [vb 4] [] 0),(4084,me [vb 4] [] 0)]
theorem zo3(nn:Nat):∀m,jz 139 ⟨[(.sl Y_api_Rx),I6],.bool,zk nn m⟩:=mk3 (ats:=[(.sl Y_api_Rx),I6]) (rt :=.bool) (b:=λrec t=>y0 nn rec (t.1) (t.2)) (q:=zk nn) Tryz.func139 nn 0 [(0,[16])] [] [] [] itn zz9 rn gn (λrec h=>tc h (tc (zap nn) tn)) (by kernel_rfl) (λrec t=>by kernel_rfl) (λ_=>rfl) λ_ _=>rfl
theorem zpa(nn:Nat):jz 139 ⟨[(.sl Y_api_Rx),I6],.bool,zk nn nn⟩:=zo3 nn nn
noncomputable def Ju(nn:Nat)(rec:((List jc)×Int×Bool)->Option (List Int))(a0:(List jc))(a1:Int)(a2:Bool):Option (List Int):=ja (atL a0 a1) λa=>ifB (decide (a.1=1)) (ja (Zx nn a0 a1) λb=>some [b]) (ifB (decide (a.1=2)) (some []) (ja (rec (a0,(w64 (a1-1)),a2)) λc=>J (σ:=(List jc)×Int×Bool×Int×Bool×(List Int)) (λ(d,e,f,g,h,i)=>ifB h (some i) (ja (Q8 nn d (w64 (e-1))) λk=>ja (some (w64 (k-1))) λl=>ja (rec (d,l,f)) λm=>J (σ:=(List jc)×Bool×Int×Int×Bool×(List Int)×(List Int)) (λ(n,o,p,q,r,s,u)=>ifB r (some s) (J (σ:=Bool×(List Int)×(List Int)) (λ(w,x,y)=>ifB w (some y) (ja (apO 8 y x) λb0=>some b0)) λz=>ja (some (decide (p=3))) λb1=>ifB b1 (ifB (!o) (ja (zfu nn n q) λb2=>z (!b2,s,u)) (z (false,s,u))) (z (false,s,u)))) λv=>ja (some (decide (g=3))) λb3=>ifB b3 (ifB f (ja (zfu nn d (w64 (e-1))) λb4=>v (d,f,g,l,!b4,i,m)) (v (d,f,g,l,false,i,m))) (v (d,f,g,l,false,i,m)))) λj=>ja (some (decide (¬a.1=3))) λb5=>ifB b5 (j (a0,a1,a2,a.1,decide (¬a.1=4),c)) (j (a0,a1,a2,a.1,false,c))))
noncomputable def vq(nn:Nat):Nat->DL [(.sl Y_api_Rx),I6,.bool]->Option (Ty.D L6)
 |0,_=>none
 |m+1,t=>Ju nn (vq nn m) (t.1) (t.2.1) (t.2.2)
noncomputable def vu(nn:Nat)(a0:(List jc))(a1:Int)(a2:Bool):Option (List Int):=vq nn nn (a0,a1,a2)
noncomputable def z0d:=lk (α:=HK) [(252,me [(0,.v (.sl Y_api_Rx)),vi 1,vb 2,vi 7,vo 8 0,vb 35] [.row 3 I6] 1),(2044,me [(0,.v (.sl Y_api_Rx)),vb 2,vi 7,vo 8 0,vi 9,vo 10 1,vb 57] [.row 3 I6,.row 3 I6] 2),(4092,me [vo 8 0,vo 10 1,vb 70] [.row 3 I6,.row 3 I6] 2)]
theorem zqq(nn:Nat):∀m,FFOk 88 ⟨[(.sl Y_api_Rx),I6,.bool],3,I6,vq nn m⟩:=mk4 (ats:=[(.sl Y_api_Rx),I6,.bool]) (e:=3) (rt:=I6) (b:=λrec t=>Ju nn rec (t.1) (t.2.1) (t.2.2)) (q:=vq nn) Tryz.func88 nn 0 [(0,[31,41,47,60])] [(0,[(21,.own I6),(24,.own I6)])] [] [388,643] itn z0d rn (λrec h=>gc h gn) (tc (zlg nn) (tc (zap nn) (tc (zpa nn) tn))) (by kernel_rfl) (λrec t=>by kernel_rfl) (λ_=>rfl) λ_ _=>rfl
theorem zb7(nn:Nat):FFOk 88 ⟨[(.sl Y_api_Rx),I6,.bool],3,I6,vq nn nn⟩:=zqq nn nn
noncomputable abbrev zmd:=vu
theorem zqi(nn:Nat):jz 88 ⟨[(.sl Y_api_Rx),I6,.bool],L6,vq nn nn⟩:=(zb7 nn).pure
noncomputable def Zv(nn:Nat)(a0:(List jc)):Option (List Int):=ja (Q9 nn a0) λa=>ifB (decide (¬a=0)) (some []) (ja (zmd nn a0 (w64 ((a0.length:Int)-1)) true) λb=>some b)
theorem zo2(nn:Nat):FFOk 46 ⟨[(.sl Y_api_Rx)],3,I6,λt=>Zv nn t⟩:=mk2 Tryz.func46 nn 0 [] [(0,[(6,.own I6)])] [] [196] itn h0 rn (gc (zb7 nn) gn) (tc (zaz nn) tn) (by kernel_rfl) λt=>by kernel_rfl
theorem zqm(nn:Nat):jz 46 ⟨[(.sl Y_api_Rx)],L6,λt=>Zv nn t⟩:=(zo2 nn).pure
noncomputable def Vi(nn:Nat)(a0:(List Int))(a1:Int):Option Bool:=jl (σ:=(List Int)×Int×Int) (λ(a,b,c)d=>ifB (decide (c<(a.length:Int))) (ja (atL a c) λe=>ifB (decide (e=b)) (some true) (ja (some (w64 (c+1))) λf=>d (a,b,f))) (some false)) nn (a0,a1,0)
noncomputable def z1v:=lk (α:=HK) [(26,me [vl 0,vi 1,vi 5] [] 0)]
theorem zdg(nn:Nat):jz 29 ⟨[L6,I6],.bool,λt=>Vi nn (t.1) (t.2)⟩:=mk1 Tryz.func29 nn 0 [(0,[11])] [] [] [] itn z1v rn gn tn (by kernel_rfl) λt=>by kernel_rfl
noncomputable def v8(nn:Nat)(a0:(List Int))(a1:Int):Option Bool:=jl (σ:=(List Int)×Int×Int) (λ(a,b,c)d=>ifB (decide (c<(a.length:Int))) (ja (atL a c) λe=>ifB (decide (e=b)) (some true) (ja (some (w64 (c+1))) λf=>d (a,b,f))) (some false)) nn (a0,a1,0)
noncomputable def z1o:=lk (α:=HK) [(26,me [vl 0,vi 1,vi 5] [] 0)]
theorem zr9(nn:Nat):jz 140 ⟨[L6,I6],.bool,λt=>v8 nn (t.1) (t.2)⟩:=mk1 Tryz.func140 nn 0 [(0,[11])] [] [] [] itn z1o rn gn tn (by kernel_rfl) λt=>by kernel_rfl
noncomputable def Y1(nn:Nat)(a0:(List jc))(a1:Int)(a2:Int):Option Bool:=jl (σ:=(List jc)×Int×Int×Int) (λ(a,b,c,d)e=>ifB (decide (d<(a.length:Int))) (J (σ:=(List jc)×Int×Int×Int) (λ(f,g,h,i)=>ja (some (w64 (i+1))) λk=>e (f,g,h,k)) λj=>ja (atL a d) λl=>J (σ:=(List jc)×Int×Int×Int×Int) (λ(m,n,o,p,q)=>ifB (decide (q=3)) (ja (Q8 nn m (w64 (p-1))) λs=>J (σ:=(List jc)×Int×Int×Int×Bool) (λ(u,v,w,x,y)=>ifB y (some true) (j (u,v,w,x))) λz=>ja (vu nn m (w64 (s-1)) true) λb0=>ja (v8 nn b0 n) λb1=>ifB b1 (ja (vu nn m (w64 (p-1)) false) λb2=>ja (v8 nn b2 o) λb3=>z (m,n,o,p,b3)) (z (m,n,o,p,false))) (j (m,n,o,p))) λr=>J (σ:=(List jc)×Int×Int×Int×Int×Bool) (λ(b4,b5,b6,b7,b8,b9)=>ifB b9 (J (σ:=(List jc)×Int×Int×Int×Int×Bool) (λ(c1,c2,c3,c4,c5,c6)=>ifB c6 (some true) (r (c1,c2,c3,c4,c5))) λc7=>ja (vu nn b4 (w64 (b7-1)) true) λc8=>ja (v8 nn c8 b5) λc9=>ifB c9 (ja (vu nn b4 (w64 (b7-1)) false) λd0=>ja (v8 nn d0 b6) λd1=>c7 (b4,b5,b6,b7,b8,d1)) (c7 (b4,b5,b6,b7,b8,false))) (r (b4,b5,b6,b7,b8))) λc0=>ja (some (decide (l.1=5))) λd2=>ifB d2 (c0 (a,b,c,d,l.1,true)) (c0 (a,b,c,d,l.1,decide (l.1=6)))) (some false)) nn (a0,a1,a2,0)
noncomputable def zqc:=lk (α:=HK) [(26,me [(0,.v (.sl Y_api_Rx)),vi 1,vi 2,vi 7] [] 0),(210,me [(0,.v (.sl Y_api_Rx)),vi 1,vi 2,vi 7] [] 0),(841,me [(0,.v (.sl Y_api_Rx)),vi 1,vi 2,vi 7,vi 8] [] 0),(3364,me [(0,.v (.sl Y_api_Rx)),vi 1,vi 2,vi 7,vi 8,vb 26] [] 0),(13460,me [(0,.v (.sl Y_api_Rx)),vi 1,vi 2,vi 7,vi 8,vb 40] [] 0),(26938,me [(0,.v (.sl Y_api_Rx)),vi 1,vi 2,vi 7,vb 60] [] 0)]
theorem zjo(nn:Nat):jz 89 ⟨[(.sl Y_api_Rx),I6,I6],.bool,λt=>Y1 nn (t.1) (t.2.1) (t.2.2)⟩:=mk1 Tryz.func89 nn 0 [(0,[15,22])] [] [] [] itn zqc rn gn (tc (zqi nn) (tc (zap nn) (tc (zr9 nn) tn))) (by kernel_rfl) λt=>by kernel_rfl
noncomputable def Vq(nn:Nat)(a0:(List jc))(a1:Int):Option (List Int):=ja (V6 nn a0) λa=>ja (some (a.length:Int)) λb=>jl (σ:=(List jc)×Int×Int×Int×(List Int)) (λ(c,d,e,f,g)h=>ifB (decide (f<e)) (J (σ:=(List jc)×Int×Int×Int×(List Int)) (λ(i,j,k,l,m)=>ja (some (w64 (l+1))) λo=>h (i,j,k,o,m)) λn=>J (σ:=(List jc)×Int×Int×Int×Bool×(List Int)) (λ(p,q,r,s,u,v)=>ifB u (ja (apO 8 v [s]) λx=>n (p,q,r,s,x)) (n (p,q,r,s,v))) λw=>ja (some (decide (0<=d))) λy=>ifB y (ifB (decide (d<e)) (ja (Y1 nn c d f) λz=>w (c,d,e,f,z,g)) (w (c,d,e,f,false,g))) (w (c,d,e,f,false,g))) (some g)) nn (a0,a1,b,0,[])
noncomputable def ztv:=lk (α:=HK) [(122,me [(0,.v (.sl Y_api_Rx)),vi 1,vo 5 0,vi 6,vi 7] [.row 3 I6] 1),(978,me [(0,.v (.sl Y_api_Rx)),vi 1,vo 5 0,vi 6,vi 7] [.row 3 I6] 1),(3912,me [(0,.v (.sl Y_api_Rx)),vi 1,vo 5 0,vi 6,vi 7,vb 29] [.row 3 I6] 1)]
theorem zlq(nn:Nat):FFOk 48 ⟨[(.sl Y_api_Rx),I6],3,I6,λt=>Vq nn (t.1) (t.2)⟩:=mk2 Tryz.func48 nn 0 [(0,[11,16,18])] [(0,[(8,.own I6),(32,.told I6)])] [] [] itn ztv rn gn (tc (zgo nn) (tc (zjo nn) tn)) (by kernel_rfl) λt=>by kernel_rfl
theorem zmb(nn:Nat):jz 48 ⟨[(.sl Y_api_Rx),I6],L6,λt=>Vq nn (t.1) (t.2)⟩:=(zlq nn).pure
noncomputable def Q0(nn:Nat)(a0:(List Int))(a1:Int):Option (List Int):=jl (σ:=(List Int)×Int×Int×(List Int)) (λ(a,b,c,d)e=>ifB (decide (c<(a.length:Int))) (ja (atL a c) λf=>ja (apO 8 d [w64 (f+b)]) λg=>ja (some (w64 (c+1))) λh=>e (a,b,h,g)) (some d)) nn (a0,a1,0,[])
noncomputable def zu2:=lk (α:=HK) [(58,me [vl 0,vi 1,vo 5 0,vi 6] [.row 3 I6] 1)]
theorem zn9(nn:Nat):FFOk 47 ⟨[L6,I6],3,I6,λt=>Q0 nn (t.1) (t.2)⟩:=mk2 Tryz.func47 nn 0 [(0,[13])] [(0,[(7,.own I6),(21,.told I6)])] [] [] itn zu2 rn gn tn (by kernel_rfl) λt=>by kernel_rfl
theorem zn0(nn:Nat):jz 47 ⟨[L6,I6],L6,λt=>Q0 nn (t.1) (t.2)⟩:=(zn9 nn).pure
noncomputable def Yl(nn:Nat)(a0:(List jc)):Option (List Int):=ja (Q9 nn a0) λa=>ifB (decide (¬a=0)) (some []) (ja (zmd nn a0 (w64 ((a0.length:Int)-1)) false) λb=>some b)
theorem zno(nn:Nat):FFOk 49 ⟨[(.sl Y_api_Rx)],3,I6,λt=>Yl nn t⟩:=mk2 Tryz.func49 nn 0 [] [(0,[(6,.own I6)])] [] [196] itn h0 rn (gc (zb7 nn) gn) (tc (zaz nn) tn) (by kernel_rfl) λt=>by kernel_rfl
theorem znb(nn:Nat):jz 49 ⟨[(.sl Y_api_Rx)],L6,λt=>Yl nn t⟩:=(zno nn).pure
noncomputable def zaa(nn:Nat)(a0:(List jv)):Option je:=jl (σ:=(List jv)×Int×(List (Arr 4 Int))×(List Int)×(List Bool)×(List (List Int))×(List Int)×(List (Arr 4 Int))×(List Int)×(List Bool)×(List (List Int))×(List Int)) (λ(a,b,c,d,e,f,g,h,i,j,k,l)m=>ifB (decide (b<(a.length:Int))) (ja (some (h.length:Int)) λn=>ja (atL a b) λo=>ja (V6 nn o.2.1) λp=>ja (atL a b) λq=>ja (Zv nn q.2.1) λr=>jl (σ:=(List jv)×Int×Int×(List (Arr 4 Int))×(List Int)×Int×(List (Arr 4 Int))×(List Int)×(List Bool)×(List (List Int))×(List Int)×(List (Arr 4 Int))×(List Int)×(List Bool)×(List (List Int))×(List Int)) (λ(s,u,v,w,x,y,z,b0,b1,b2,b3,b4,b5,b6,b7,b8)b9=>ifB (decide (y<(w.length:Int))) (ja (atL w y) λc0=>ja (apO 32 b4 [c0]) λc1=>ja (apO 8 b5 [u]) λc2=>ja (Vi nn x y) λc3=>ja (apO 1 b6 [c3]) λc4=>ja (atL s u) λc5=>ja (Vq nn c5.2.1 y) λc6=>ja (Q0 nn c6 v) λc7=>ja (apO 24 b7 [c7]) λc8=>ja (some (w64 (y+1))) λc9=>b9 (s,u,v,w,x,c9,z,b0,b1,b2,b3,c1,c2,c4,c8,b8)) (ja (atL s u) λd0=>ja (Yl nn d0.2.1) λd1=>ja (Q0 nn d1 v) λd2=>ja (apO 8 b8 d2) λd3=>ja (some (w64 (u+1))) λd4=>m (s,d4,z,b0,b1,b2,b3,b4,b5,b6,b7,d3))) nn (a,b,n,p,r,0,c,d,e,f,g,h,i,j,k,l)) (some (h,i,j,k,l,()))) nn (a0,0,[],[],[],[],[],[],[],[],[],[])
noncomputable def zyz:=lk (α:=HK) [(58,me [(0,.v (.sl Y_api_Token)),vp 2 0,vp 3 1,vi 4] [.box 61 [.own 2,.own 3,.own 4,.own 5,.own 6],.box 61 [.own 7,.own 8,.own 9,.own 10,.own 11],.row 97 (.arr 4 (.int .u64)),.row 3 I6,.row 4 .bool,.row 31 L6,.row 3 I6,.row 97 (.arr 4 (.int .u64)),.row 3 I6,.row 4 .bool,.row 31 L6,.row 3 I6] 12),(59706,me [(0,.v (.sl Y_api_Token)),vp 2 0,vp 3 1,vi 4,vi 5,(6,.v (.sl (.arr 4 (.int .u64)))),vl 7,vi 8] [.box 61 [.own 2,.own 3,.own 4,.own 5,.own 6],.box 61 [.own 7,.own 8,.own 9,.own 10,.own 11],.row 97 (.arr 4 (.int .u64)),.row 3 I6,.row 4 .bool,.row 31 L6,.row 3 I6,.row 97 (.arr 4 (.int .u64)),.row 3 I6,.row 4 .bool,.row 31 L6,.row 3 I6] 12)]
theorem zph(nn:Nat):jz 21 ⟨[(.sl Y_api_Token)],jj,λt=>zaa nn t⟩:=mk1 Tryz.func21 nn 0 [(0,[15,18,36])] [(0,[(43,.told (.arr 4 (.int .u64))),(49,.told I6),(57,.told .bool),(71,.told L6)])] [] [] itn zyz rn gn (tc (zdg nn) (tc (zgo nn) (tc (zqm nn) (tc (zn0 nn) (tc (zmb nn) (tc (znb nn) tn)))))) (by kernel_rfl) λt=>by kernel_rfl
noncomputable def zbh(nn:Nat)(a0:(List Int)):Option Bool:=jl (σ:=(List Int)×Int) (λ(a,b)c=>ifB (decide (b<(a.length:Int))) (ja (atL a (w64 (b-1))) λd=>ja (atL a b) λe=>ifB (decide (e<=d)) (some false) (ja (some (w64 (b+1))) λf=>c (a,f))) (some true)) nn (a0,1)
noncomputable def zuw:=lk (α:=HK) [(26,me [vl 0,vi 3] [] 0)]
theorem zob(nn:Nat):jz 135 ⟨[L6],.bool,λt=>zbh nn t⟩:=mk1 Tryz.func135 nn 0 [(0,[9])] [] [] [] itn zuw rn gn tn (by kernel_rfl) λt=>by kernel_rfl
noncomputable def Yr(nn:Nat)(a0:je)(a1:(List Int)):Option Bool:=jl (σ:=(List Int)×Int×je) (λ(a,b,c)d=>ifB (decide (b<(a.length:Int))) (J (σ:=(List Int)×Int×Bool×je) (λ(e,f,g,h)=>ifB g (some false) (ja (some (w64 (f+1))) λj=>d (e,j,h))) λi=>ja (atL a b) λk=>ja (some (decide (k<0))) λl=>ifB l (i (a,b,true,c)) (ja (atL a b) λm=>i (a,b,decide ((c.1.length:Int)<=m),c))) (ja (zbh nn a) λn=>some n)) nn (a1,0,a0)
noncomputable def zvk:=lk (α:=HK) [(26,me [vl 1,vp 2 0,vi 5] [.box 61 [.v jj]] 1),(840,me [vl 1,vp 2 0,vi 5,vb 26] [.box 61 [.v jj]] 1)]
theorem zml(nn:Nat):jz 85 ⟨[jj,L6],.bool,λt=>Yr nn (t.1) (t.2)⟩:=mk1 Tryz.func85 nn 0 [(0,[11,16])] [] [] [] itn zvk rn gn (tc (zob nn) tn) (by kernel_rfl) λt=>by kernel_rfl
noncomputable def J3(nn:Nat)(a0:je):Option Bool:=J (σ:=Bool×je) (λ(a,b)=>ifB a (some false) (jl (σ:=Int×je) (λ(d,e)f=>ifB (decide (d<(e.1.length:Int))) (J (σ:=Int×Bool×je) (λ(g,h,i)=>ifB h (some false) (ja (some (w64 (g+1))) λk=>f (k,i))) λj=>ja (atL e.2.1 d) λl=>ja (some (decide (l<0))) λm=>ifB m (j (d,true,e)) (ja (atL e.2.2.2.1 d) λn=>ja (Yr nn e n) λo=>j (d,!o,e))) (some true)) nn (0,b))) λc=>ja (some (decide (¬(a0.2.1.length:Int)=(a0.1.length:Int)))) λp=>ifB p (c (true,a0)) (ifB (decide (¬(a0.2.2.1.length:Int)=(a0.1.length:Int))) (c (true,a0)) (ifB (decide (¬(a0.2.2.2.1.length:Int)=(a0.1.length:Int))) (c (true,a0)) (ja (Yr nn a0 a0.2.2.2.2.1) λq=>c (!q,a0))))
noncomputable def zv1:=lk (α:=HK) [(12,me [vp 1 0,vb 35] [.box 61 [.v jj]] 1),(58,me [vp 1 0,vi 3] [.box 61 [.v jj]] 1),(1864,me [vp 1 0,vi 3,vb 58] [.box 61 [.v jj]] 1)]
theorem V9(nn:Nat):jz 38 ⟨[jj],.bool,λt=>J3 nn t⟩:=mk1 Tryz.func38 nn 0 [(0,[10,42,48])] [] [] [] itn zv1 rn gn (tc (zml nn) tn) (by kernel_rfl) λt=>by kernel_rfl
noncomputable def Zh(nn:Nat)(a0:(Arr 4 Int))(a1:Int):Option Bool:=ja (zj8 .i64 (wr .i64 a1) 64) λa=>ja (vk 4 a) λb=>ja (atL a0.l b) λc=>ja (zmn .u64 (wr .u64 a1) 64) λd=>ja (zm2 .u64 c d) λe=>ja (zmn .u64 e 2) λf=>some (decide (f=1))
theorem zhs(nn:Nat):jz 136 ⟨[(.arr 4 (.int .u64)),U8],.bool,λt=>Zh nn (t.1) (t.2)⟩:=mk1 Tryz.func136 nn 0 [] [] [] [] itn h0 rn gn tn (by kernel_rfl) λt=>by kernel_rfl
noncomputable def Yu(nn:Nat)(a0:(List (Arr 4 Int)))(a1:Int)(a2:Int):Option Bool:=jl (σ:=(List (Arr 4 Int))×Int×Int×Int) (λ(a,b,c,d)e=>ifB (decide (d<(a.length:Int))) (ja (atL a d) λf=>ja (Zh nn f (wr .u8 b)) λg=>ja (atL a d) λh=>ja (Zh nn h (wr .u8 c)) λi=>ifB (g != i) (some false) (ja (some (w64 (d+1))) λj=>e (a,b,c,j))) (some true)) nn (a0,a1,a2,0)
noncomputable def zu4:=lk (α:=HK) [(26,me [(0,.v (.sl (.arr 4 (.int .u64)))),vi 1,vi 2,vi 7] [] 0)]
theorem zmk(nn:Nat):jz 86 ⟨[(.sl (.arr 4 (.int .u64))),I6,I6],.bool,λt=>Yu nn (t.1) (t.2.1) (t.2.2)⟩:=mk1 Tryz.func86 nn 0 [(0,[13])] [] [] [] itn zu4 rn gn (tc (zhs nn) tn) (by kernel_rfl) λt=>by kernel_rfl
noncomputable def zge(nn:Nat)(a0:(List (Arr 4 Int))):Option ((Arr 256 Int)×Int×Unit):=jl (σ:=(List (Arr 4 Int))×Int×Int×(Arr 256 Int)×(Arr 256 Int)) (λ(a,b,c,d,e)f=>ifB (decide (c<256)) (J (σ:=(List (Arr 4 Int))×Int×Int×(Arr 256 Int)×(Arr 256 Int)) (λ(g,h,i,j,k)=>ja (some (w64 (i+1))) λm=>f (g,h,m,j,k)) λl=>jl (σ:=(List (Arr 4 Int))×Int×Int×Int×(Arr 256 Int)×(Arr 256 Int)) (λ(n,o,p,q,r,s)u=>ja (Yu nn n q p) λv=>ifB (!v) (ja (some (w64 (q+1))) λw=>u (n,o,p,w,r,s)) (ifB (decide (q<p)) (ja (vk 256 q) λx=>ja (atL s.l x) λy=>ja (vk 256 p) λz=>ja (zp4 s z y) λb0=>l (n,o,p,r,b0)) (ja (vk 256 p) λb1=>ja (zp4 s b1 (wr .u8 o)) λb2=>ja (some (w64 (o+1))) λb3=>l (n,b3,p,r,b2)))) nn (a,b,c,0,d,e)) (some (e,b,()))) nn (a0,0,0,⟨List.replicate 256 0,wd2⟩,⟨List.replicate 256 0,wd2⟩)
noncomputable def z49:=lk (α:=HK) [(122,me [(0,.v (.sl (.arr 4 (.int .u64)))),vp 2 0,vp 4 1,vi 5,vi 6] [.box 29 [.v (.arr 256 U8)],.box 29 [.v (.arr 256 U8)]] 2),(978,me [(0,.v (.sl (.arr 4 (.int .u64)))),vp 2 0,vp 4 1,vi 5,vi 6] [.box 29 [.v (.arr 256 U8)],.box 29 [.v (.arr 256 U8)]] 2),(15652,me [(0,.v (.sl (.arr 4 (.int .u64)))),vp 2 0,vp 4 1,vi 5,vi 6,vi 7] [.box 29 [.v (.arr 256 U8)],.box 29 [.v (.arr 256 U8)]] 2)]
theorem zvx(nn:Nat):jz 39 ⟨[(.sl (.arr 4 (.int .u64)))],(.tup (.cons (.arr 256 U8) (.cons I6 .nil))),λt=>zge nn t⟩:=mk1 Tryz.func39 nn 0 [(0,[12,19,33])] [] [] [] itn z49 rn gn (tc (zmk nn) tn) (by kernel_rfl) λt=>by kernel_rfl
noncomputable def za7(nn:Nat)(a0:(Arr 256 Int))(a1:Int):Option (List Int):=jl (σ:=Int×Int×(Arr 256 Int)×(List Int)) (λ(a,b,c,d)e=>ifB (decide (b<256)) (J (σ:=Int×Int×(Arr 256 Int)×(List Int)) (λ(f,g,h,i)=>ja (some (w64 (g+1))) λk=>e (f,k,h,i)) λj=>ja (vk 256 b) λl=>ja (atL c.l l) λm=>ifB (decide ((wr .i64 m)=a)) (ja (apO 1 d [wr .u8 b]) λn=>j (a,b,c,n)) (j (a,b,c,d))) (some d)) nn (a1,0,a0,[])
noncomputable def zu9:=lk (α:=HK) [(58,me [vi 1,vp 2 0,vo 5 1,vi 6] [.box 29 [.v (.arr 256 U8)],.row 5 U8] 2),(466,me [vi 1,vp 2 0,vo 5 1,vi 6] [.box 29 [.v (.arr 256 U8)],.row 5 U8] 2)]
theorem zne(nn:Nat):FFOk 40 ⟨[(.arr 256 U8),I6],5,U8,λt=>za7 nn (t.1) (t.2)⟩:=mk2 Tryz.func40 nn 0 [(0,[11])] [(0,[(7,.own U8),(21,.told U8)])] [] [] itn zu9 rn gn tn (by kernel_rfl) λt=>by kernel_rfl
theorem zn1(nn:Nat):jz 40 ⟨[(.arr 256 U8),I6],(.sl U8),λt=>za7 nn (t.1) (t.2)⟩:=(zne nn).pure
noncomputable def zfm(nn:Nat)(a0:je)(a1:(List Int))(a2:Int):Option (List Int):=jl (σ:=(List Int)×Int×Int×je×(List Int)) (λ(a,b,c,d,e)f=>ifB (decide (c<(d.1.length:Int))) (J (σ:=(List Int)×Int×Int×je×(List Int)) (λ(g,h,i,j,k)=>ja (some (w64 (i+1))) λm=>f (g,h,m,j,k)) λl=>J (σ:=(List Int)×Int×Int×Bool×je×(List Int)) (λ(n,o,p,q,r,s)=>ifB q (ja (apO 8 s [p]) λv=>l (n,o,p,r,v)) (l (n,o,p,r,s))) λu=>ja (Vi nn a c) λw=>ifB w (ja (atL d.1 c) λx=>ja (Zh nn x b) λy=>u (a,b,c,y,d,e)) (u (a,b,c,false,d,e))) (some e)) nn (a1,a2,0,a0,[])
noncomputable def zyj:=lk (α:=HK) [(58,me [vl 1,(2,.v U8),vp 3 0,vo 7 1,vi 8] [.box 61 [.v jj],.row 3 I6] 2),(466,me [vl 1,(2,.v U8),vp 3 0,vo 7 1,vi 8] [.box 61 [.v jj],.row 3 I6] 2),(1864,me [vl 1,(2,.v U8),vp 3 0,vo 7 1,vi 8,vb 28] [.box 61 [.v jj],.row 3 I6] 2)]
theorem zgr(nn:Nat):FFOk 87 ⟨[jj,L6,U8],3,I6,λt=>zfm nn (t.1) (t.2.1) (t.2.2)⟩:=mk2 Tryz.func87 nn 0 [(0,[16])] [(0,[(9,.own I6),(31,.told I6)])] [] [] itn zyj rn gn (tc (zdg nn) (tc (zhs nn) tn)) (by kernel_rfl) λt=>by kernel_rfl
noncomputable abbrev zcu:=zfm
noncomputable def Zp(nn:Nat)(a0:je)(a1:(List Int))(a2:Int):Option (List Int):=ja (J3 nn a0) λa=>ifB (!a) (some []) (jl (σ:=(List Int)×Int×Int×je×(List Int)) (λ(b,c,d,e,f)g=>ifB (decide (d<(b.length:Int))) (J (σ:=(List Int)×Int×Int×je×(List Int)) (λ(h,i,j,k,l)=>ja (some (w64 (j+1))) λn=>g (h,i,n,k,l)) λm=>J (σ:=(List Int)×Int×Int×Bool×je×(List Int)) (λ(o,p,q,r,s,u)=>ifB r (ja (atL o q) λw=>ja (atL s.2.2.2.1 w) λx=>ja (apO 8 u x) λy=>m (o,p,q,s,y)) (m (o,p,q,s,u))) λv=>ja (atL b d) λz=>ja (some (decide (0<=z))) λb0=>ifB b0 (ja (atL b d) λb1=>v (b,c,d,decide (b1<(e.1.length:Int)),e,f)) (v (b,c,d,false,e,f))) (ja (zcu nn e f c) λb2=>some b2)) nn (a1,a2,0,a0,[]))
noncomputable def zzc:=lk (α:=HK) [(122,me [vl 1,(2,.v U8),vp 3 0,vo 7 1,vi 8] [.box 61 [.v jj],.row 3 I6] 2),(978,me [vl 1,(2,.v U8),vp 3 0,vo 7 1,vi 8] [.box 61 [.v jj],.row 3 I6] 2),(3912,me [vl 1,(2,.v U8),vp 3 0,vo 7 1,vi 8,vb 34] [.box 61 [.v jj],.row 3 I6] 2)]
theorem zpn(nn:Nat):FFOk 41 ⟨[jj,L6,U8],3,I6,λt=>Zp nn (t.1) (t.2.1) (t.2.2)⟩:=mk2 Tryz.func41 nn 0 [(0,[19,24])] [(0,[(9,.own I6)])] [] [579] itn zzc rn (gc (zgr nn) gn) (tc (V9 nn) tn) (by kernel_rfl) λt=>by kernel_rfl
theorem zp5(nn:Nat):jz 41 ⟨[jj,L6,U8],L6,λt=>Zp nn (t.1) (t.2.1) (t.2.2)⟩:=(zpn nn).pure
noncomputable def Yx(nn:Nat)(a0:je)(a1:Int):Option (List Int):=ja (J3 nn a0) λa=>ifB (!a) (some []) (ja (zcu nn a0 a0.2.2.2.2.1 a1) λb=>some b)
theorem zm3(nn:Nat):FFOk 42 ⟨[jj,U8],3,I6,λt=>Yx nn (t.1) (t.2)⟩:=mk2 Tryz.func42 nn 0 [] [(0,[(8,.own I6)])] [] [196] itn h0 rn (gc (zgr nn) gn) (tc (V9 nn) tn) (by kernel_rfl) λt=>by kernel_rfl
theorem zmj(nn:Nat):jz 42 ⟨[jj,U8],L6,λt=>Yx nn (t.1) (t.2)⟩:=(zm3 nn).pure
noncomputable def zci(nn:Nat)(a0:(List Int))(a1:(List Int)):Option Bool:=ifB (decide (¬(a0.length:Int)=(a1.length:Int))) (some false) (jl (σ:=(List Int)×(List Int)×Int) (λ(a,b,c)d=>ifB (decide (c<(a.length:Int))) (ja (atL a c) λe=>ja (atL b c) λf=>ifB (decide (¬e=f)) (some false) (ja (some (w64 (c+1))) λg=>d (a,b,g))) (some true)) nn (a0,a1,0))
noncomputable def zzy:=lk (α:=HK) [(58,me [vl 0,vl 1,vi 5] [] 0)]
theorem zp0(nn:Nat):jz 32 ⟨[L6,L6],.bool,λt=>zci nn (t.1) (t.2)⟩:=mk1 Tryz.func32 nn 0 [(0,[16])] [] [] [] itn zzy rn gn tn (by kernel_rfl) λt=>by kernel_rfl
noncomputable def zch(nn:Nat)(a0:(List (List Int)))(a1:(List Int)):Option Int:=jl (σ:=(List (List Int))×(List Int)×Int) (λ(a,b,c)d=>ifB (decide (c<(a.length:Int))) (ja (atL a c) λe=>ja (zci nn e b) λf=>ifB f (some c) (ja (some (w64 (c+1))) λg=>d (a,b,g))) (some (-1))) nn (a0,a1,0)
noncomputable def zyb:=lk (α:=HK) [(26,me [(0,.v M6),vl 1,vi 5] [] 0)]
theorem zpp(nn:Nat):jz 43 ⟨[M6,L6],I6,λt=>zch nn (t.1) (t.2)⟩:=mk1 Tryz.func43 nn 0 [(0,[11])] [] [] [] itn zyb rn gn (tc (zp0 nn) tn) (by kernel_rfl) λt=>by kernel_rfl
noncomputable def za6(nn:Nat)(a0:je)(a1:(List Int)):Option Int:=ja (J3 nn a0) λa=>ifB (!a) (some (-1)) (jl (σ:=(List Int)×Int×Int×je) (λ(b,c,d,e)f=>ifB (decide (d<(b.length:Int))) (J (σ:=(List Int)×Int×Int×je) (λ(g,h,i,j)=>ja (some (w64 (i+1))) λl=>f (g,h,l,j)) λk=>J (σ:=(List Int)×Int×Int×Bool×je) (λ(m,n,o,p,q)=>ifB p (ja (atL m o) λs=>ja (atL q.2.1 s) λu=>k (m,u,o,q)) (k (m,n,o,q))) λr=>ja (atL b d) λv=>ja (some (decide (0<=v))) λw=>ifB w (ja (atL b d) λx=>ifB (decide (x<(e.1.length:Int))) (ja (atL b d) λy=>ja (atL e.2.2.1 y) λz=>ifB z (ja (some (decide (c<0))) λb0=>ifB b0 (r (b,c,d,true,e)) (ja (atL b d) λb1=>ja (atL e.2.1 b1) λb2=>r (b,c,d,decide (b2<c),e))) (r (b,c,d,false,e))) (r (b,c,d,false,e))) (r (b,c,d,false,e))) (some c)) nn (a1,(-1),0,a0))
noncomputable def zvd:=lk (α:=HK) [(122,me [vl 1,vp 2 0,vi 5,vi 6] [.box 61 [.v jj]] 1),(978,me [vl 1,vp 2 0,vi 5,vi 6] [.box 61 [.v jj]] 1),(3912,me [vl 1,vp 2 0,vi 5,vi 6,vb 57] [.box 61 [.v jj]] 1)]
theorem zny(nn:Nat):jz 44 ⟨[jj,L6],I6,λt=>za6 nn (t.1) (t.2)⟩:=mk1 Tryz.func44 nn 0 [(0,[16,21,44])] [] [] [] itn zvd rn gn (tc (V9 nn) tn) (by kernel_rfl) λt=>by kernel_rfl
noncomputable def Yv(nn:Nat)(a0:je)(a1:Int):Option (D_api_Dfa×Int×Int×Unit):=ja (J3 nn a0) λa=>ifB (!a) (some ((⟨List.replicate 256 0,wd2⟩,0,[],[],()),0,3,())) (J (σ:=Int×Bool×je×(Arr 256 Int)×Int×(List (List Int))×(List Int)) (λ(b,c,d,e,f,g,h)=>ifB c (some ((⟨List.replicate 256 0,wd2⟩,0,[],[],()),0,2,())) (ja (zge nn d.1) λj=>jl (σ:=Int×Int×je×(Arr 256 Int)×Int×(Arr 256 Int)×Int×(List (List Int))×(List (List Int))×(List Int)×(List (List Int))×(List Int)) (λ(k,l,m,n,o,p,q,r,s,u,v,w)x=>ifB (decide (l<(r.length:Int))) (jl (σ:=Int×Int×Int×je×(Arr 256 Int)×Int×(Arr 256 Int)×Int×(List (List Int))×(List Int)×(List (List Int))×(List Int)×(List (List Int))×(List Int)) (λ(y,z,b0,b1,b2,b3,b4,b5,b6,b7,b8,b9,c0,c1)c2=>ifB (decide (b0<b5)) (ja (za7 nn b4 b0) λc3=>ja (atL c3 0) λc4=>ja (vk b6.length z) λc5=>ja (atL b6 c5) λc6=>ja (Zp nn b1 c6 c4) λc7=>J (σ:=Int×Int×Int×(List Int)×je×(Arr 256 Int)×Int×(Arr 256 Int)×Int×(List (List Int))×(List Int)×(List (List Int))×(List Int)×(List (List Int))×(List Int)) (λ(c8,c9,d0,d1,d2,d3,d4,d5,d6,d7,d8,d9,e0,e1,e2)=>ja (zch nn d7 d1) λe4=>J (σ:=Int×Int×Int×Int×je×(Arr 256 Int)×Int×(Arr 256 Int)×Int×(List (List Int))×(List Int)×(List (List Int))×(List Int)×(List (List Int))×(List Int)) (λ(e5,e6,e7,e8,e9,f0,f1,f2,f3,f4,f5,f6,f7,f8,f9)=>ifB (decide (e5<(f4.length:Int))) (some ((⟨List.replicate 256 0,wd2⟩,0,[],[],()),0,16,())) (ja (apO 8 f5 [e8]) λg1=>ja (some (w64 (e7+1))) λg2=>c2 (e5,e6,g2,e9,f0,f1,f2,f3,f4,g1,f6,f7,f8,f9))) λg0=>ifB (decide ((d1.length:Int)=0)) (g0 (c8,c9,d0,(-1),d2,d3,d4,d5,d6,d7,d8,d9,e0,e1,e2)) (ifB (decide (e4<0)) (ja (some (d7.length:Int)) λg3=>ja (apO 24 d7 [d1]) λg4=>g0 (c8,c9,d0,g3,d2,d3,d4,d5,d6,g4,d8,d9,e0,e1,e2)) (g0 (c8,c9,d0,e4,d2,d3,d4,d5,d6,d7,d8,d9,e0,e1,e2)))) λe3=>ifB (decide (z=0)) (ja (Yx nn b1 c4) λg5=>e3 (y,z,b0,g5,b1,b2,b3,b4,b5,b6,b7,b8,b9,c0,c1)) (e3 (y,z,b0,c7,b1,b2,b3,b4,b5,b6,b7,b8,b9,c0,c1))) (ja (apO 24 c0 [b7]) λg6=>ja (vk b6.length z) λg7=>ja (atL b6 g7) λg8=>ja (za6 nn b1 g8) λg9=>ja (apO 8 c1 [g9]) λh0=>ja (some (w64 (z+1))) λh1=>x (y,h1,b1,b2,b3,b4,b5,b6,b8,b9,g6,h0))) nn (k,l,0,m,n,o,p,q,r,[],s,u,v,w)) (some ((p,q,v,w,()),(r.length:Int),0,()))) nn (b,0,d,e,f,j.1,j.2.1,[[]],g,h,[],[]))) λi=>ja (some (decide (a1<1))) λh2=>ifB h2 (i (a1,true,a0,⟨List.replicate 256 0,wd2⟩,0,[],[])) (i (a1,decide (4096<a1),a0,⟨List.replicate 256 0,wd2⟩,0,[],[])))
noncomputable def zu0:=lk (α:=HK) [(28,me [vi 1,vp 2 0,vp 4 1,vb 24] [.box 61 [.v jj],.box 33 [.v (.arr 256 U8),.v I6,.own 2,.own 3],.row 31 L6,.row 3 I6] 4),(1018,me [vi 1,vp 2 0,vp 4 1,vp 7 2,vo 8 3,vi 9] [.box 61 [.v jj],.box 33 [.v (.arr 256 U8),.v I6,.own 4,.own 5],.box 33 [.v (.arr 256 U8),.v I6,.own 6,.own 7],.row 31 L6,.row 31 L6,.row 3 I6,.row 31 L6,.row 3 I6] 8),(260682,me [vi 1,vp 2 0,vp 4 1,vp 7 2,vo 8 3,vi 9,vo 10 4,vi 11] [.box 61 [.v jj],.box 33 [.v (.arr 256 U8),.v I6,.own 5,.own 6],.box 33 [.v (.arr 256 U8),.v I6,.own 7,.own 8],.row 31 L6,.row 3 I6,.row 31 L6,.row 3 I6,.row 31 L6,.row 3 I6] 9),(16683667,me [vi 1,vp 2 0,vp 4 1,vp 7 2,vo 8 3,vi 9,vo 10 4,vi 11,vl 13] [.box 61 [.v jj],.box 33 [.v (.arr 256 U8),.v I6,.own 5,.own 6],.box 33 [.v (.arr 256 U8),.v I6,.own 7,.own 8],.row 31 L6,.row 3 I6,.row 31 L6,.row 3 I6,.row 31 L6,.row 3 I6] 9),(66734671,me [vi 1,vp 2 0,vp 4 1,vp 7 2,vo 8 3,vi 9,vo 10 4,vi 11,vi 14] [.box 61 [.v jj],.box 33 [.v (.arr 256 U8),.v I6,.own 5,.own 6],.box 33 [.v (.arr 256 U8),.v I6,.own 7,.own 8],.row 31 L6,.row 3 I6,.row 31 L6,.row 3 I6,.row 31 L6,.row 3 I6] 9)]
theorem zn2(nn:Nat):jz 20 ⟨[jj,I6],(.tup (.cons Y_api_Dfa (.cons I6 (.cons I6 .nil)))),λt=>Yv nn (t.1) (t.2)⟩:=mk1 Tryz.func20 nn 0 [(0,[20,42,49,77])] [(0,[(35,.told I6),(36,.own L6),(43,.own I6),(80,.told L6),(89,.told I6),(94,.ownx),(105,.told I6)])] [(1796,[(94,M6)])] [] itn zu0 rn gn (tc (V9 nn) (tc (zvx nn) (tc (zn1 nn) (tc (zp5 nn) (tc (zmj nn) (tc (zpp nn) (tc (zny nn) tn))))))) (by kernel_rfl) λt=>by kernel_rfl
noncomputable def zbc(nn:Nat)(a0:(Arr 256 Int)):Option Bool:=jl (σ:=Int×Int×(Arr 256 Int)) (λ(a,b,c)d=>ifB (decide (b<256)) (J (σ:=Int×Int×(Arr 256 Int)) (λ(e,f,g)=>ja (some (w64 (f+1))) λi=>d (e,i,g)) λh=>ja (vk 256 b) λj=>ja (atL c.l j) λk=>ifB (decide (a<(wr .i64 k))) (some false) (ja (vk 256 b) λl=>ja (atL c.l l) λm=>ifB (decide ((wr .i64 m)=a)) (ja (some (w64 (a+1))) λn=>h (n,b,c)) (h (a,b,c)))) (some true)) nn (0,0,a0)
noncomputable def zvs:=lk (α:=HK) [(58,me [vp 1 0,vi 3,vi 4] [.box 29 [.v (.arr 256 U8)]] 1),(466,me [vp 1 0,vi 3,vi 4] [.box 29 [.v (.arr 256 U8)]] 1)]
theorem znr(nn:Nat):jz 123 ⟨[(.arr 256 U8)],.bool,λt=>zbc nn t⟩:=mk1 Tryz.func123 nn 0 [(0,[8,22])] [] [] [] itn zvs rn gn tn (by kernel_rfl) λt=>by kernel_rfl
noncomputable def za9(nn:Nat)(a0:(Arr 256 Int)):Option Int:=jl (σ:=Int×Int×(Arr 256 Int)) (λ(a,b,c)d=>ifB (decide (b<256)) (ja (vk 256 b) λe=>ja (atL c.l e) λf=>ja (some (max a (w64 ((wr .i64 f)+1)))) λg=>ja (some (w64 (b+1))) λh=>d (g,h,c)) (some a)) nn (0,0,a0)
noncomputable def zv8:=lk (α:=HK) [(58,me [vp 1 0,vi 3,vi 4] [.box 29 [.v (.arr 256 U8)]] 1)]
theorem zm4(nn:Nat):jz 124 ⟨[(.arr 256 U8)],I6,λt=>za9 nn t⟩:=mk1 Tryz.func124 nn 0 [(0,[8,15])] [] [] [] itn zv8 rn gn tn (by kernel_rfl) λt=>by kernel_rfl
noncomputable def Va(nn:Nat)(a0:D_api_Dfa):Option Bool:=J (σ:=Bool×D_api_Dfa) (λ(a,b)=>ifB a (some false) (jl (σ:=Int×D_api_Dfa) (λ(d,e)f=>ifB (decide (d<(e.2.2.1.length:Int))) (J (σ:=Int×Bool×D_api_Dfa) (λ(g,h,i)=>ifB h (some false) (jl (σ:=Int×Int×D_api_Dfa) (λ(k,l,m)n=>ifB (decide (l<m.2.1)) (J (σ:=Int×Int×Bool×D_api_Dfa) (λ(o,p,q,r)=>ifB q (some false) (ja (some (w64 (p+1))) λu=>n (o,u,r))) λs=>ja (atL m.2.2.1 k) λv=>ja (atL v l) λw=>ja (some (decide (w<(-1)))) λx=>ifB x (s (k,l,true,m)) (ja (atL m.2.2.1 k) λy=>ja (atL y l) λz=>s (k,l,decide ((m.2.2.1.length:Int)<=z),m))) (ja (some (w64 (k+1))) λb0=>f (b0,m))) nn (g,0,i))) λj=>ja (atL e.2.2.1 d) λb1=>ja (some (decide (¬(b1.length:Int)=e.2.1))) λb2=>ifB b2 (j (d,true,e)) (ja (atL e.2.2.2.1 d) λb3=>j (d,decide (b3<(-1)),e))) (some true)) nn (0,b))) λc=>ja (zbc nn a0.1) λb4=>ja (some (!b4)) λb5=>ifB b5 (c (true,a0)) (ja (za9 nn a0.1) λb6=>ifB (decide (¬a0.2.1=b6)) (c (true,a0)) (ifB (decide ((a0.2.2.1.length:Int)=0)) (c (true,a0)) (c (decide (¬(a0.2.2.2.1.length:Int)=(a0.2.2.1.length:Int)),a0))))
noncomputable def zvp:=lk (α:=HK) [(12,me [vp 1 0,vb 31] [.box 33 [.v Y_api_Dfa]] 1),(58,me [vp 1 0,vi 3] [.box 33 [.v Y_api_Dfa]] 1),(3728,me [vp 1 0,vi 3,vb 55] [.box 33 [.v Y_api_Dfa]] 1),(7462,me [vp 1 0,vi 3,vi 4] [.box 33 [.v Y_api_Dfa]] 1),(238792,me [vp 1 0,vi 3,vi 4,vb 84] [.box 33 [.v Y_api_Dfa]] 1)]
theorem zoh(nn:Nat):jz 79 ⟨[Y_api_Dfa],.bool,λt=>Va nn t⟩:=mk1 Tryz.func79 nn 0 [(0,[8,38,47,61,70])] [] [] [] itn zvp rn gn (tc (znr nn) (tc (zm4 nn) tn)) (by kernel_rfl) λt=>by kernel_rfl
noncomputable def Qt(nn:Nat)(a0:D_api_Dfa):Option (List Bool):=ja (Va nn a0) λa=>ifB (!a) (some []) (ja (some (a0.2.2.1.length:Int)) λb=>ja (mkO 1 b) λc=>ja (vk (List.replicate c false).length 0) λd=>ja (zas (List.replicate c false) d true) λe=>jl (σ:=Int×D_api_Dfa×(List Bool)) (λ(f,g,h)i=>ifB (decide (f<(h.length:Int))) (jl (σ:=Int×Int×D_api_Dfa×(List Bool)) (λ(j,k,l,m)n=>ifB (decide (k<(m.length:Int))) (jl (σ:=Int×Int×Int×D_api_Dfa×(List Bool)) (λ(o,p,q,r,s)u=>J (σ:=Int×Int×Int×Bool×D_api_Dfa×(List Bool)) (λ(v,w,x,y,z,b0)=>ifB y (J (σ:=Int×Int×Int×D_api_Dfa×(List Bool)) (λ(b2,b3,b4,b5,b6)=>ja (some (w64 (b4+1))) λb8=>u (b2,b3,b8,b5,b6)) λb7=>ja (atL z.2.2.1 w) λb9=>ja (atL b9 x) λc0=>ifB (decide (0<=c0)) (ja (atL z.2.2.1 w) λc1=>ja (atL c1 x) λc2=>ja (vk b0.length c2) λc3=>ja (zas b0 c3 true) λc4=>b7 (v,w,x,z,c4)) (b7 (v,w,x,z,b0))) (ja (some (w64 (w+1))) λc5=>n (v,c5,z,b0))) λb1=>ja (vk s.length p) λc6=>ja (atL s c6) λc7=>ifB c7 (b1 (o,p,q,decide (q<r.2.1),r,s)) (b1 (o,p,q,false,r,s))) nn (j,k,0,l,m)) (ja (some (w64 (j+1))) λc8=>i (c8,l,m))) nn (f,0,g,h)) (some h)) nn (0,a0,e))
noncomputable def zpu:=lk (α:=HK) [(250,me [vp 1 0,vo 3 1,vi 4] [.box 33 [.v Y_api_Dfa],.row 4 .bool] 2),(16018,me [vp 1 0,vo 3 1,vi 4,vi 5] [.box 33 [.v Y_api_Dfa],.row 4 .bool] 2),(1025170,me [vp 1 0,vo 3 1,vi 4,vi 5,vi 6] [.box 33 [.v Y_api_Dfa],.row 4 .bool] 2),(8201360,me [vp 1 0,vo 3 1,vi 4,vi 5,vi 6,vb 38] [.box 33 [.v Y_api_Dfa],.row 4 .bool] 2),(8201362,me [vp 1 0,vo 3 1,vi 4,vi 5,vi 6] [.box 33 [.v Y_api_Dfa],.row 4 .bool] 2)]
theorem zjl(nn:Nat):FFOk 50 ⟨[Y_api_Dfa],4,.bool,λt=>Qt nn t⟩:=mk2 Tryz.func50 nn 0 [(0,[13,22,28,40])] [(0,[(10,.own .bool)])] [] [] itn zpu rn gn (tc (zoh nn) tn) (by kernel_rfl) λt=>by kernel_rfl
theorem zkd(nn:Nat):jz 50 ⟨[Y_api_Dfa],LB,λt=>Qt nn t⟩:=(zjl nn).pure
noncomputable def p_ref11_put(nn:Nat)(a0:(List Int))(a1:Int):Option (List Int):=ja (Vi nn a0 a1) λa=>ifB a (some a0) (jl (σ:=(List Int)×Int×Int×(List Int)) (λ(b,c,d,e)f=>J (σ:=(List Int)×Int×Int×Bool×(List Int)) (λ(g,h,i,j,k)=>ifB j (ja (atL g i) λm=>ja (apO 8 k [m]) λn=>ja (some (w64 (i+1))) λo=>f (g,h,o,n)) (ja (apO 8 k [h]) λp=>jl (σ:=(List Int)×Int×(List Int)) (λ(q,r,s)u=>ifB (decide (r<(q.length:Int))) (ja (atL q r) λv=>ja (apO 8 s [v]) λw=>ja (some (w64 (r+1))) λx=>u (q,x,w)) (some s)) nn (g,(k.length:Int),p))) λl=>ja (some (decide (d<(b.length:Int)))) λy=>ifB y (ja (atL b d) λz=>l (b,c,d,decide (z<c),e)) (l (b,c,d,false,e))) nn (a0,a1,0,[]))
noncomputable def zf2(nn:Nat)(a0:(List Int)):Option (List Int):=jl (σ:=(List Int)×Int×(List Int)) (λ(a,b,c)d=>ifB (decide (b<(a.length:Int))) (J (σ:=(List Int)×Int×(List Int)) (λ(e,f,g)=>ja (some (w64 (f+1))) λi=>d (e,i,g)) λh=>ja (atL a b) λj=>ja (Vi nn c j) λk=>ifB k (h (a,b,c)) (jl (σ:=Int×Int×(List Int)×(List Int)) (λ(l,m,n,o)p=>J (σ:=Int×Int×Bool×(List Int)×(List Int)) (λ(q,r,s,u,v)=>ifB s (ja (vk u.length r) λx=>ja (atL u x) λy=>ja (apO 8 v [y]) λz=>ja (some (w64 (r+1))) λb0=>p (q,b0,u,z)) (ja (apO 8 v [q]) λb1=>jl (σ:=Int×(List Int)×(List Int)) (λ(b2,b3,b4)b5=>ifB (decide (b2<(b3.length:Int))) (ja (vk b3.length b2) λb6=>ja (atL b3 b6) λb7=>ja (apO 8 b4 [b7]) λb8=>ja (some (w64 (b2+1))) λb9=>b5 (b9,b3,b8)) (h (a,b,b4))) nn ((v.length:Int),u,b1))) λw=>ja (some (decide (m<(n.length:Int)))) λc0=>ifB c0 (ja (vk n.length m) λc1=>ja (atL n c1) λc2=>w (l,m,decide (c2<l),n,o)) (w (l,m,false,n,o))) nn (j,0,c,[]))) (some c)) nn (a0,0,[])
noncomputable def z4q:=lk (α:=HK) [(58,me [vl 0,vo 3 0,vi 4] [.row 3 I6] 1),(932,me [vl 0,vo 3 0,vi 4] [.row 3 I6] 1)]
noncomputable def zuz:=lk (α:=HK) [(122,me [vo 0 0,vi 1,vo 5 1,vi 6] [.row 3 I6,.row 3 I6] 2),(976,me [vo 0 0,vi 1,vo 5 1,vi 6,vb 25] [.row 3 I6,.row 3 I6] 2),(1018,me [vo 0 0,vo 5 1,vi 8] [.row 3 I6,.row 3 I6] 2)]
theorem zve(nn:Nat):FFOk 51 ⟨[L6],3,I6,λt=>zf2 nn t⟩:=mk2 Tryz.func51 nn 9 [(0,[11]),(1,[17,27,47])] [(0,[(5,.own I6)]),(1,[(13,.own I6),(33,.told I6),(39,.told I6),(53,.told I6)])] [] [] (itc 3250090 Tryz.func90 zuz 1 [] itn (by kernel_rfl)) z4q rn gn (tc (zdg nn) tn) (by kernel_rfl) λt=>by kernel_rfl
noncomputable abbrev z6c:=zf2
noncomputable def Qf(nn:Nat)(a0:D_api_Dfa):Option (List Int):=ja (Qt nn a0) λa=>jl (σ:=(List Bool)×Int×D_api_Dfa×(List Int)) (λ(b,c,d,e)f=>ifB (decide (c<(b.length:Int))) (J (σ:=(List Bool)×Int×D_api_Dfa×(List Int)) (λ(g,h,i,j)=>ja (some (w64 (h+1))) λl=>f (g,l,i,j)) λk=>J (σ:=(List Bool)×Int×Bool×D_api_Dfa×(List Int)) (λ(m,n,o,p,q)=>ifB o (ja (atL p.2.2.2.1 n) λs=>ja (apO 8 q [s]) λu=>k (m,n,p,u)) (k (m,n,p,q))) λr=>ja (atL b c) λv=>ifB v (ja (atL d.2.2.2.1 c) λw=>r (b,c,decide (0<=w),d,e)) (r (b,c,false,d,e))) (ja (z6c nn e) λx=>some x)) nn (a,0,a0,[])
noncomputable def zs4:=lk (α:=HK) [(122,me [vp 1 0,vo 3 1,(4,.v LB),vi 5] [.box 33 [.v Y_api_Dfa],.row 3 I6] 2),(978,me [vp 1 0,vo 3 1,(4,.v LB),vi 5] [.box 33 [.v Y_api_Dfa],.row 3 I6] 2),(3912,me [vp 1 0,vo 3 1,(4,.v LB),vi 5,vb 26] [.box 33 [.v Y_api_Dfa],.row 3 I6] 2)]
theorem zku(nn:Nat):FFOk 22 ⟨[Y_api_Dfa],3,I6,λt=>Qf nn t⟩:=mk2 Tryz.func22 nn 0 [(0,[14])] [(0,[(6,.own I6),(33,.told I6)])] [] [513] itn zs4 rn (gc (zve nn) gn) (tc (zkd nn) tn) (by kernel_rfl) λt=>by kernel_rfl
theorem zmc(nn:Nat):jz 22 ⟨[Y_api_Dfa],L6,λt=>Qf nn t⟩:=(zku nn).pure
noncomputable def J9(nn:Nat)(a0:jb):Option Bool:=ja (zbf nn a0) λa=>ifB (!a) (ja (Jz nn) λb=>some b) (ja (qa nn a0) λc=>J (σ:=Bool×jb×jd) (λ(d,e,f)=>ifB d (ja (Jz nn) λh=>some h) (ja (zaa nn e.1) λi=>ja (Yv nn i 200) λj=>ifB (decide (¬j.2.2.1=0)) (J (λ(k:Bool)=>some k) λl=>ja (qa nn (e.1,e.2.1,e.2.2.1,e.2.2.2.1,200,e.2.2.2.2.2.1,e.2.2.2.2.2.2.1,e.2.2.2.2.2.2.2.1,())) λm=>ja (some (decide (m.1=16))) λn=>ifB n (ja (Jz nn) λo=>l o) (l false)) (ja (qa nn (e.1,e.2.1,e.2.2.1,e.2.2.2.1,200,e.2.2.2.2.2.1,e.2.2.2.2.2.2.1,e.2.2.2.2.2.2.2.1,())) λp=>ja (Qf nn j.1) λq=>J (σ:=Int×Int×Bool×jb×jd×jb) (λ(r,s,u,v,w,x)=>ifB u (some false) (J (λ(z:Bool)=>some z) λb0=>ja (some (decide (¬s=16))) λb1=>ifB b1 (ja (qa nn x) λb2=>ifB (decide (b2.1=s)) (ifB ((decide (w.1=16)) == (decide (v.2.2.2.2.1<r))) (ja (Jz nn) λb3=>b0 b3) (b0 false)) (b0 false)) (b0 false))) λy=>ja (some (decide (p.1=0))) λb4=>ifB b4 (y (j.2.1,p.1,decide (¬(q.length:Int)=(e.1.length:Int)),e,f,(e.1,e.2.1,e.2.2.1,e.2.2.2.1,j.2.1,e.2.2.2.2.2.1,e.2.2.2.2.2.2.1,e.2.2.2.2.2.2.2.1,()))) (y (j.2.1,p.1,false,e,f,(e.1,e.2.1,e.2.2.1,e.2.2.2.1,j.2.1,e.2.2.2.2.2.1,e.2.2.2.2.2.2.1,e.2.2.2.2.2.2.2.1,())))))) λg=>ja (some (decide (¬c.1=16))) λb5=>ifB b5 (g (decide (¬c.1=0),a0,c)) (g (false,a0,c)))
noncomputable def ziw:=lk (α:=HK) [(60,me [vp 1 0,vp 3 1,vb 23] [.box 26 [.v Y_api_Grammar],.box 36 [.v jo]] 2),(4084,me [vb 2] [] 0),(16380,me [vp 1 0,vp 3 1,vp 4 2,vi 6,vi 8,vb 60] [.box 26 [.v Y_api_Grammar],.box 36 [.v jo],.box 26 [.v Y_api_Grammar]] 3),(16382,me [vb 2] [] 0)]
theorem P_law25_AcceptBound_ok(nn:Nat):jz 6 ⟨[Y_api_Grammar],.bool,λt=>J9 nn t⟩:=mk1 Tryz.func6 nn 0 [(0,[18,40,52,62])] [] [] [] itn ziw rn gn (tc (zng nn) (tc (znz nn) (tc (zc6 nn) (tc (zn2 nn) (tc (zph nn) (tc (zmc nn) tn)))))) (by kernel_rfl) λt=>by kernel_rfl
structure Fi(ι:Type)where
 ev:(ι->Prop)->Prop
 mono:∀{P Q:ι->Prop},(∀i,P i->Q i)->ev P->ev Q
 and:∀{P Q:ι->Prop},ev P->ev Q->ev λi=>P i/\Q i
 top:ev λ_=>True
def wcf:Fi Nat where
 ev P:=∃N,∀n,N<=n->P n
 mono:=λh⟨N,hN⟩=>⟨N,λn hn=>h n (hN n hn)⟩
 and:=λ⟨N,hN⟩ ⟨M,hM⟩=>⟨max N M,λn hn=>⟨hN n (by omega),hM n (by omega)⟩⟩
 top:=⟨0,λ_ _=>trivial⟩
def Fi.mul{ι:Type}(D:Fi ι):Fi (ι×Nat) where
 ev P:=∃N,D.ev λi=>∀n,N<=n->P (i,n)
 mono:=λh⟨N,hN⟩=>⟨N,D.mono (λi hi n hn=>h (i,n) (hi n hn)) hN⟩
 and:=λ⟨N,hN⟩ ⟨M,hM⟩=>⟨max N M,D.mono (λi hi n hn=>⟨hi.1 n (by omega),hi.2 n (by omega)⟩) (D.and hN hM)⟩
 top:=⟨0,D.mono (λ_ _ _ _=>trivial) D.top⟩
section
variable{ι α β σ:Type}{D:Fi ι}
def Big(D:Fi ι)(φ:ι->Nat):Prop:=∀N,D.ev λi=>N<=φ i
theorem waa:Big wcf λn=>n:=λN=>⟨N,λn h=>h⟩
theorem Big.fst{φ:ι->Nat}(h:Big D φ):Big D.mul λp=>φ p.1:=λN=>⟨0,D.mono (λi hi n _=>hi) (h N)⟩
def Tt(D:Fi ι)(f:ι->Option α)(Q:α->Prop):Prop:=∃r,D.ev (λi=>f i=some r)/\Q r
abbrev Tn(f:Nat->Option α)(Q:α->Prop):Prop:=Tt wcf f Q
theorem Tt.mono{f:ι->Option α}{Q R:α->Prop}(h:Tt D f Q)(hq:∀r,Q r->R r):Tt D f R:=by
 obtain⟨r,h1,h2⟩:=h;exact⟨r,h1,hq r h2⟩
theorem Tt.pure{a:α}{Q:α->Prop}(h:Q a):Tt D (λ_=>some a) Q:=⟨a,D.mono (λ_ _=>rfl) D.top,h⟩
theorem Tt.bind{f:ι->Option α}{k:ι->α->Option β}{R:α->Prop}{Q:β->Prop}(h:Tt D f R)(hk:∀x,R x->Tt D (λi=>k i x) Q):Tt D (λi=>ja (f i) (k i)) Q:=by
 obtain⟨x,h1,h2⟩:=h;obtain⟨r,h3,h4⟩:=hk x h2;exact⟨r,D.mono (λi hi=>by show ja (f i) (k i)=some r;rw[hi.1];exact hi.2) (D.and h1 h3),h4⟩
theorem wac{o:Option α}{k:ι->α->Option β}{Q:β->Prop}(x:α)(ho:o=some x)(hk:Tt D (λi=>k i x) Q):Tt D (λi=>ja o (k i)) Q:=
 Tt.bind (R:=λy=>y=x) (by rw[ho];exact Tt.pure rfl) λy hy=>by subst hy;exact hk
theorem wad{x:α}{k:ι->α->Option β}{Q:β->Prop}(hk:Tt D (λi=>k i x) Q):Tt D (λi=>ja (some x) (k i)) Q:=wac x rfl hk
theorem wan{c:Bool}{x y:ι->Option β}{Q:β->Prop}(hc:c=true)(h:Tt D x Q):Tt D (λi=>ifB c (x i) (y i)) Q:=by subst hc;exact h
theorem waf{c:Bool}{x y:ι->Option β}{Q:β->Prop}(hc:c=false)(h:Tt D y Q):Tt D (λi=>ifB c (x i) (y i)) Q:=by subst hc;exact h
theorem wab{c:Bool}{x y:ι->Option β}{Q:β->Prop}(h1:c=true->Tt D x Q)(h2:c=false->Tt D y Q):Tt D (λi=>ifB c (x i) (y i)) Q:=by
 cases c
 ·exact h2 rfl
 ·exact h1 rfl
def Nx(D:Fi ι)(Q:β->Prop)(R:σ->Prop)(nx:ι->σ->Option β):Prop:=∀s,R s->Tt D (λi=>nx i s) Q
theorem Tt.fst{f:ι->Option β}{Q:β->Prop}(h:Tt D f Q):Tt D.mul (λp=>f p.1) Q:=by
 obtain⟨r,h1,h2⟩:=h;exact⟨r,⟨0,D.mono (λi hi n _=>hi) h1⟩,h2⟩
theorem Nx.fst{Q:β->Prop}{R:σ->Prop}{nx:ι->σ->Option β}(h:Nx D Q R nx):Nx D.mul Q R (λp s=>nx p.1 s):=λs hs=>Tt.fst (h s hs)
theorem Tt.J{rest:ι->σ->Option β}{A:ι->(σ->Option β)->Option β}{Q:β->Prop}(R:σ->Prop)(h1:∀nx:ι->σ->Option β,Nx D Q R nx->Tt D (λi=>A i (nx i)) Q)(h2:∀s,R s->Tt D (λi=>rest i s) Q):Tt D (λi=>T.J (rest i) (A i)) Q:=h1 rest h2
theorem Tt.call{p:Nat->Option α}{φ:ι->Nat}{Q:α->Prop}(h:Tn p Q)(hφ:Big D φ):Tt D (λi=>p (φ i)) Q:=by
 obtain⟨r,⟨N,h1⟩,h2⟩:=h;exact⟨r,D.mono (λi hi=>h1 _ hi) (hφ N),h2⟩
theorem Tt.loop{B:ι->σ->(σ->Option β)->Option β}{φ:ι->Nat}{Q:β->Prop}{s:σ}(I:Nat->σ->Prop)(m:Nat)(hφ:Big D φ)(h0:I m s)
  (step:∀m s,I m s->∀nx:ι×Nat->σ->Option β,(∀m' s',m'<m->I m' s'->Tt D.mul (λp=>nx p s') Q)->Tt D.mul (λp=>B p.1 s (nx p)) Q):Tt D (λi=>jl (B i) (φ i) s) Q:=by
 have key:∀m s,I m s->Tt D.mul (λp=>jl (B p.1) p.2 s) Q:=by
  intro m;induction m using Nat.strongRecOn with
  |ind m ih=>
   intro s hs;obtain⟨r,⟨N,h1⟩,h2⟩:=step m s hs (λp=>jl (B p.1) p.2) λm' s' hm hs'=>ih m' hm s' hs';refine⟨r,⟨N+1,D.mono (λi hi n hn=>?_) h1⟩,h2⟩
   match n,hn with
   |0,hn=>omega
   |n+1,hn=>exact hi n (by omega)
 obtain⟨r,⟨N,h1⟩,h2⟩:=key m s h0;exact⟨r,D.mono (λi hi=>hi.1 _ hi.2) (D.and h1 (hφ N)),h2⟩
end
theorem zdj{α:Type}{l:List α}{z:Int}{x:α}(h0:0<=z)(h:l[z.toNat]?=some x):atL l z=some x:=by
 unfold atL;rw[wes h0];exact h
theorem atN{α:Type}{l:List α}{k:Nat}(h:k<l.length):atL l (k:Int)=some l[k]:=zdj (by omega) (by simp[h])
structure GLen(g:jb):Prop where
 t:g.1.length<=1000000
 r:g.2.1.length<=1000000
 p:g.2.2.1.length<=1000000
theorem wI{z:Int}(h1 : -9223372036854775808<=z)(h2:z<=9223372036854775807):T.w64 z=z:=w64_of h1 h2
structure jfn(g:jb):Prop where
 t:g.1.length<=9223372036854775807
 r:g.2.1.length<=9223372036854775807
 p:g.2.2.1.length<=9223372036854775807
theorem jfy(g:jb)(hg:jfn g):Tn (λnn=>zd7 nn g) (λb=>b=true->g.1.length<=70/\g.2.1.length<=70/\g.2.2.1.length<=260):=by
 have m1:=hg.t;have m2:=hg.r;have m3:=hg.p;unfold zd7;refine Tt.loop (λm s=>∃(k:Nat)(a:Int),k<=g.1.length/\m=g.1.length-k/\s=(a,(k:Int),g)) g.1.length waa ⟨0,_,by omega,by omega,rfl⟩ λm s⟨k,a,hk,hm,hs⟩ nx hnx=>?_;subst hs;dsimp only;refine wab (λc=>?_) (λc=>?_)
 ·have c:=wdz c;have hlt:k<g.1.length:=by omega
  refine wac _ (atN hlt) (wac _ (atN hlt) (wad (wad ?_)));rw[wI (z:=(k:Int)+1) (by omega) (by omega)];exact hnx (g.1.length-(k+1)) _ (by omega) ⟨k+1,_,by omega,rfl,rfl⟩
 refine Tt.loop (λm s=>∃(k:Nat)(a:Int),k<=g.2.1.length/\m=g.2.1.length-k/\s=(a,(k:Int),g)) g.2.1.length waa.fst ⟨0,_,by omega,by omega,rfl⟩ λm s⟨k,a,hk,hm,hs⟩ nx hnx=>?_;subst hs;dsimp only;refine wab (λc=>?_) (λc=>?_)
 ·have c:=wdz c;have hlt:k<g.2.1.length:=by omega
  refine wac _ (atN hlt) (wad (wad ?_));rw[wI (z:=(k:Int)+1) (by omega) (by omega)];exact hnx (g.2.1.length-(k+1)) _ (by omega) ⟨k+1,_,by omega,rfl,rfl⟩
 refine Tt.loop (λm s=>∃(k:Nat)(a:Int),k<=g.2.2.1.length/\m=g.2.2.1.length-k/\s=(a,(k:Int),g)) g.2.2.1.length waa.fst.fst ⟨0,_,by omega,by omega,rfl⟩ λm s⟨k,a,hk,hm,hs⟩ nx hnx=>?_;subst hs;dsimp only;refine wab (λc=>?_) (λc=>?_)
 ·have c:=wdz c;have hlt:k<g.2.2.1.length:=by omega
  refine wac _ (atN hlt) (wad (wad ?_));rw[wI (z:=(k:Int)+1) (by omega) (by omega)];exact hnx (g.2.2.1.length-(k+1)) _ (by omega) ⟨k+1,_,by omega,rfl,rfl⟩
 refine Tt.J (λb=>b=true->g.1.length<=70/\g.2.1.length<=70/\g.2.2.1.length<=260) (λnx hnx=>?_) λs hs=>Tt.pure hs;refine wad (wab (λc1=>wab (λc2=>wab (λc3=>hnx _ λ_=>?_) λ_=>hnx _ λh=>by cases h) λ_=>hnx _ λh=>by cases h) λ_=>hnx _ λh=>by cases h);have c1:=wdz c1;have c2:=wdz c2;have c3:=wdz c3;exact⟨by omega,by omega,by omega⟩
structure GSm(g:jb):Prop where
 few:g.1.length<=70/\g.2.1.length<=70/\g.2.2.1.length<=260
 r:g.2.1.length<=12
 t:g.1.length<=12
 p:g.2.2.1.length<=30
theorem z24(g:jb)(hg:jfn g):Tn (λnn=>za2 nn g) (λb=>b=true->GSm g):=by
 unfold za2;refine Tt.J (λb=>b=true->GSm g) (λnx hnx=>?_) λs hs=>Tt.pure hs;refine Tt.bind (Tt.call (jfy g hg) waa) λb hb=>?_;refine wab (λc1=>wab (λc2=>wab (λc3=>hnx _ λc4=>?_) λ_=>hnx _ λh=>by cases h) λ_=>hnx _ λh=>by cases h) λ_=>hnx _ λh=>by cases h
 have c2:=wdz c2;have c3:=wdz c3;have c4:=wdz c4;exact⟨hb c1,by omega,by omega,by omega⟩
def Zj(l:List jv):Nat:=(l.map λt=>min t.2.1.length 1000).sum
theorem zxa{l:List jv}{k:Nat}(h:k<l.length):Zj (l.take (k+1))=Zj (l.take k)+min (l[k]).2.1.length 1000:=by
 unfold Zj;rw[web h];simp only[we8,List.sum_append,wel,wfb,List.sum_cons,List.sum_nil,wfs]
theorem z3h:∀{l:List jv}{t:jv},t∈l->min t.2.1.length 1000<=Zj l
 |x::l,t,h=>by
  have e:Zj (x::l)=min x.2.1.length 1000+Zj l:=by unfold Zj;rw[wel,List.sum_cons]
  rcases wek.1 h with rfl|h
  ·omega
  ·have:=z3h h;omega
structure GBu(g:jb):Prop extends GSm g where
 n:Zj g.1<=120
 s:g.2.2.2.2.1<=200
theorem z71(g:jb)(hg:jfn g):Tn (λnn=>zbf nn g) (λb=>b=true->GBu g):=by
 have m1:=hg.t;unfold zbf;refine Tt.loop (λm s=>∃(k:Nat)(a:Int),k<=g.1.length/\m=g.1.length-k/\s=(a,(k:Int),g)/\(g.1.length<=1000->a=(Zj (g.1.take k):Int)/\Zj (g.1.take k)<=1000*k)) g.1.length waa ⟨0,_,by omega,by omega,rfl,λ_=>by simp[Zj]⟩ λm s⟨k,a,hk,hm,hs,hi⟩ nx hnx=>?_;subst hs;dsimp only;refine wab (λc=>?_) (λc=>?_)
 ·have c:=wdz c;have hlt:k<g.1.length:=by omega
  refine wac _ (atN hlt) (wad (wad ?_));rw[wI (z:=(k:Int)+1) (by omega) (by omega)];refine hnx (g.1.length-(k+1)) _ (by omega) ⟨k+1,_,by omega,rfl,rfl,λh=>?_⟩;obtain⟨e1,e2⟩:=hi h;have es:=zxa hlt;rw[wI (by omega) (by omega)];omega
 ·have c:=wd0 c;have hke:k=g.1.length:=by omega
  rw[hke,wen]at hi;refine Tt.J (λb=>b=true->GBu g) (λnx hnx=>?_) λs hs=>Tt.pure hs;refine Tt.bind (Tt.call (z24 g hg) waa.fst) λb hb=>?_;refine wab (λc1=>wab (λc2=>hnx _ λc3=>?_) λ_=>hnx _ λh=>by cases h) λ_=>hnx _ λh=>by cases h
  have c2:=wdz c2;have c3:=wdz c3;have hs:=hb c1;have:=hs.t;have:=hi (by omega);exact⟨hs,by omega,c3⟩
theorem zsr{l:List UInt8}{p:Int}:zhg l p=true↔p.toNat<l.length:=by
 unfold zhg;simp[wg5]
def zj4(g:jb)(x:jm):Prop:=0<=x.2.1/\x.2.1<(if x.1=true then(g.2.1.length:Int)else g.1.length)
theorem Js{α:Type}{b:Nat}{l r:List α}(h1:l.length+r.length<=2000000)(h2:b<=1000):apO b l r=some (l++r):=by
 unfold apO;have e1:decide (l.length+r.length<=maxLen)=true:=wes (by simp only[maxLen];omega);have e2:decide ((l.length+r.length)*b<=140737488355328)=true:=wes (by
  have:=Nat.mul_le_mul h1 h2;omega)
 rw[e1,e2];rfl
def arK(k:Int):Option Nat:=if k=3\/k=4 then some 2 else if k=5\/k=6\/k=7 then some 1 else if k=1\/k=2 then some 0 else none
theorem w01:T.w64 1=1:=wI (by omega) (by omega)
theorem w11:T.w64 2=2:=wI (by omega) (by omega)
theorem jgx(nn:Nat)(x:jc):zkn nn x=some (match arK x.1 with|some n=>((n:Int),true,())|none=>(0,false,())):=by
 unfold zkn arK;by_cases h3:x.1=3
 ·simp[T.J,ja,ifB,h3,w01,w11]
 by_cases h4:x.1=4
 ·simp[T.J,ja,ifB,h4,w01,w11]
 by_cases h5:x.1=5
 ·simp[T.J,ja,ifB,h5,w01]
 by_cases h6:x.1=6
 ·simp[T.J,ja,ifB,h6,w01]
 by_cases h7:x.1=7
 ·simp[T.J,ja,ifB,h7,w01]
 by_cases h1:x.1=1
 ·simp[T.J,ja,ifB,h1]
 by_cases h2:x.1=2
 ·simp[T.J,ja,ifB,h2]
 ·simp[T.J,ja,ifB,h1,h2,h3,h4,h5,h6,h7]
theorem z2v(x:jc):Tn (λnn=>zkn nn x) (λr=>r=(match arK x.1 with|some n=>((n:Int),true,())|none=>(0,false,()))):=⟨_,⟨0,λnn _=>jgx nn x⟩,rfl⟩
def zgz:List jc->Nat->Option Nat
 |[],d=>some d
 |x::l,d=>match arK x.1 with
  |none=>none
  |some n=>if n<=d then zgz l (d-n+1)else none
theorem zd0:∀(l m:List jc)(d:Nat),zgz (l++m) d=(zgz l d).bind (zgz m)
 |[],m,d=>rfl
 |x::l,m,d=>by
  simp only[wgk,zgz];cases arK x.1 with
  |none=>rfl
  |some n=>
   simp only;split
   ·exact zd0 l m _
   ·rfl
theorem jd6(l:List jc)(hl:l.length<=1000000):Tn (λnn=>zc1 nn l) (λr=>(r.2.2.1=0->∃d:Nat,zgz l 0=some d/\r.1=d/\l.length<=512)):=by
 unfold zc1;refine wab (λc=>Tt.pure (λh=>by cases h)) (λc=>?_);have c:=wd0 c;have hl5:l.length<=512:=by omega
 refine Tt.loop (λm s=>∃(k d:Nat)(x:Int),k<=l.length/\m=l.length-k/\zgz (l.take k) 0=some d/\d<=k/\s=((d:Int),x,l,(l.length:Int),(k:Int))) l.length waa ⟨0,0,0,by omega,by omega,rfl,by omega,rfl⟩ λm s⟨k,d,mx,hk,hm,hd,hdk,hs⟩ nx hnx=>?_;subst hs;dsimp only;refine wab (λc=>?_) (λc=>Tt.pure (λ_=>?_))
 ·have c:=wdz c;have hlt:k<l.length:=by omega
  refine wac _ (atN hlt) (Tt.bind (Tt.call (z2v _) waa.fst) λr4 hr4=>?_);subst hr4;have htk:zgz (l.take (k+1)) 0=match arK (l[k]).1 with|none=>none|some n=>if n<=d then some (d-n+1)else none:=by
   rw[web hlt,zd0,hd];simp only[wfn,zgz]
  cases har:arK (l[k]).1 with
  |none=>
   dsimp only;refine Tt.J (λs=>s.2.2.2.2.2.2=true) (λny hny=>?_) (λs hs=>?_)
   ·exact wad (wan rfl (hny _ rfl))
   ·exact wan hs (Tt.pure (λh=>by cases h))
  |some n=>
   rw[har]at htk;dsimp only at htk⊢;refine Tt.J (λs=>∃b,s=((d:Int),mx,(n:Int),l,(l.length:Int),(k:Int),b)) (λny hny=>?_) (λs⟨b,hs⟩=>?_)
   ·refine wad (waf rfl ?_);refine Tt.J (λs=>∃b,s=((d:Int),mx,(n:Int),l,(l.length:Int),(k:Int),b)) (λnz hnz=>?_) (λs⟨b,hs⟩=>?_)
    ·exact wad (wab (λ_=>hnz _ ⟨_,rfl⟩) (λ_=>hnz _ ⟨_,rfl⟩))
    ·subst hs;exact hny _ ⟨_,rfl⟩
   ·subst hs;dsimp only;refine wab (λ_=>Tt.pure (λh=>by cases h)) (λ_=>wab (λ_=>Tt.pure (λh=>by cases h)) (λc2=>?_));have c2:=wd0 c2;have hnd:n<=d:=by omega
    have hn2:n<=2:=by
     unfold arK at har;split at har
     ·cases har;omega
     ·split at har
      ·cases har;omega
      ·split at har<;>cases har;omega
    rw[if_pos hnd]at htk;refine wad (wad (wad ?_));rw[wI (z:=1-(n:Int)) (by omega) (by omega),wI (by omega) (by omega),wI (by omega) (by omega)];exact hnx (l.length-(k+1)) _ (by omega) ⟨k+1,d-n+1,_,by omega,rfl,htk,by omega,by
     have e:(d:Int)+(1-(n:Int))=((d-n+1:Nat):Int):=by omega
     rw[e];rfl⟩
 ·have c:=wd0 c;have hke:k=l.length:=by omega
  rw[hke,wen]at hd;exact⟨d,hd,rfl,hl5⟩
def RxW(l:List jc):Prop:=zgz l 0=some 1/\l.length<=512
theorem z79(l:List jc)(hl:l.length<=1000000):Tn (λnn=>Vv nn l) (λe=>e=0->RxW l):=by
 unfold Vv;refine Tt.bind (Tt.call (jd6 l hl) waa) λr hr=>?_;obtain⟨d,mx,e,u⟩:=r;simp only at hr;dsimp only;refine Tt.J (λs=>s.1=e/\(e=0->s.2=false->RxW l)) (λnx hnx=>?_) (λs⟨h1,h2⟩=>?_)
 ·refine wad (wab (λc=>hnx _ ⟨rfl,λh0 hf=>?_⟩) (λc=>hnx _ ⟨rfl,λh0 _=>?_⟩))
  ·obtain⟨dd,k1,k2,k3⟩:=hr h0;have hf:=wd0 hf;have:d=1:=wf2.1 hf;have:dd=1:=by omega
   subst this;exact⟨k1,k3⟩
  ·exact absurd h0 (wd0 c)
 ·refine wab (λ_=>Tt.pure (λh=>by cases h)) (λc=>Tt.pure (λh=>?_));exact h2 (h1▸h) c
structure GOk(g:jb):Prop where
 t:g.1.length<=64
 r:g.2.1.length<=64
 p:g.2.2.1.length<=256
 rx:∀x∈g.1,RxW x.2.1
 left:∀p∈g.2.2.1,0<=p.1/\p.1<g.2.1.length
 len:∀p∈g.2.2.1,p.2.1.length<=16
 items:∀p∈g.2.2.1,∀x∈p.2.1,zj4 g x
 start:0<=g.2.2.2.1/\g.2.2.2.1<g.2.1.length
structure Vf(g:jb):Prop extends GLen g where
 tn:∀x∈g.1,x.2.1.length<=1000000
theorem sliT{α:Type}{l:List α}{k:Nat}(h:k<=l.length):zms l none (some (k:Int))=some (l.take k):=by
 unfold zms bdN;simp[h]
abbrev c0(g:jb):jw:=(g,(0,0,0,()),())
structure PrOk(g:jb)(p:ji):Prop where
 l0:0<=p.1
 l1:p.1<g.2.1.length
 n:p.2.1.length<=16
 it:∀x∈p.2.1,zj4 g x
def zx7(c:Int):Prop:=(97<=c/\c<=122)\/(65<=c/\c<=90)\/c=95
def z1w(c:Int):Prop:=48<=c/\c<=57
theorem partE(c:Int):Tn (λnn=>zdw nn c) (λr=>r=2/\zx7 c\/r=1/\¬zx7 c/\z1w c\/r=0/\¬zx7 c/\¬z1w c):=by
 unfold zdw;refine Tt.J (λs=>s.1=c/\(s.2=true↔zx7 c)) (λnx hnx=>?_) (λs⟨h1,h2⟩=>?_)
 ·refine Tt.J (λs=>s.1=c/\(s.2=true↔97<=c/\c<=122)) (λny hny=>?_) (λs⟨h1,h2⟩=>?_)
  ·refine wad (wab (λc1=>hny _ ⟨rfl,?_⟩) λc1=>hny _ ⟨rfl,?_⟩)
   ·have c1:=wdz c1;simp;omega
   ·have c1:=wd0 c1;simp;omega
  ·obtain⟨x,b⟩:=s;simp only at h1 h2;subst h1;refine wab (λc1=>hnx _ ⟨rfl,?_⟩) λc1=>?_
   ·have:=h2.1 c1;exact⟨λ_=> .inl this,λ_=>c1⟩
   ·have hn:¬(97<=x/\x<=122):=λh=>by rw[h2.2 h]at c1;cases c1
    refine Tt.J (λs=>s.1=x/\(s.2=true↔65<=x/\x<=90)) (λnz hnz=>?_) (λs⟨h3,h4⟩=>?_)
    ·refine wad (wab (λc1=>hnz _ ⟨rfl,?_⟩) λc1=>hnz _ ⟨rfl,?_⟩)
     ·have c1:=wdz c1;simp;omega
     ·have c1:=wd0 c1;simp;omega
    ·obtain⟨y,b2⟩:=s;simp only at h3 h4;subst h3;refine wab (λc1=>hnx _ ⟨rfl,?_⟩) λc1=>wad (hnx _ ⟨rfl,?_⟩)
     ·have:=h4.1 c1;exact⟨λ_=> .inr (.inl this),λ_=>c1⟩
     ·have hn2:¬(65<=y/\y<=90):=λh=>by rw[h4.2 h]at c1;cases c1
      simp only[wej];unfold zx7;omega
 ·obtain⟨x,b⟩:=s;simp only at h1 h2;subst h1;refine wab (λc1=>Tt.pure (.inl ⟨rfl,h2.1 c1⟩)) λc1=>?_;have hn:¬zx7 x:=λh=>by rw[h2.2 h]at c1;cases c1
  refine Tt.J (λb=>b=true↔z1w x) (λnx hnx=>?_) (λs hs=>?_)
  ·refine wad (wab (λc1=>hnx _ ?_) λc1=>hnx _ ?_)
   ·have c1:=wdz c1;simp[z1w];omega
   ·have c1:=wd0 c1;simp[z1w];omega
  ·exact wab (λc1=>Tt.pure (.inr (.inl ⟨rfl,hn,hs.1 c1⟩))) λc1=>Tt.pure (.inr (.inr ⟨rfl,hn,λh=>by rw[hs.2 h]at c1;cases c1⟩))
def chP(k:Nat)(b:UInt8):Prop:=zx7 (b.toNat:Int)\/z1w (b.toNat:Int)/\k≠0
def zgm(l:List UInt8):Prop:=1<=l.length/\l.length<=32/\∀(k:Nat)(b:UInt8),l[k]?=some b->chP k b
theorem z47{l:List UInt8}{k:Nat}(hk:k<l.length)(h:(l[k]).toNat<128):Utf8.decode ⟨⟨l⟩⟩ k=((l[k]).toNat,1):=by
 have e:(ByteArray.mk ⟨l⟩).get! (k+0)=l[k]:=by
  show(Array.mk l)[k+0]! = _;simp[hk]
 unfold Utf8.decode;simp only[e];rw[if_pos (by omega)]
theorem z8w{l:List UInt8}{k:Nat}(hk:k<l.length)(h:¬(l[k]).toNat<128):128<=(Utf8.decode ⟨⟨l⟩⟩ k).1:=by
 have e:(ByteArray.mk ⟨l⟩).get! (k+0)=l[k]:=by
  show(Array.mk l)[k+0]! = _;simp[hk]
 unfold Utf8.decode;simp only[e];rw[if_neg (by omega)]
 repeat' split
 all_goals first|(simp only[Utf8.runeError];omega)|(simp only;omega)|(rename_i h1 h2;simp only[wd4,wej,ge_iff_le]at h2;simp only;omega)
theorem jiz(l:List UInt8):Tn (λnn=>zb3 nn l) (λr=>r=true↔zgm l):=by
 unfold zb3;refine Tt.loop (λm s=>∃p:Nat,s=(l,(l,(p:Int),()))/\m=l.length-p/\p<=l.length/\∀(k:Nat)(b:UInt8),k<p->l[k]?=some b->chP k b) l.length waa ⟨0,rfl,by omega,by omega,λk b h=>by omega⟩ λm s⟨p,hs,hm,hp,hi⟩ nx hnx=>?_;subst hs;dsimp only;refine wab (λc=>?_) (λc=>?_)
 ·have c:=zsr.1 c;have hlt:p<l.length:=by simpa using c
  have hno:¬chP p l[p]->¬zgm l:=λh hN=>h (hN.2.2 p _ (wdy hlt));refine Tt.bind (Tt.call (partE _) waa.fst) λr hr=>?_;have er:zx8 l (p:Int)=((Utf8.decode ⟨⟨l⟩⟩ p).1:Int):=by unfold zx8;simp
  have en:zho l (p:Int)=((p+(Utf8.decode ⟨⟨l⟩⟩ p).2:Nat):Int):=by unfold zho;simp
  have ep:z7u (p:Int)=(p:Int):=by unfold z7u;simp
  rw[er]at hr;rw[en,ep];by_cases h128:(l[p]).toNat<128
  ·rw[z47 hlt h128]at hr⊢;simp only at hr⊢;refine Tt.J (λs=>∃f,s=(l,f,(l,((p+1:Nat):Int),()))/\(f=true↔¬chP p l[p])) (λny hny=>?_) (λs⟨f,hs,hf⟩=>?_)
   ·unfold chP at *;refine wad (wab (λc1=>hny _ ⟨_,rfl,?_⟩) λc1=>wad (wab (λc2=>hny _ ⟨_,rfl,?_⟩) λc2=>hny _ ⟨_,rfl,?_⟩))
    ·have c1:=wdz c1;rcases hr with⟨h,_⟩|⟨h,_⟩|⟨h,h1,h2⟩
     ·omega
     ·omega
     ·simp[h1,h2]
    ·have c2:=wdz c2;rcases hr with⟨h,_⟩|⟨h,h1,h2⟩|⟨h,_⟩
     ·omega
     ·simp[h1,h2]
     ·omega
    ·have c1:=wd0 c1;have c2:=wd0 c2;rcases hr with⟨h,h1⟩|⟨h,_⟩|⟨h,_⟩
     ·simp[h1]
     ·omega
     ·omega
   ·subst hs;dsimp only;refine wab (λc1=>Tt.pure ?_) λc1=>?_
    ·have:=hno (hf.1 c1);simp[this]
    ·refine hnx (l.length-(p+1)) _ (by omega) ⟨p+1,rfl,rfl,by omega,λk b hk hb=>?_⟩;by_cases e:k=p
     ·subst e;rw[wdy hlt]at hb;cases hb;exact Classical.byContradiction λh=>by rw[hf.2 h]at c1;cases c1
     ·exact hi k b (by omega) hb
  ·have hh:=z8w hlt h128;have h0:r=0:=by
    rcases hr with⟨h,h1⟩|⟨h,_,h1⟩|⟨h,_⟩
    ·unfold zx7 at h1;omega
    ·unfold z1w at h1;omega
    ·exact h
   subst h0;refine Tt.J (λs=>s.2.1=true) (λny hny=>wad (wan rfl (hny _ rfl))) (λs hs=>wan hs (Tt.pure ?_));have:=hno (by unfold chP zx7 z1w;omega);simp[this]
 ·have hpe:p=l.length:=by
   have:¬p<l.length:=λh=>by rw[zsr.2 (by simpa using h)]at c;cases c
   omega
  subst hpe;refine Tt.J (λb=>b=true↔zgm l) (λny hny=>?_) (λs hs=>Tt.pure hs);have hall:∀(k:Nat)(b:UInt8),l[k]?=some b->chP k b:=λk b h=>hi k b (wd1.1 h).1 h;refine wad (wab (λc1=>hny _ ?_) λc1=>hny _ ?_)
  ·have hne:l≠[]:=by simpa using c1
   have:1<=l.length:=List.length_pos_iff.2 hne;unfold zgm;simp only[wej];constructor
   ·intro h;exact⟨this,by omega,hall⟩
   ·intro h;have:=h.2.1;omega
  ·have hne:l=[]:=by simpa using c1
   subst hne;unfold zgm;simp
def fIx(l:List (List UInt8))(x:List UInt8):Int:=if x∈l then(l.idxOf x:Int)else -1
theorem fIx_at{l:List (List UInt8)}{k:Nat}(hk:k<l.length)(h:l[k]∉l.take k):fIx l l[k]=k:=by
 unfold fIx;rw[if_pos (wec hk)];have e:l=l.take k++l[k]::l.drop (k+1):=by
  rw[List.getElem_cons_drop,wfo]
 have:(l.take k++l[k]::l.drop (k+1)).idxOf l[k]=k:=by
  rw[List.idxOf_append,if_neg h,List.idxOf_cons_self,wff];omega
 rw[<- e]at this;rw[this]
theorem jeg{l:List (List UInt8)}{x:List UInt8}(h:x∉l):fIx l x=-1:=by unfold fIx;rw[if_neg h]
theorem z76{α:Type}{l:List α}{k:Nat}{x:α}(hk:k<l.length)(h:x∉l.take k)(h2:l[k]≠x):x∉l.take (k+1):=λhm=>by
 rw[web hk]at hm;rcases wd7.1 hm with e|e
 ·exact h e
 ·exact h2 (wd5.1 e).symm
theorem IndexE(l:List (List UInt8))(x:List UInt8)(hl:l.length<=2000000):Tn (λnn=>yg nn l x) (λr=>r=fIx l x):=by
 unfold yg;refine Tt.loop (λm s=>∃k:Nat,k<=l.length/\m=l.length-k/\s=(l,x,(l.length:Int),(k:Int))/\x∉l.take k) l.length waa ⟨0,by omega,by omega,rfl,by simp⟩ λm s⟨k,hk,hm,hs,hi⟩ nx hnx=>?_;subst hs;dsimp only;refine wab (λc=>?_) (λc=>Tt.pure ?_)
 ·have c:=wdz c;have hlt:k<l.length:=by omega
  refine wac _ (atN hlt) (wab (λc2=>Tt.pure ?_) (λc2=>wad ?_))
  ·have e:x=l[k]:=by simpa using c2
   subst e;exact(fIx_at hlt hi).symm
  ·have e:¬x=l[k]:=by simpa using c2
   rw[wI (by omega) (by omega)];exact hnx (l.length-(k+1)) _ (by omega) ⟨k+1,by omega,rfl,rfl,z76 hlt hi λh=>e h.symm⟩
 ·have c:=wd0 c;have hke:k=l.length:=by omega
  rw[hke,wen]at hi;exact(jeg hi).symm
theorem jin(l:List (List UInt8))(x:List UInt8)(hl:l.length<=2000000):Tn (λnn=>zby nn l x) (λr=>r=fIx l x):=by
 unfold zby;exact Tt.bind (Tt.call (IndexE l x hl) waa) λ_ h=>Tt.pure h
theorem jea(l:List jv)(hl:l.length<=1000000):Tn (λnn=>Vy nn l) (λr=>r=l.map (·.1)):=by
 unfold Vy;refine Tt.loop (λm s=>∃(k:Nat),k<=l.length/\m=l.length-k/\s=(l,(l.length:Int),(k:Int),(l.take k).map (·.1))) l.length waa ⟨0,by omega,by omega,rfl⟩ λm s⟨k,hk,hm,hs⟩ nx hnx=>?_;subst hs;dsimp only;refine wab (λc=>?_) (λc=>Tt.pure ?_)
 ·have c:=wdz c;have hlt:k<l.length:=by omega
  refine wac _ (atN hlt) (wac _ (Js (by simp;omega) (by omega)) (wad ?_));rw[wI (by omega) (by omega)];exact hnx (l.length-(k+1)) _ (by omega) ⟨k+1,by omega,rfl,by rw[web hlt,we8];rfl⟩
 ·have c:=wd0 c;rw[show k=l.length by omega,wen]
def ofS(r:Int)(ps:List ji):List Int:=(ps.zipIdx.filter λx=>decide (x.1.1=r)).map λx=>(x.2:Int)
theorem z2h{r:Int}{ps:List ji}{k:Nat}(h:k<ps.length):ofS r (ps.take (k+1))=ofS r (ps.take k)++(if(ps[k]).1=r then [(k:Int)]else []):=by
 unfold ofS;rw[web h,List.zipIdx_append,wgt,we8];congr 1;rw[wff,whb (by omega)];by_cases e:(ps[k]).1=r<;>simp[e]
theorem jhy{r:Int}{ps:List ji}:(ofS r ps).length<=ps.length:=by
 unfold ofS;rw[weh];exact wfc (wf0 _ _) (by simp)
theorem OfE(g:jb)(hg:GLen g)(r:Int):Tn (λnn=>ze6 nn g r) (λl=>l=ofS r g.2.2.1):=by
 have hp:=hg.p;unfold ze6;refine Tt.loop (λm s=>∃(k:Nat),k<=g.2.2.1.length/\m=g.2.2.1.length-k/\s=(r,g.2.2.1,(g.2.2.1.length:Int),(k:Int),ofS r (g.2.2.1.take k))) g.2.2.1.length waa ⟨0,by omega,by omega,rfl⟩ λm s⟨k,hk,hm,hs⟩ nx hnx=>?_;subst hs;dsimp only;refine wab (λc=>?_) (λc=>Tt.pure ?_)
 ·have c:=wdz c;have hlt:k<g.2.2.1.length:=by omega
  have hol:(ofS r (g.2.2.1.take k)).length<=k:=wfc jhy (by simp;omega);refine Tt.J (λs=>s=(r,g.2.2.1,(g.2.2.1.length:Int),(k:Int),ofS r (g.2.2.1.take (k+1)))) (λny hny=>?_) (λs hs=>?_)
  ·refine wac _ (atN hlt) (wab (λc2=>?_) λc2=>hny _ ?_)
   ·have c2:=wdz c2;exact wac _ (Js (by simp;omega) (by omega)) (hny _ (by rw[z2h hlt,if_pos c2]))
   ·have c2:=wd0 c2;rw[z2h hlt,if_neg c2,weo]
  ·subst hs;refine wad ?_;dsimp only;rw[wI (by omega) (by omega)];exact hnx (g.2.2.1.length-(k+1)) _ (by omega) ⟨k+1,by omega,rfl,rfl⟩
 ·have c:=wd0 c;rw[show k=g.2.2.1.length by omega,wen]
open Classical in
noncomputable def itE(g:jb)(x:jm):Int:=
 if ¬zj4 g x then 11 else if x.1=false/\(g.1.getD x.2.1.toNat default).2.2.1≠0 then 12 else if x.2.2.1<0\/2<x.2.2.1\/x.2.2.2.1<0\/8<x.2.2.2.1 then 2 else 0
theorem itE_ok{g:jb}{x:jm}(h:itE g x=0):zj4 g x:=by
 unfold itE at h;by_cases c:zj4 g x
 ·exact c
 ·rw[if_pos c]at h;cases h
theorem itemE(g:jb)(d:jd)(x:jm):Tn (λnn=>Jv nn (some (g,d,())) x) (λe=>e=itE g x):=by
 unfold Jv;refine wad ?_;refine Tt.J (λs=>s=(some (g,d,()),(if x.1=true then(g.2.1.length:Int)else g.1.length),x)) (λnx hnx=>?_) (λs hs=>?_)
 ·refine wab (λc=>wad (hnx _ ?_)) (λc=>hnx _ ?_)
  ·simp[c]
  ·simp[c]
 ·subst hs;dsimp only;refine Tt.J (λs=>∃b,s=(some (g,d,()),b,x)/\(b=true↔¬zj4 g x)) (λnx hnx=>?_) (λs⟨b,hs,hb⟩=>?_)
  ·refine wad (wab (λc=>hnx _ ⟨_,rfl,?_⟩) (λc=>hnx _ ⟨_,rfl,?_⟩))
   ·have c:=wdz c;unfold zj4;simp only[true_iff];omega
   ·have c:=wd0 c;unfold zj4;simp only[wej];omega
  ·subst hs;dsimp only;refine wab (λc=>Tt.pure ?_) (λc=>?_)
   ·unfold itE;rw[if_pos (hb.1 c)]
   ·have hI:zj4 g x:=Classical.byContradiction λh=>by rw[hb.2 h]at c;cases c
    refine Tt.J (λs=>∃b,s=(b,x)/\(b=true↔x.1=false/\(g.1.getD x.2.1.toNat default).2.2.1≠0)) (λnx hnx=>?_) (λs⟨b,hs,hb⟩=>?_)
    ·refine wad (wab (λc2=>wad ?_) (λc2=>hnx _ ⟨_,rfl,?_⟩))
     ·have c2:x.1=false:=by simpa using c2
      obtain⟨k1,k2⟩:=hI;rw[c2]at k2;simp only[we6,if_false]at k2;have hl:x.2.1.toNat<g.1.length:=by omega
      refine wac _ (zdj k1 (wdy hl)) (hnx _ ⟨_,rfl,?_⟩);simp[c2,hl]
     ·have c2:x.1=true:=by simpa using c2
      simp[c2]
    ·subst hs;dsimp only;refine wab (λc2=>Tt.pure ?_) (λc2=>?_)
     ·unfold itE;rw[if_neg (λh=>h hI),if_pos (hb.1 c2)]
     ·have hno:¬(x.1=false/\(g.1.getD x.2.1.toNat default).2.2.1≠0):=λh=>by rw[hb.2 h]at c2;cases c2
      refine Tt.J (λb=>b=true↔x.2.2.1<0\/2<x.2.2.1\/x.2.2.2.1<0\/8<x.2.2.2.1) (λnx hnx=>?_) (λs hs=>?_)
      ·refine wad (wab (λc3=>hnx _ ?_) λc3=>wab (λc4=>hnx _ ?_) λc4=>wab (λc5=>hnx _ ?_) λc5=>hnx _ ?_)
       ·have c3:=wdz c3;simp only[true_iff];omega
       ·have c4:=wdz c4;simp only[true_iff];omega
       ·have c5:=wdz c5;simp only[true_iff];omega
       ·have c3:=wd0 c3;have c4:=wd0 c4;have c5:=wd0 c5;simp only[wej];omega
      ·unfold itE;rw[if_neg (λh=>h hI),if_neg hno];exact wab (λc3=>Tt.pure (by rw[if_pos (hs.1 c3)])) λc3=>Tt.pure (by rw[if_neg (λh=>by rw[hs.2 h]at c3;cases c3)])
def Za:List jc->Nat->Int
 |[],d=>if d=1 then 0 else 3
 |x::l,d=>match arK x.1 with
  |none=>1
  |some n=>if x.1≠1/\x.2.1.l≠List.replicate 4 0 then 1 else if d<n then 3 else Za l (d-n+1)
def Yg(l:List jc):Int:=if 512<l.length then 4 else Za l 0
theorem z4s{c:Int}{n:Nat}(h:arK c=some n):n<=2:=by
 unfold arK at h;split at h
 ·cases h;omega
 ·split at h
  ·cases h;omega
  ·split at h<;>cases h;omega
theorem walkE(l:List jc)(hl:l.length<=1000000):Tn (λnn=>zc1 nn l) (λr=>r.2.2.1≠0/\Yg l=r.2.2.1\/r.2.2.1=0/\Yg l=if r.1=1 then 0 else 3):=by
 unfold zc1 Yg;refine wab (λc=>Tt.pure (.inl ⟨by simp,?_⟩)) (λc=>?_)
 ·have c:=wdz c;rw[if_pos (by omega)]
 have c:=wd0 c;have hl5:¬512<l.length:=by omega
 rw[if_neg hl5];generalize hC:Za l 0=C;refine Tt.loop (λm s=>∃(k d:Nat)(x:Int),k<=l.length/\m=l.length-k/\d<=k/\s=((d:Int),x,l,(l.length:Int),(k:Int))/\C=Za (l.drop k) d) l.length waa ⟨0,0,0,by omega,by omega,by omega,rfl,hC.symm⟩ λm s⟨k,d,mx,hk,hm,hdk,hs,he⟩ nx hnx=>?_;subst hs;dsimp only;refine wab (λc=>?_) (λc=>Tt.pure (.inr ⟨rfl,?_⟩))
 ·have c:=wdz c;have hlt:k<l.length:=by omega
  rw[wet hlt]at he;refine wac _ (atN hlt) (Tt.bind (Tt.call (z2v _) waa.fst) λr4 hr4=>?_);subst hr4;generalize l[k]=x at he⊢;unfold Za at he;cases har:arK x.1 with
  |none=>
   rw[har]at he;dsimp only at he⊢;refine Tt.J (λs=>s.2.2.2.2.2.2=true) (λny hny=>?_) (λs hs=>?_)
   ·exact wad (wan rfl (hny _ rfl))
   ·exact wan hs (Tt.pure (.inl ⟨by simp,he⟩))
  |some n=>
   rw[har]at he;dsimp only at he⊢;have hn2:=z4s har;refine Tt.J (λs=>∃b,s=((d:Int),mx,(n:Int),l,(l.length:Int),(k:Int),b)/\(b=true↔x.1≠1/\x.2.1.l≠List.replicate 4 0)) (λny hny=>?_) (λs⟨b,hs,hb⟩=>?_)
   ·refine wad (waf rfl ?_);refine Tt.J (λs=>∃b,s=((d:Int),mx,(n:Int),l,(l.length:Int),(k:Int),b)/\(b=true↔x.1≠1/\x.2.1.l≠List.replicate 4 0)) (λnz hnz=>?_) (λs⟨b,hs,hb⟩=>?_)
    ·refine wad (wab (λc1=>hnz _ ⟨_,rfl,?_⟩) (λc1=>hnz _ ⟨_,rfl,?_⟩))
     ·have c1:=wdz c1;simp[c1]
     ·have c1:=wd0 c1;simp at c1;simp[c1]
    ·subst hs;exact hny _ ⟨_,rfl,hb⟩
   ·subst hs;dsimp only;refine wab (λc1=>Tt.pure (.inl ⟨by simp,?_⟩)) (λc1=>?_)
    ·rw[if_pos (hb.1 c1)]at he;exact he
    rw[if_neg (λh=>by rw[hb.2 h]at c1;cases c1)]at he;refine wab (λc2=>Tt.pure (.inl ⟨by simp,?_⟩)) (λc2=>?_)
    ·have c2:=wdz c2;rw[if_pos (by omega)]at he;exact he
    have c2:=wd0 c2;have hnd:n<=d:=by omega
    rw[if_neg (by omega)]at he;refine wad (wad (wad ?_));rw[wI (z:=1-(n:Int)) (by omega) (by omega),wI (by omega) (by omega),wI (by omega) (by omega)];exact hnx (l.length-(k+1)) _ (by omega) ⟨k+1,d-n+1,_,by omega,rfl,by omega,by
     have e:(d:Int)+(1-(n:Int))=((d-n+1:Nat):Int):=by omega
     rw[e];rfl,he⟩
 ·have c:=wd0 c;have hke:k=l.length:=by omega
  rw[he,hke,wfg];unfold Za;by_cases h:d=1
  ·rw[if_pos h,if_pos (by simp[h])]
  ·rw[if_neg h,if_neg (by simp only;omega)]
theorem jee(l:List jc)(hl:l.length<=1000000):Tn (λnn=>Vv nn l) (λe=>e=Yg l):=by
 unfold Vv;refine Tt.bind (Tt.call (walkE l hl) waa) λr hr=>?_;obtain⟨d,mx,e,u⟩:=r;simp only at hr;dsimp only;refine Tt.J (λs=>s.1=e/\(s.2=true↔e=0/\d≠1)) (λnx hnx=>?_) (λs⟨h1,h2⟩=>?_)
 ·refine wad (wab (λc=>hnx _ ⟨rfl,?_⟩) λc=>hnx _ ⟨rfl,?_⟩)
  ·have c:=wdz c;simp[c]
  ·have c:=wd0 c;simp[c]
 ·obtain⟨e',b⟩:=s;simp only at h1 h2;subst h1;refine wab (λc=>Tt.pure ?_) λc=>Tt.pure ?_
  ·obtain⟨h3,h4⟩:=h2.1 c;rcases hr with h|h
   ·exact absurd h3 h.1
   ·rw[h.2,if_neg h4]
  ·rcases hr with h|h
   ·exact h.2.symm
   ·have:d=1:=Classical.byContradiction λhd=>by rw[h2.2 ⟨h.1,hd⟩]at c;cases c
    rw[h.2,if_pos this];exact h.1
theorem jci(c:Int):Tn (λnn=>zaq nn c) (λr=>r=match arK c with|some n=>(n:Int)|none => -1):=by
 have e:∀nn,zaq nn c=some (match arK c with|some n=>(n:Int)|none => -1):=λnn=>by
  unfold zaq J arK;simp only[ja,ifB];by_cases h1:c=1
  ·subst h1;rfl
  by_cases h2:c=2
  ·subst h2;rfl
  by_cases h3:c=3
  ·subst h3;rfl
  by_cases h4:c=4
  ·subst h4;rfl
  by_cases h5:c=5
  ·subst h5;rfl
  by_cases h6:c=6
  ·subst h6;rfl
  by_cases h7:c=7
  ·subst h7;rfl
  simp[h1,h2,h3,h4,h5,h6,h7]
 exact⟨_,⟨0,λnn _=>e nn⟩,rfl⟩
theorem zmx(l:List jc)(hl:l.length<=1000000):Tn (λnn=>Q9 nn l) (λe=>e=Yg l):=by
 unfold Q9 Yg;refine wab (λc=>Tt.pure ?_) (λc=>?_)
 ·have c:=wdz c;rw[if_pos (by omega)]
 have c:=wd0 c;have hl5:¬512<l.length:=by omega
 rw[if_neg hl5];generalize hC:Za l 0=C;refine Tt.loop (λm s=>∃(k d:Nat),k<=l.length/\m=l.length-k/\d<=k/\s=(l,(d:Int),(k:Int))/\C=Za (l.drop k) d) l.length waa ⟨0,0,by omega,by omega,by omega,rfl,hC.symm⟩ λm s⟨k,d,hk,hm,hdk,hs,he⟩ nx hnx=>?_;subst hs;dsimp only;refine wab (λc=>?_) (λc=>?_)
 ·have c:=wdz c;have hlt:k<l.length:=by omega
  have hx:=atN hlt;rw[wet hlt]at he;refine wac _ hx (Tt.bind (Tt.call (jci _) waa.fst) λr4 hr4=>?_);subst hr4;generalize l[k]=x at he hx⊢;unfold Za at he;refine Tt.J (λs=>∃b,s=(l,(d:Int),(k:Int),(match arK x.1 with|some n=>(n:Int)|none => -1),b)/\(b=true↔arK x.1=none\/x.1≠1/\x.2.1.l≠List.replicate 4 0)) (λny hny=>?_) (λs⟨b,hs,hb⟩=>?_)
  ·refine wad (wab (λc1=>hny _ ⟨_,rfl,?_⟩) λc1=>wac _ hx (wad (wab (λc2=>wac _ hx (hny _ ⟨_,rfl,?_⟩)) λc2=>hny _ ⟨_,rfl,?_⟩)))
   ·have c1:=wdz c1;cases h:arK x.1 with
    |none=>simp
    |some n=>rw[h]at c1;simp only at c1;omega
   ·have c1:=wd0 c1;have c2:=wdz c2;cases h:arK x.1 with
    |none=>rw[h]at c1;simp at c1
    |some n=>simp[c2]
   ·have c1:=wd0 c1;have c2:=wd0 c2;simp at c2;cases h:arK x.1 with
    |none=>rw[h]at c1;simp at c1
    |some n=>simp[c2]
  ·subst hs;dsimp only;cases har:arK x.1 with
   |none=>
    rw[har]at he hb;have:b=true:=hb.2 (.inl rfl);exact wan this (Tt.pure he.symm)
   |some n=>
    rw[har]at he hb;dsimp only at he⊢;have hn2:=z4s har;refine wab (λc1=>Tt.pure ?_) (λc1=>?_)
    ·have:=hb.1 c1;simp only[reduceCtorEq,false_or]at this;rw[if_pos this]at he;exact he.symm
    rw[if_neg (λh=>by rw[hb.2 (.inr h)]at c1;cases c1)]at he;refine wab (λc2=>Tt.pure ?_) (λc2=>?_)
    ·have c2:=wdz c2;rw[if_pos (by omega)]at he;exact he.symm
    have c2:=wd0 c2;rw[if_neg (by omega)]at he;refine wad (wad ?_);rw[wI (z:=(d:Int)-(n:Int)) (by omega) (by omega),wI (by omega) (by omega),wI (by omega) (by omega)];exact hnx (l.length-(k+1)) _ (by omega) ⟨k+1,d-n+1,by omega,rfl,by omega,by
     have e:(d:Int)-(n:Int)+1=((d-n+1:Nat):Int):=by omega
     rw[e];rfl,he⟩
 ·have c:=wd0 c;have hke:k=l.length:=by omega
  rw[hke,wfg]at he;unfold Za at he;rw[he];refine wab (λc1=>Tt.pure ?_) λc1=>Tt.pure ?_
  ·have c1:=wdz c1;rw[if_neg (by omega)]
  ·have c1:=wd0 c1;rw[if_pos (by omega)]
theorem zxq:∀(l:List jc)(d:Nat),Za l d=0->zgz l d=some 1
 |[],d,h=>by
  unfold Za at h;by_cases e:d=1
  ·subst e;rfl
  ·rw[if_neg e]at h;cases h
 |x::l,d,h=>by
  unfold Za at h;unfold zgz;cases har:arK x.1 with
  |none=>rw[har]at h;cases h
  |some n=>
   rw[har]at h;dsimp only at h⊢;split at h
   ·cases h
   ·split at h
    ·cases h
    ·rename_i h1 h2;rw[if_pos (by omega)];exact zxq l _ h
theorem Z6{l:List jc}(h:Yg l=0):RxW l:=by
 unfold Yg at h;split at h
 ·cases h
 ·exact⟨zxq l 0 h,by omega⟩
abbrev zd:jd:=(0,0,0,())
def jr:List jd->jd
 |[]=>zd
 |d::l=>if d.1=0 then jr l else d
theorem yd:∀{a b:List jd},jr (a++b)=if(jr a).1=0 then jr b else jr a
 |[],b=>by simp[jr]
 |d::a,b=>by
  by_cases h:d.1=0
  ·simp only[wgk,jr,h,↓reduceIte];exact yd
  ·simp only[wgk,jr,h,↓reduceIte]
theorem zot:∀{l:List jd},(∀d∈l,d.1=0)->jr l=zd
 |[],_=>rfl
 |d::l,h=>by
  unfold jr;rw[if_pos (h d (by simp))];exact zot λe he=>h e (by simp[he])
theorem zxi:∀{l:List jd}{k:Nat}{d:jd},l[k]?=some d->d.1≠0->(∀(j:Nat)(e:jd),j<k->l[j]?=some e->e.1=0)->jr l=d
 |[],k,d,h,_,_=>by simp at h
 |x::l,0,d,h,h2,_=>by
  simp at h;subst h;unfold jr;rw[if_neg h2]
 |x::l,k+1,d,h,h2,h3=>by
  unfold jr;rw[if_pos (h3 0 x (by omega) rfl)];exact zxi (by simpa using h) h2 λj e hj he=>h3 (j+1) e (by omega) (by simpa using he)
section
variable{α:Type}{l:List α}{f:Nat → α → jd}
theorem zf5(h:∀(j:Nat)(x:α),l[j]?=some x->(f j x).1=0):jr (l.mapIdx f)=zd:=zot λd hd=>by
 obtain⟨j,hj⟩:=we4 hd;rw[wgn]at hj;cases hx:l[j]? with
 |none=>rw[hx]at hj;cases hj
 |some x=>rw[hx]at hj;cases hj;exact h j x hx
theorem zsl{k:Nat}{x:α}(hx:l[k]?=some x)(h2:(f k x).1≠0)(h:∀(j:Nat)(y:α),j<k->l[j]?=some y->(f j y).1=0):jr (l.mapIdx f)=f k x:=by
 refine zxi (k:=k) (by rw[wgn,hx];rfl) h2 λj e hj he=>?_;rw[wgn]at he;cases hy:l[j]? with
 |none=>rw[hy]at he;cases he
 |some y=>rw[hy]at he;cases he;exact h j y hj hy
end
open Classical in
noncomputable def zsb(g:jb)(i:Nat)(t:jv):jd:=
 if ¬zgm t.1 then(7,i,0,())else if t.1∈(g.1.map (·.1)).take i then(8,i,0,())else if Yg t.2.1≠0 then(9,i,Yg t.2.1,())else if t.2.2.1<0\/3<t.2.2.1 then(1,i,0,())else zd
open Classical in
noncomputable def z3m(g:jb)(i:Nat)(s:List UInt8):jd:=
 if ¬zgm s then(7,i,0,())else if s∈g.1.map (·.1)++g.2.1.take i then(8,i,0,())else zd
noncomputable def z78(g:jb)(i:Nat)(its:List jm):jd:=jr (its.mapIdx λk x=>(itE g x,(i:Int),(k:Int)+1,()))
noncomputable def zrf(g:jb)(i:Nat)(p:ji):jd:=
 if p.1<0\/(g.2.1.length:Int)<=p.1 then(11,i,0,())else if 16<p.2.1.length then(4,i,0,())else z78 g i p.2.1
def zly(g:jb):jd:=if g.2.2.2.1<0\/(g.2.1.length:Int)<=g.2.2.2.1 then(11, -1,0,())else zd
def jai(g:jb)(i:Nat)(_:List UInt8):jd:=if(ofS i g.2.2.1).length=0 then(5,i,0,())else zd
def szA(g:jb):List jd:=[(g.1.length:Int)-64,(g.2.1.length:Int)-64,(g.2.2.1.length:Int)-256].mapIdx λk z=>if 0<z then(4,(k:Int),0,())else zd
def szT(g:jb):List (Int×Int×Int):=[(1,g.2.2.2.2.1,4096),(0,g.2.2.2.2.2.1,65536),(1,g.2.2.2.2.2.2.1,65536),(1,g.2.2.2.2.2.2.2.1,1048576)]
def szB(g:jb):List jd:=(szT g).mapIdx λk x=>if x.2.1<x.1\/x.2.2<x.2.1 then(2,(k:Int),0,())else zd
noncomputable def z1r(g:jb):=g.1.mapIdx (zsb g)
noncomputable def z1s(g:jb):=g.2.1.mapIdx (z3m g)
noncomputable def zv6(g:jb):=g.2.2.1.mapIdx (zrf g)
def zv7(g:jb):=g.2.1.mapIdx (jai g)
noncomputable def gFd(g:jb):jd:=jr (szA g++(szB g++(z1r g++(z1s g++(zv6 g++([zly g]++zv7 g))))))
theorem jfq(l:List jv)(hl:l.length<=1000000):Tn (λnn=>zme nn l) (λr=>r=l.map (·.1)):=jea l hl
theorem zx9{l:List (List UInt8)}{x:List UInt8}:0<=fIx l x↔x∈l:=by
 unfold fIx;by_cases h:x∈l
 ·rw[if_pos h];simp only[h,iff_true];omega
 ·rw[if_neg h];simp only[h,iff_false];omega
structure Stg(g:jb)(L:List jd)(s:Bool×jd×jw):Prop where
 y:s.1=true->(jr L).1≠0/\s.2.2.2.1=jr L
 n:s.1=false->jr L=zd/\s.2.2=c0 g
theorem wa6{g:jb}{L:List jd}{a d:jd}{g':jb}(hd:d.1≠0)(h:jr L=d):Stg g L (true,a,(g',d,())):=⟨λ_=>⟨by rw[h];exact hd,h.symm⟩,λh=>(by cases h)⟩
theorem wcp{g:jb}{L:List jd}{a:jd}(h:jr L=zd):Stg g L (false,a,c0 g):=⟨λh=>(by cases h),λ_=>⟨h,rfl⟩⟩
theorem z65(g:jb)(hg:Vf g):Tn (λnn=>Z3 nn g) (λd=>d=gFd g):=by
 have ht:=hg.t;have hr:=hg.r;have hp:=hg.p;unfold Z3;refine Tt.J (λs=>s.2.2.1=gFd g) (λnx2 h2=>?_) (λs hs=>Tt.pure hs);refine Tt.J (Stg g (szA g++szB g)) (λnx4 h4=>?_) (λs hs=>?_)
 ·obtain⟨L3,hL3⟩:∃L3,L3=[T.w64 ((g.1.length:Int)-64),T.w64 ((g.2.1.length:Int)-64),T.w64 ((g.2.2.1.length:Int)-256)]:=⟨_,rfl⟩
  rw[<- hL3];have hl3:L3.length=3:=by rw[hL3];rfl
  rw[wI (by omega) (by omega),wI (by omega) (by omega),wI (by omega) (by omega)]at hL3;have hsA:szA g=L3.mapIdx λk z=>if 0<z then(4,(k:Int),0,())else zd:=by rw[hL3];rfl
  refine Tt.loop (λm s=>∃k:Nat,k<=3/\m=3-k/\s=(L3,3,(k:Int),c0 g)/\∀(i:Nat)(z:Int),i<k->L3[i]?=some z->z<=0) 3 waa ⟨0,by omega,by omega,by rw[hl3];rfl,λi z hi=>by omega⟩ λm s⟨k,hk,hm,hs,hle⟩ nx hnx=>?_;subst hs;dsimp only;refine wab (λc=>?_) (λc=>?_)
  ·have c:=wdz c;have hlt:k<L3.length:=by omega
   refine wac _ (atN hlt) (wab (λc2=>h4.fst _ ?_) (λc2=>wad ?_))
   ·have c2:=wdz c2;refine wa6 (by simp) ?_;have e:jr (szA g)=(4,(k:Int),0,()):=by
     rw[hsA,zsl (wdy hlt) (by rw[if_pos c2];simp) λj y hj hy=>by rw[if_neg (by have:=hle j y hj hy;omega)],if_pos c2]
    rw[yd,e];rfl
   ·have c2:=wd0 c2;rw[wI (by omega) (by omega)];refine hnx (3-(k+1)) _ (by omega) ⟨k+1,by omega,rfl,rfl,λi z hi hz=>?_⟩;by_cases hik:i<k
    ·exact hle i z hik hz
    ·have:i=k:=by omega
     subst this;rw[wdy hlt]at hz;cases hz;omega
  ·have c:=wd0 c;have hk3:k=3:=by omega
   subst hk3;have eA:jr (szA g)=zd:=by
    rw[hsA];exact zf5 λj z hz=>by rw[if_neg (by have:=hle j z (by have:=(wd1.1 hz).1;omega) hz;omega)]
   obtain⟨L4,hL4⟩:∃L4,L4=[(⟨[1,(c0 g).1.2.2.2.2.1,4096],rfl⟩:Arr 3 Int),(⟨[0,(c0 g).1.2.2.2.2.2.1,65536],rfl⟩:Arr 3 Int),(⟨[1,(c0 g).1.2.2.2.2.2.2.1,65536],rfl⟩:Arr 3 Int),(⟨[1,(c0 g).1.2.2.2.2.2.2.2.1,1048576],rfl⟩:Arr 3 Int)]:=⟨_,rfl⟩
   rw[<- hL4];have hl4:L4.length=4:=by rw[hL4];rfl
   have hT:∀(i:Nat)(hi:i<L4.length),∃x,(szT g)[i]?=some x/\(L4[i]).l=[x.1,x.2.1,x.2.2]:=λi hi=>by
    subst hL4;have:i=0\/i=1\/i=2\/i=3:=by simp at hi;omega
    rcases this with rfl|rfl|rfl|rfl<;>exact⟨_,rfl,rfl⟩
   refine Tt.loop (λm s=>∃k:Nat,k<=4/\m=4-k/\s=(L4,4,(k:Int),c0 g)/\∀(i:Nat)(x:Int×Int×Int),i<k->(szT g)[i]?=some x->¬(x.2.1<x.1\/x.2.2<x.2.1)) 4 waa.fst ⟨0,by omega,by omega,by rw[hl4];rfl,λi x hi=>by omega⟩ λm s⟨k,hk,hm,hs,hle⟩ nx hnx=>?_;subst hs;dsimp only;refine wab (λc=>?_) (λc=>h4.fst.fst _ (wcp ?_))
   ·have c:=wdz c;have hlt:k<L4.length:=by omega
    obtain⟨x,hx,hxl⟩:=hT k hlt;refine wac _ (atN hlt) ?_;refine Tt.J (λs=>∃b,s=((k:Int),L4,4,(k:Int),b,c0 g)/\(b=true↔x.2.1<x.1\/x.2.2<x.2.1)) (λny hny=>?_) (λs⟨b,hs,hb⟩=>?_)
    ·refine wac 1 rfl (wac x.2.1 (by rw[hxl];rfl) (wac 0 rfl (wac x.1 (by rw[hxl];rfl) (wad (wab (λc1=>hny _ ⟨true,rfl,?_⟩) (λc1=>wac 1 rfl (wac x.2.1 (by rw[hxl];rfl) (wac 2 rfl (wac x.2.2 (by rw[hxl];rfl) (hny _ ⟨_,rfl,?_⟩))))))))))
     ·have c1:=wdz c1;simp[c1]
     ·have c1:=wd0 c1;simp only[wej];omega
    ·subst hs;dsimp only;refine wab (λc1=>h4.fst.fst _ (wa6 (by simp) ?_)) (λc1=>wad ?_)
     ·have hbad:=hb.1 c1;rw[yd,eA,if_pos rfl];unfold szB;rw[zsl hx (by rw[if_pos hbad];simp) λj y hj hy=>by rw[if_neg (hle j y hj hy)],if_pos hbad]
     ·rw[wI (by omega) (by omega)];refine hnx (4-(k+1)) _ (by omega) ⟨k+1,by omega,rfl,rfl,λi y hi hy=>?_⟩;by_cases hik:i<k
      ·exact hle i y hik hy
      ·have:i=k:=by omega
       subst this;rw[hx]at hy;cases hy;exact λh=>by rw[hb.2 h]at c1;cases c1
   ·have c:=wd0 c;rw[yd,eA,if_pos rfl];unfold szB;exact zf5 λj x hx=>by
     have hj:=(wd1.1 hx).1;have hj4:j<4:=hj;rw[if_neg (hle j x (by omega) hx)]
 ·obtain⟨f3,d3,c3⟩:=s;obtain⟨hs1,hs2⟩:=hs;simp only at hs1 hs2;refine wab (λc=>h2 _ ?_) (λc=>?_)
  ·obtain⟨q1,q2⟩:=hs1 c;unfold gFd;rw[<- wey,yd,if_neg q1];exact q2
  obtain⟨q0,rfl⟩:=hs2 c;have g1:gFd g=jr (z1r g++(z1s g++(zv6 g++([zly g]++zv7 g)))):=by
   unfold gFd;rw[<- wey,yd,if_pos (by rw[q0])]
  dsimp only;refine Tt.J (Stg g (z1r g)) (λnx6 h6=>?_) (λs hs=>?_)
  ·refine Tt.bind (Tt.call (jea g.1 ht) waa) λns hns=>?_;have hnl:ns.length=g.1.length:=by rw[hns];simp
   refine Tt.loop (λm s=>∃k:Nat,k<=g.1.length/\m=g.1.length-k/\s=(ns,g.1,(g.1.length:Int),(k:Int),c0 g)/\∀(i:Nat)(x:jv),i<k->g.1[i]?=some x->(zsb g i x).1=0) g.1.length waa ⟨0,by omega,by omega,rfl,λi x hi=>by omega⟩ λm s⟨k,hk,hm,hs,hrx⟩ nx hnx=>?_;subst hs;dsimp only;refine wab (λc=>?_) (λc=>h6.fst _ (wcp ?_))
   ·have c:=wdz c;have hlt:k<g.1.length:=by omega
    have hmem:g.1[k]∈g.1:=wec hlt;have q2:=hg.tn _ hmem;have hget:=wdy hlt;refine wac _ (atN hlt) ?_;generalize g.1[k]=t at q2 hget hmem⊢;have hfin:∀d,zsb g k t=d->d.1≠0->jr (z1r g)=d:=λd e hd=>by
     unfold z1r;rw[zsl hget (by rw[e];exact hd) λj y hj hy=>hrx j y hj hy,e]
    refine Tt.J (λs=>∃f cc,s=(ns,(k:Int),g.1,(g.1.length:Int),(k:Int),f,cc,t)/\(f=true->cc.2.1.1≠0/\jr (z1r g)=cc.2.1)/\(f=false->cc=c0 g/\zgm t.1/\t.1∉(g.1.map (·.1)).take k)) (λny hny=>?_) (λs⟨f,cc,hs,k1,k2⟩=>?_)
    ·refine wac (ns.take k) (sliT (by omega)) ?_;refine Tt.bind (Tt.call (jiz _) waa.fst) λb hb=>wab (λc1=>hny _ ⟨_,_,rfl,λ_=>⟨(by decide:(7:Int)≠0),hfin _ ?_ (by simp)⟩,λh=>by cases h⟩) (λc1=>?_)
     ·have hn:¬zgm t.1:=λh=>by rw[hb.2 h]at c1;cases c1
      unfold zsb;rw[if_pos hn]
     have hn:zgm t.1:=hb.1 (by simpa using c1);refine Tt.bind (Tt.call (jin _ _ (by rw[wff];omega)) waa.fst) λz hz=>wab (λc2=>hny _ ⟨_,_,rfl,λ_=>⟨(by decide:(8:Int)≠0),hfin _ ?_ (by simp)⟩,λh=>by cases h⟩) (λc2=>hny _ ⟨_,_,rfl,λh=>(by cases h),λ_=>⟨rfl,hn,?_⟩⟩)
     ·have c2:=wdz c2;rw[hz,zx9,hns]at c2;unfold zsb;rw[if_neg (λh=>h hn),if_pos c2]
     ·have c2:=wd0 c2;rw[hz,zx9,hns]at c2;exact c2
    ·subst hs;dsimp only;refine wab (λc=>h6.fst _ (wa6 (k1 c).1 (k1 c).2)) (λc=>?_);obtain⟨rfl,hn,hnot⟩:=k2 c;refine Tt.bind (Tt.call (jee _ q2) waa.fst) λe he=>wab (λce=>h6.fst _ (wa6 (by simp) (hfin _ ?_ (by simp)))) (λce=>?_)
     ·have ce:=wdz ce;rw[he]at ce⊢;unfold zsb;rw[if_neg (λh=>h hn),if_neg hnot,if_pos ce]
     have ce:e=0:=wf2.1 (wd0 ce);rw[he]at ce;refine Tt.J (λs=>∃f,s=(ns,(k:Int),g.1,(g.1.length:Int),(k:Int),f,c0 g)/\(f=true↔t.2.2.1<0\/3<t.2.2.1)) (λnz hnz=>?_) (λs⟨f,hs,hf⟩=>?_)
     ·refine wad (wab (λc1=>hnz _ ⟨_,rfl,?_⟩) (λc1=>hnz _ ⟨_,rfl,?_⟩))
      ·have c1:=wdz c1;simp[c1]
      ·have c1:=wd0 c1;simp only[wej];omega
     ·subst hs;dsimp only;refine wab (λc1=>h6.fst _ (wa6 (by simp) (hfin _ ?_ (by simp)))) (λc1=>wad ?_)
      ·unfold zsb;rw[if_neg (λh=>h hn),if_neg hnot,if_neg (λh=>h ce),if_pos (hf.1 c1)]
      rw[wI (by omega) (by omega)];refine hnx (g.1.length-(k+1)) _ (by omega) ⟨k+1,by omega,rfl,rfl,λi x hi hx=>?_⟩;by_cases hik:i<k
      ·exact hrx i x hik hx
      ·have:i=k:=by omega
       subst this;rw[hget]at hx;cases hx;unfold zsb;rw[if_neg (λh=>h hn),if_neg hnot,if_neg (λh=>h ce),if_neg (λh=>by rw[hf.2 h]at c1;cases c1)]
   ·have c:=wd0 c;exact zf5 λj x hx=>hrx j x (by have:=(wd1.1 hx).1;omega) hx
  ·obtain⟨f5,d5,c5⟩:=s;obtain⟨hs1,hs2⟩:=hs;simp only at hs1 hs2;refine wab (λc=>h2 _ ?_) (λc=>?_)
   ·obtain⟨q1,q2⟩:=hs1 c;rw[g1,yd,if_neg q1];exact q2
   obtain⟨q1,rfl⟩:=hs2 c;have g2:gFd g=jr (z1s g++(zv6 g++([zly g]++zv7 g))):=by rw[g1,yd,if_pos (by rw[q1])]
   dsimp only;refine Tt.J (Stg g (z1s g)) (λnx8 h8=>?_) (λs hs=>?_)
   ·refine Tt.bind (Tt.call (jfq g.1 ht) waa) λns hns=>?_;subst hns;refine Tt.loop (λm s=>∃(k:Nat),k<=g.2.1.length/\m=g.2.1.length-k/\s=(g.2.1,(g.2.1.length:Int),(k:Int),c0 g,g.1.map (·.1)++g.2.1.take k)/\∀(i:Nat)(x:List UInt8),i<k->g.2.1[i]?=some x->(z3m g i x).1=0) g.2.1.length waa ⟨0,by omega,by omega,by simp,λi x hi=>by omega⟩ λm s⟨k,hk,hm,hs,hrx⟩ nx hnx=>?_;subst hs;dsimp only;refine wab (λc=>?_) (λc=>h8.fst _ (wcp ?_))
    ·have c:=wdz c;have hlt:k<g.2.1.length:=by omega
     have hget:=wdy hlt;have htk:=web hlt;refine wac _ (atN hlt) ?_;generalize g.2.1[k]=t at hget htk⊢;have hfin:∀d,z3m g k t=d->d.1≠0->jr (z1s g)=d:=λd e hd=>by
      unfold z1s;rw[zsl hget (by rw[e];exact hd) λj y hj hy=>hrx j y hj hy,e]
     refine Tt.J (λs=>∃f cc,s=(t,g.2.1,(g.2.1.length:Int),(k:Int),f,cc,g.1.map (·.1)++g.2.1.take k)/\(f=true->cc.2.1.1≠0/\jr (z1s g)=cc.2.1)/\(f=false->cc=c0 g/\(z3m g k t).1=0)) (λny hny=>?_) (λs⟨f,cc,hs,k1,k2⟩=>?_)
     ·refine Tt.bind (Tt.call (jiz _) waa.fst) λb hb=>wab (λc1=>hny _ ⟨_,_,rfl,λ_=>⟨(by decide:(7:Int)≠0),hfin _ ?_ (by simp)⟩,λh=>by cases h⟩) (λc1=>?_)
      ·have hn:¬zgm t:=λh=>by rw[hb.2 h]at c1;cases c1
       unfold z3m;rw[if_pos hn]
      have hn:zgm t:=hb.1 (by simpa using c1);refine Tt.bind (Tt.call (jin _ _ (by simp;omega)) waa.fst) λz hz=>wab (λc2=>hny _ ⟨_,_,rfl,λ_=>⟨(by decide:(8:Int)≠0),hfin _ ?_ (by simp)⟩,λh=>by cases h⟩) (λc2=>hny _ ⟨_,_,rfl,λh=>(by cases h),λ_=>⟨rfl,?_⟩⟩)
      ·have c2:=wdz c2;rw[hz,zx9]at c2;unfold z3m;rw[if_neg (λh=>h hn),if_pos c2]
      ·have c2:=wd0 c2;rw[hz,zx9]at c2;unfold z3m;rw[if_neg (λh=>h hn),if_neg c2]
     ·subst hs;dsimp only;refine wab (λc=>h8.fst _ (wa6 (k1 c).1 (k1 c).2)) (λc=>?_);obtain⟨rfl,hz⟩:=k2 c;refine wac _ (Js (by simp;omega) (by omega)) (wad ?_);rw[wI (by omega) (by omega)];refine hnx (g.2.1.length-(k+1)) _ (by omega) ⟨k+1,by omega,rfl,by rw[htk,wey];rfl,λi x hi hx=>?_⟩;by_cases hik:i<k
      ·exact hrx i x hik hx
      ·have:i=k:=by omega
       subst this;rw[hget]at hx;cases hx;exact hz
    ·have c:=wd0 c;exact zf5 λj x hx=>hrx j x (by have:=(wd1.1 hx).1;omega) hx
   ·obtain⟨f7,d7,c7⟩:=s;obtain⟨hs1,hs2⟩:=hs;simp only at hs1 hs2;refine wab (λc=>h2 _ ?_) (λc=>?_)
    ·obtain⟨q1,q2⟩:=hs1 c;rw[g2,yd,if_neg q1];exact q2
    obtain⟨q2,rfl⟩:=hs2 c;have g3:gFd g=jr (zv6 g++([zly g]++zv7 g)):=by rw[g2,yd,if_pos (by rw[q2])]
    dsimp only;refine Tt.J (Stg g (zv6 g)) (λnx10 h10=>?_) (λs hs=>?_)
    ·refine Tt.J (λs=>∀a,Stg g (zv6 g) (s.1,a,s.2)) (λnx21 h21=>?_) (λs hs=>h10 _ (hs _));refine Tt.loop (λm s=>∃k:Nat,k<=g.2.2.1.length/\m=g.2.2.1.length-k/\s=(g.2.2.1,(g.2.2.1.length:Int),(k:Int),c0 g)/\∀(i:Nat)(x:ji),i<k->g.2.2.1[i]?=some x->(zrf g i x).1=0) g.2.2.1.length waa ⟨0,by omega,by omega,rfl,λi x hi=>by omega⟩ λm s⟨k,hk,hm,hs,hok⟩ nx hnx=>?_;subst hs;dsimp only;refine wab (λc=>?_) (λc=>h21.fst _ λa=>wcp ?_)
     ·have c:=wdz c;have hlt:k<g.2.2.1.length:=by omega
      have hget:=wdy hlt;refine wac _ (atN hlt) ?_;generalize g.2.2.1[k]=p at hget⊢;have hfin:∀d,zrf g k p=d->d.1≠0->jr (zv6 g)=d:=λd e hd=>by
       unfold zv6;rw[zsl hget (by rw[e];exact hd) λj y hj hy=>hok j y hj hy,e]
      refine Tt.J (λs=>∃f,s=((k:Int),g.2.2.1,(g.2.2.1.length:Int),(k:Int),f,c0 g,p)/\(f=true↔p.1<0\/(g.2.1.length:Int)<=p.1)) (λny hny=>?_) (λs⟨f,hs,hl⟩=>?_)
      ·refine wad (wab (λc1=>hny _ ⟨true,rfl,?_⟩) (λc1=>hny _ ⟨_,rfl,?_⟩))
       ·have c1:=wdz c1;simp[c1]
       ·have c1:=wd0 c1;simp only[wej];omega
      ·subst hs;dsimp only;refine wab (λcf=>h10.fst _ (wa6 (by simp) (hfin _ ?_ (by simp)))) (λcf=>?_)
       ·unfold zrf;rw[if_pos (hl.1 cf)]
       have hleft:¬(p.1<0\/(g.2.1.length:Int)<=p.1):=λh=>by rw[hl.2 h]at cf;cases cf
       refine wab (λc16=>h10.fst _ (wa6 (by simp) (hfin _ ?_ (by simp)))) (λc16=>?_)
       ·have c16:=wdz c16;unfold zrf;rw[if_neg hleft,if_pos (by omega)]
       have c16:=wd0 c16;have hpd:zrf g k p=z78 g k p.2.1:=by unfold zrf;rw[if_neg hleft,if_neg (by omega)]
       refine Tt.loop (λm s=>∃i:Nat,i<=p.2.1.length/\m=p.2.1.length-i/\s=((k:Int),g.2.2.1,(g.2.2.1.length:Int),(k:Int),p.2.1,(p.2.1.length:Int),(i:Int),c0 g)/\∀(j:Nat)(x:jm),j<i->p.2.1[j]?=some x->itE g x=0) p.2.1.length waa.fst ⟨0,by omega,by omega,rfl,λi x hi=>by omega⟩ λm s⟨i,hi,hm2,hs,hit⟩ nz hnz=>?_;subst hs;dsimp only;refine wab (λc=>?_) (λc=>?_)
       ·have c:=wdz c;have hil:i<p.2.1.length:=by omega
        refine wac _ (atN hil) (Tt.bind (Tt.call (itemE g (0,0,0,()) (p.2.1[i])) waa.fst.fst) λe he=>?_);refine wab (λce=>h21.fst.fst _ λa=>?_) (λce=>wad ?_)
        ·have ce:=wdz ce;rw[wI (by omega) (by omega)];refine wa6 ce (hfin _ ?_ ce);rw[hpd];unfold z78;rw[zsl (wdy hil) (by simp only;rw[<- he];exact ce) λj y hj hy=>hit j y hj hy,he]
        have ce:e=0:=wf2.1 (wd0 ce);rw[wI (by omega) (by omega)];refine hnz (p.2.1.length-(i+1)) _ (by omega) ⟨i+1,by omega,rfl,rfl,λj x hj hx=>?_⟩;by_cases hji:j<i
        ·exact hit j x hji hx
        ·have:j=i:=by omega
         subst this;rw[wdy hil]at hx;cases hx;rw[<- he];exact ce
       ·have c:=wd0 c;refine wad ?_;rw[wI (by omega) (by omega)];refine Tt.fst (hnx (g.2.2.1.length-(k+1)) _ (by omega) ⟨k+1,by omega,rfl,rfl,λj x hj hx=>?_⟩);by_cases hjk:j<k
        ·exact hok j x hjk hx
        ·have:j=k:=by omega
         subst this;rw[hget]at hx;cases hx;rw[hpd];unfold z78;rw[zf5 λj2 y hy=>hit j2 y (by have:=(wd1.1 hy).1;omega) hy]
     ·have c:=wd0 c;exact zf5 λj x hx=>hok j x (by have:=(wd1.1 hx).1;omega) hx
    ·obtain⟨f9,d9,c9⟩:=s;obtain⟨hs1,hs2⟩:=hs;simp only at hs1 hs2;refine wab (λc=>h2 _ ?_) (λc=>?_)
     ·obtain⟨q1,q2⟩:=hs1 c;rw[g3,yd,if_neg q1];exact q2
     obtain⟨q3,rfl⟩:=hs2 c;have g4:gFd g=jr ([zly g]++zv7 g):=by rw[g3,yd,if_pos (by rw[q3])]
     dsimp only;refine Tt.J (λs=>(jr ([zly g]++zv7 g))=s.2.2.2.1) (λnx12 h12=>?_) (λs hs=>?_)
     ·refine Tt.J (λs=>∃f,s=(f,c0 g)/\(f=true↔g.2.2.2.1<0\/(g.2.1.length:Int)<=g.2.2.2.1)) (λny hny=>?_) (λs⟨f,hs,hst⟩=>?_)
      ·refine wad (wab (λc1=>hny _ ⟨true,rfl,?_⟩) (λc1=>hny _ ⟨_,rfl,?_⟩))
       ·have c1:=wdz c1;simp[c1]
       ·have c1:=wd0 c1;simp only[wej];omega
      ·subst hs;dsimp only;refine wab (λcf=>h12 _ ?_) (λcf=>?_)
       ·have e:zly g=(11, -1,0,()):=by unfold zly;rw[if_pos (hst.1 cf)]
        rw[yd,e];rfl
       have e:zly g=zd:=by unfold zly;rw[if_neg (λh=>by rw[hst.2 h]at cf;cases cf)]
       have e2:jr ([zly g]++zv7 g)=jr (zv7 g):=by rw[yd,e];rfl
       rw[e2]at h12;refine Tt.loop (λm s=>∃k:Nat,k<=g.2.1.length/\m=g.2.1.length-k/\s=((g.2.1.length:Int),(k:Int),c0 g)/\∀(i:Nat)(x:List UInt8),i<k->g.2.1[i]?=some x->(jai g i x).1=0) g.2.1.length waa ⟨0,by omega,by omega,rfl,λi x hi=>by omega⟩ λm s⟨k,hk,hm,hs,hok⟩ nx hnx=>?_;subst hs;dsimp only;refine wab (λc=>?_) (λc=>h12.fst _ ?_)
       ·have c:=wdz c;have hlt:k<g.2.1.length:=by omega
        have hget:=wdy hlt;refine Tt.bind (Tt.call (OfE g hg.toGLen (k:Int)) waa.fst) λl hl=>wab (λc1=>h12.fst _ ?_) (λc1=>wad ?_)
        ·have c1:=wdz c1;have en:jai g k g.2.1[k]=(5,(k:Int),0,()):=by unfold jai;rw[if_pos (by rw[hl]at c1;omega)]
         unfold zv7;rw[zsl hget (by rw[en];simp) λj y hj hy=>hok j y hj hy,en]
        ·have c1:=wd0 c1;rw[wI (by omega) (by omega)];refine hnx (g.2.1.length-(k+1)) _ (by omega) ⟨k+1,by omega,rfl,rfl,λi x hi hx=>?_⟩;by_cases hik:i<k
         ·exact hok i x hik hx
         ·have:i=k:=by omega
          subst this;unfold jai;rw[if_neg (by rw[hl]at c1;omega)]
       ·have c:=wd0 c;exact zf5 λj x hx=>hok j x (by have:=(wd1.1 hx).1;omega) hx
     ·obtain⟨f11,d11,c11⟩:=s;simp only at hs;exact wab (λc=>h2 _ (by rw[g4,hs])) (λc=>h2 _ (by rw[g4,hs]))
theorem at0{α:Type}(x:α)(l:List α):atL (x::l) 0=some x:=rfl
theorem sl1{α:Type}(x:α)(l:List α):zms (x::l) (some 1) none=some l:=by
 unfold zms bdN;simp
structure UnI(a b a' b' out:List Int):Prop where
 m:∀x,(x∈a\/x∈b)↔(x∈out\/x∈a'\/x∈b')
 l:out.length+a'.length+b'.length<=a.length+b.length
 r:jx a->jx b->jx a'/\jx b'/\jx out/\∀x∈out,(∀y∈a',x<y)/\∀y∈b',x<y
theorem zt1{l:List Int}{x:Int}(h:jx l)(hx:∀y∈l,y<x):jx (l++[x]):=by
 unfold jx at *;rw[wgz];exact⟨h,by simp,λy hy z hz=>by simp at hz;subst hz;exact hx y hy⟩
theorem z7w(a b:List Int)(hl:a.length+b.length<=1000000):Tn (λnn=>Je nn a b) (λr=>r.length<=a.length+b.length/\(∀x,x∈r↔x∈a\/x∈b)/\(jx a->jx b->jx r)):=by
 unfold Je;refine Tt.loop (λm s=>∃a' b' out,m=a'.length+b'.length/\s=(a',b',out)/\UnI a b a' b' out) (a.length+b.length) waa ⟨a,b,[],rfl,rfl,⟨λx=>by simp,by simp,λh1 h2=>⟨h1,h2,by simp[jx],by simp⟩⟩⟩ λm s⟨a',b',out,hm,hs,hI⟩ nx hnx=>?_;subst hs;have hlen:=hI.l;have hap:∀x:Int,out.length+1<=1000000->apO 8 out [x]=some (out++[x]):=λx h=>Js (by simp;omega) (by omega);have tk1:∀{x:Int}{a1:List Int},a'=x::a1->(jx b'->∀y∈b',x<y)->UnI a b a1 b' (out++[x]):=λ{x a1}e hlt=>by
  subst e;refine⟨λz=>by rw[hI.m];simp;grind,by have:=hI.l;simp at this⊢;omega,λh1 h2=>?_⟩;obtain⟨r1,r2,r3,r4⟩:=hI.r h1 h2;have r1':=wfu.1 r1;refine⟨r1'.2,r2,zt1 r3 λy hy=>(r4 y hy).1 x (by simp),λz hz=>?_⟩;rcases wd7.1 hz with hz|hz
  ·exact⟨λy hy=>(r4 z hz).1 y (by simp[hy]),(r4 z hz).2⟩
  ·simp at hz;subst hz;exact⟨r1'.1,hlt r2⟩
 have tk2:∀{y:Int}{b1:List Int},b'=y::b1->(jx a'->∀x∈a',y<x)->UnI a b a' b1 (out++[y]):=λ{y b1}e hlt=>by
  subst e;refine⟨λz=>by rw[hI.m];simp;grind,by have:=hI.l;simp at this⊢;omega,λh1 h2=>?_⟩;obtain⟨r1,r2,r3,r4⟩:=hI.r h1 h2;have r2':=wfu.1 r2;refine⟨r1,r2'.2,zt1 r3 λz hz=>(r4 z hz).2 y (by simp),λz hz=>?_⟩;rcases wd7.1 hz with hz|hz
  ·exact⟨(r4 z hz).1,λx hx=>(r4 z hz).2 x (by simp[hx])⟩
  ·simp at hz;subst hz;exact⟨hlt r1,r2'.1⟩
 have tk3:∀{x:Int}{a1 b1:List Int},a'=x::a1->b'=x::b1->UnI a b a1 b1 (out++[x]):=λ{x a1 b1}e1 e2=>by
  subst e1;subst e2;refine⟨λz=>by rw[hI.m];simp;grind,by have:=hI.l;simp at this⊢;omega,λh1 h2=>?_⟩;obtain⟨r1,r2,r3,r4⟩:=hI.r h1 h2;have r1':=wfu.1 r1;have r2':=wfu.1 r2;refine⟨r1'.2,r2'.2,zt1 r3 λz hz=>(r4 z hz).2 x (by simp),λz hz=>?_⟩;rcases wd7.1 hz with hz|hz
  ·exact⟨λy hy=>(r4 z hz).1 y (by simp[hy]),λy hy=>(r4 z hz).2 y (by simp[hy])⟩
  ·simp at hz;subst hz;exact⟨r1'.1,r2'.1⟩
 have hd:∀{x y:Int}{l:List Int},x<y->jx (y::l)->∀z∈y::l,x<z:=λ{x y l}h hr z hz=>by
  have:=wfu.1 hr;rcases wek.1 hz with rfl|hz
  ·exact h
  ·have:=this.1 z hz;omega
 cases a' with
 |nil=>
  cases b' with
  |nil=>
   simp[T.J,ja,ifB];refine Tt.pure ⟨by have:=hI.l;simpa using this,λx=>?_,λh1 h2=>(hI.r h1 h2).2.2.1⟩;have:=hI.m x;simp at this;exact this.symm
  |cons y b1=>
   have hn:=hap y (by simp at hlen;omega);simp[T.J,ja,ifB,at0,sl1,hn];exact hnx _ _ (by subst hm;simp) ⟨[],b1,_,rfl,rfl,tk2 rfl λ_ x hx=>by cases hx⟩
 |cons x a1=>
  cases b' with
  |nil=>
   have hn:=hap x (by simp at hlen;omega);simp[T.J,ja,ifB,at0,sl1,hn];exact hnx _ _ (by subst hm;simp) ⟨a1,[],_,rfl,rfl,tk1 rfl λ_ x hx=>by cases hx⟩
  |cons y b1=>
   have hn1:=hap x (by simp at hlen;omega);have hn2:=hap y (by simp at hlen;omega);have hz1:¬((b1.length:Int)+1=0):=by omega
   have hz2:¬((a1.length:Int)+1=0):=by omega
   have hz3:(0:Int)<(a1.length:Int)+1:=by omega
   by_cases h1:x<y
   ·simp[T.J,ja,ifB,at0,sl1,hn1,hn2,h1,hz1,hz2,hz3];exact hnx _ _ (by subst hm;simp<;>omega) ⟨a1,y::b1,_,rfl,rfl,tk1 rfl (hd h1)⟩
   ·by_cases h2:y<x
    ·simp[T.J,ja,ifB,at0,sl1,hn1,hn2,h1,h2,hz1,hz2,hz3];exact hnx _ _ (by subst hm;simp<;>omega) ⟨x::a1,b1,_,rfl,rfl,tk2 rfl (hd h2)⟩
    ·have e:x=y:=by omega
     subst e;simp[T.J,ja,ifB,at0,sl1,hn1,hz1,hz2,hz3];exact hnx _ _ (by subst hm;simp<;>omega) ⟨a1,b1,_,rfl,rfl,tk3 rfl rfl⟩
theorem zh{n k:Nat}(h:k<n):vk n (k:Int)=some (k:Int):=by
 unfold vk;simp[h]
theorem zit{α:Type}{l:List α}{k:Nat}(x:α)(h:k<l.length):zas l (k:Int) x=some (l.set k x):=by
 unfold zas;simp[h]
theorem mkN{b n:Nat}(h1:n<=1000000)(h2:b<=1000):mkO b (n:Int)=some n:=by
 unfold mkO;have e1:decide ((n:Nat)<=maxLen)=true:=wes (by simp only[maxLen];omega);have e2:decide (b*n<=281474976710656)=true:=wes (by have:=Nat.mul_le_mul h2 h1;omega);simp[e1,e2]
def Yh:List Bool->Nat
 |[]=>0
 |b::l=>(if b=true then 0 else 1)+Yh l
theorem zk3:∀{l:List Bool}{k:Nat},l[k]?=some false->Yh (l.set k true)+1=Yh l
 |[],k,h=>by simp at h
 |b::l,0,h=>by
  simp at h;subst h;simp[Yh];omega
 |b::l,k+1,h=>by
  have:=zk3 (l:=l) (k:=k) (by simpa using h);simp[Yh];omega
def emC(r:List Bool)(p:ji):Prop:=(∀x∈p.2.1,x.1=true/\r[x.2.1.toNat]?=some true)->r[p.1.toNat]?=some true
theorem jal(g:jb)(x:jm)(r:List Bool)(hr:r.length=g.2.1.length)(hx:zj4 g x):Tn (λnn=>Z8 nn x r) (λb=>b=true↔x.1=true/\r[x.2.1.toNat]?=some true):=by
 unfold Z8;refine Tt.J (λb=>b=true↔x.1=true/\r[x.2.1.toNat]?=some true) (λnx hnx=>?_) (λs hs=>Tt.pure hs);refine wab (λc=>?_) (λc=>hnx _ (by simp[c]));obtain⟨h1,h2⟩:=hx;rw[if_pos c]at h2;have hl:x.2.1.toNat<r.length:=by omega
 refine wac _ (zdj h1 (wdy hl)) (hnx _ ?_);rw[wdy hl];simp[c]
abbrev GR(g:jb):Prop:=Tn (λnn=>vd nn g) (λb=>b=true)
theorem jak(g:jb)(hg:Vf g)(hR:GR g)(hok:GOk g):Tn (λnn=>yb nn g) (λr=>r.length=g.2.1.length/\∀p∈g.2.2.1,emC r p):=by
 unfold yb;refine Tt.J (λr=>r.length=g.2.1.length/\∀p∈g.2.2.1,emC r p) (λnx2 h2=>?_) (λs hs=>Tt.pure hs);refine Tt.bind (Tt.call hR waa) λb hb=>?_;subst hb;refine waf rfl ?_;have hp:=hg.p;refine wad (wac _ (mkN hg.r (by omega)) ?_);refine Tt.loop (λm s=>∃(more:Bool)(r:List Bool),m=2*Yh r+(if more=true then 1 else 0)/\s=(g.2.2.1,more,r)/\r.length=g.2.1.length/\(more=false->∀p∈g.2.2.1,emC r p)) (2*Yh (List.replicate g.2.1.length false)+1) waa ⟨true,_,rfl,rfl,by simp,λh=>by cases h⟩ λm s⟨more,r,hm,hs,hl,hcl⟩ nx hnx=>?_;subst hs;dsimp only;refine wab (λc=>?_) (λc=>h2.fst _ ⟨hl,hcl c⟩);subst c;rw[if_pos rfl]at hm;refine Tt.loop (λm s=>∃(k:Nat)(more:Bool)(r1:List Bool),k<=g.2.2.1.length/\m=g.2.2.1.length-k/\s=(g.2.2.1,more,g.2.2.1,(g.2.2.1.length:Int),(k:Int),r1)/\r1.length=g.2.1.length/\(more=true->Yh r1<Yh r)/\(more=false->r1=r/\∀i,i<k->∀p,g.2.2.1[i]?=some p->emC r p)) g.2.2.1.length waa.fst ⟨0,false,r,by omega,by omega,rfl,hl,λh=>(by cases h),λ_=>⟨rfl,λi hi=>by omega⟩⟩ λm2 s⟨k,more,r1,hk,hm2,hs,hl1,ht,hf⟩ ny hny=>?_;subst hs;dsimp only;refine wab (λc=>?_) (λc=>?_)
 ·have c:=wdz c;have hlt:k<g.2.2.1.length:=by omega
  have hmem:g.2.2.1[k]∈g.2.2.1:=wec hlt;refine wac _ (atN hlt) ?_;have egp:g.2.2.1[k]?=some g.2.2.1[k]:=wdy hlt;obtain⟨p,ep⟩:∃p,g.2.2.1[k]=p:=⟨_,rfl⟩
  rw[ep]at hmem egp⊢;obtain⟨l0,l1⟩:=hok.left p hmem;have hit:=hok.items p hmem;have hpl:=hok.len p hmem;obtain⟨q,hq⟩:∃q:Nat,p.1=q:=⟨p.1.toNat,by omega⟩
  have hql:q<r1.length:=by omega
  refine Tt.J (λs=>∃(more:Bool)(r1:List Bool),s=(g.2.2.1,more,g.2.2.1,(g.2.2.1.length:Int),(k:Int),r1)/\r1.length=g.2.1.length/\(more=true->Yh r1<Yh r)/\(more=false->r1=r/\∀i,i<k+1->∀p,g.2.2.1[i]?=some p->emC r p)) (λnz hnz=>?_) (λs⟨more,r1,hs,hl1,ht,hf⟩=>?_)
  ·have keep:emC r1 p->(more=false->r1=r/\∀i,i<k+1->∀p,g.2.2.1[i]?=some p->emC r p):=λhe hmf=>by
    obtain⟨e1,e2⟩:=hf hmf;refine⟨e1,λi hi x hx=>?_⟩;by_cases hik:i<k
    ·exact e2 i hik x hx
    ·have:i=k:=by omega
     subst this;rw[egp]at hx;cases hx;rw[<- e1];exact he
   rw[hq];refine wac _ (zh hql) (wac _ (atN hql) ?_);refine wab (λc=>hnz _ ⟨more,r1,rfl,hl1,ht,keep λ_=>?_⟩) (λc=>?_)
   ·rw[hq,wew,wdy hql,c]
   ·have hqf:r1[q]?=some false:=by rw[wdy hql,c]
    refine Tt.loop (λm s=>∃i:Nat,i<=p.2.1.length/\m=p.2.1.length-i/\s=(p.2.1,(p.2.1.length:Int),(i:Int),r1,p)) p.2.1.length waa.fst.fst ⟨0,by omega,by omega,rfl⟩ λm3 s⟨i,hi,hm3,hs⟩ nw hnw=>?_;subst hs;dsimp only;refine wab (λc=>?_) (λc=>?_)
    ·have c:=wdz c;have hil:i<p.2.1.length:=by omega
     have hxm:p.2.1[i]∈p.2.1:=wec hil;refine wac _ (atN hil) (Tt.bind (Tt.call (jal g _ r1 hl1 (hit _ hxm)) waa.fst.fst.fst) λb hb=>?_);refine wab (λcb=>hnz.fst _ ⟨more,r1,rfl,hl1,ht,keep λhall=>?_⟩) (λ_=>wad ?_)
     ·have:=hb.2 (hall _ hxm);rw[this]at cb;cases cb
     ·rw[wI (by omega) (by omega)];exact hnw (p.2.1.length-(i+1)) _ (by omega) ⟨i+1,by omega,rfl,by simp⟩
    ·rw[hq];refine wac _ (zh hql) (wac _ (zit true hql) (hnz.fst _ ⟨true,_,rfl,by simpa using hl1,λ_=>?_,λh=>by cases h⟩));have:=zk3 hqf;cases hmo:more with
     |true=>have:=ht hmo;omega
     |false=>have:=(hf hmo).1;subst this;omega
  ·subst hs;dsimp only;refine wad ?_;rw[wI (by omega) (by omega)];exact hny (g.2.2.1.length-(k+1)) _ (by omega) ⟨k+1,more,r1,by omega,rfl,by simp,hl1,ht,hf⟩
 ·have c:=wd0 c;cases hmo:more with
  |true=>
   have:=ht hmo;exact Tt.fst (hnx (2*Yh r1+1) _ (by omega) ⟨true,r1,rfl,rfl,hl1,λh=>by cases h⟩)
  |false=>
   obtain⟨e1,e2⟩:=hf hmo;subst e1;exact Tt.fst (hnx (2*Yh r1) _ (by omega) ⟨false,r1,rfl,rfl,hl1,λ_ p hp=>by
    obtain⟨i,hi⟩:=we4 hp;exact e2 i (by have:=(wd1.1 hi).1;omega) p hi⟩)
theorem z66(N:Int):∀(l:List Int)(lo:Int),jx l->(∀x∈l,lo<=x/\x<N)->(l.length:Int)<=max 0 (N-lo)
 |[],lo,_,_=>by simp;omega
 |x::l,lo,hr,hb=>by
  have h1:=wfu.1 hr;have hx:=hb x (by simp);have:=z66 N l (x+1) h1.2 λy hy=>⟨by have:=h1.1 y hy;omega,(hb y (by simp[hy])).2⟩
  simp only[we7];omega
theorem z5a(l:List Int)(h:jx l)(N:Nat)(hb:∀x∈l,0<=x/\x<(N:Int)):l.length<=N:=by
 have:=z66 N l 0 h hb;omega
structure RN(n:Nat)(l:List Int):Prop where
 r:jx l
 b:∀x∈l,0<=x/\x<n
theorem RN.len{n:Nat}{l:List Int}(h:RN n l):l.length<=n:=z5a l h.r n h.b
theorem RN.nil(n:Nat):RN n []:=⟨by simp[jx],by simp⟩
def inF(em:List Bool)(al:List (List Int))(t:Int):List jm->Prop
 |[]=>False
 |x::l=>if x.1=true then t∈al.getD x.2.1.toNat []\/(em.getD x.2.1.toNat false=true/\inF em al t l)else t=x.2.1
theorem zdb{n:Nat}{a b:List Int}(hn:n<=1000)(ha:RN n a)(hb:RN n b):Tn (λnn=>Yb nn a b) (λr=>RN n r/\∀x,x∈r↔x∈a\/x∈b):=by
 have h1:=ha.len;have h2:=hb.len;refine Tt.mono (z7w a b (by omega):Tn (λnn=>Yb nn a b) _) λr⟨_,k2,k3⟩=>⟨⟨k3 ha.r hb.r,λx hx=>?_⟩,k2⟩
 rcases(k2 x).1 hx with h|h
 ·exact ha.b x h
 ·exact hb.b x h
theorem ja6(g:jb)(hok:GOk g)(em:List Bool)(al:List (List Int))(he:em.length=g.2.1.length)(ha:al.length=g.2.1.length)(hal:∀l∈al,RN g.1.length l)(its:List jm)(hl:its.length<=1000)(hit:∀x∈its,zj4 g x):
  Tn (λnn=>Qa nn (some (em,al,())) its) (λr=>RN g.1.length r/\∀t,t∈r↔inF em al t its):=by
 have ht:=hok.t;unfold Qa Yk;refine Tt.J (λr=>RN g.1.length r/\∀t,t∈r↔inF em al t its) (λnx2 h2=>?_) (λs hs=>Tt.pure hs);refine Tt.loop (λm s=>∃(k:Nat)(out:List Int),k<=its.length/\m=its.length-k/\s=(some (em,al,()),its,(its.length:Int),(k:Int),out)/\RN g.1.length out/\∀t,inF em al t its↔t∈out\/inF em al t (its.drop k)) its.length waa ⟨0,[],by omega,by omega,rfl,RN.nil _,λt=>by simp⟩ λm s⟨k,out,hk,hm,hs,hr,hin⟩ nx hnx=>?_;subst hs;dsimp only;refine wab (λc=>?_) (λc=>h2.fst _ ⟨hr,λt=>?_⟩)
 ·have c:=wdz c;have hlt:k<its.length:=by omega
  have hxm:its[k]∈its:=wec hlt;have hdr:its.drop k=its[k]::its.drop (k+1):=wet hlt;refine wac _ (atN hlt) ?_;obtain⟨x,ex⟩:∃x,its[k]=x:=⟨_,rfl⟩
  rw[ex]at hxm hdr⊢;rw[hdr]at hin;obtain⟨i1,i2⟩:=hit x hxm;refine wab (λcx=>?_) (λcx=>?_)
  ·have cx:x.1=false:=by simpa using cx
   rw[cx]at i2;simp only[we6,if_false]at i2;refine Tt.bind (Tt.call (zdb (n:=g.1.length) (by omega) hr ⟨by simp[jx],λy hy=>by simp at hy;subst hy;exact⟨i1,i2⟩⟩) waa.fst) λr⟨k1,k2⟩=>Tt.pure ⟨k1,λt=>?_⟩;rw[k2,hin];simp[inF,cx]
  ·have cx:x.1=true:=by simpa using cx
   rw[cx,if_pos rfl]at i2;have hla:x.2.1.toNat<al.length:=by omega
   have hle:x.2.1.toNat<em.length:=by omega
   refine wad (wac _ (zdj i1 (wdy hla)) ?_);refine Tt.bind (Tt.call (zdb (n:=g.1.length) (by omega) hr (hal _ (wec hla))) waa.fst) λr⟨k1,k2⟩=>?_;refine wad (wac _ (zdj i1 (wdy hle)) ?_);have e1:al.getD x.2.1.toNat []=al[x.2.1.toNat]:=by simp[List.getD,hla]
   have e2:em.getD x.2.1.toNat false=em[x.2.1.toNat]:=by simp[List.getD,hle]
   refine wab (λce=>h2.fst _ ⟨k1,λt=>?_⟩) (λce=>wad ?_)
   ·have ce:em[x.2.1.toNat]=false:=by simpa using ce
    rw[k2,hin];simp[inF,cx,List.getD,hla,hle,ce]
   ·have ce:em[x.2.1.toNat]=true:=by simpa using ce
    rw[wI (by omega) (by omega)];refine hnx (its.length-(k+1)) _ (by omega) ⟨k+1,r,by omega,rfl,by simp,k1,λt=>?_⟩;rw[hin,k2];simp[inF,cx,List.getD,hla,hle,ce,or_assoc]
 ·have c:=wd0 c;have hke:k=its.length:=by omega
  rw[hin,hke,wfg];simp[inF]
theorem zij:∀{a r:List Int},jx a->jx r->(∀x∈a,x∈r)->a.length<=r.length/\(r.length<=a.length->a=r)
 |[],r,_,_,_=>⟨by simp,λh=>by simp at h;simp[h]⟩
 |x::a,[],_,_,h=>by have:=h x (by simp);simp at this
 |x::a,y::r,ha,hr,h=>by
  have ha':=wfu.1 ha;have hr':=wfu.1 hr;by_cases e:x=y
  ·subst e;have hsub:∀z∈a,z∈r:=λz hz=>by
    rcases wek.1 (h z (by simp[hz]))with h1|h1
    ·have:=ha'.1 z hz;omega
    ·exact h1
   obtain⟨h1,h2⟩:=zij ha'.2 hr'.2 hsub;exact⟨by simp;omega,λhl=>by rw[h2 (by simpa using hl)]⟩
  ·have hx:x∈r:=by
    rcases wek.1 (h x (by simp))with h1|h1
    ·exact absurd h1 e
    ·exact h1
   have hyx:=hr'.1 x hx;have hsub:∀z∈x::a,z∈r:=λz hz=>by
    rcases wek.1 (h z hz)with h1|h1
    ·rcases wek.1 hz with h2|h2
     ·omega
     ·have:=ha'.1 z h2;omega
    ·exact h1
   obtain⟨h1,_⟩:=zij ha hr'.2 hsub;exact⟨by simp at h1⊢;omega,λhl=>by simp at h1 hl;omega⟩
termination_by a r=>r.length
def Z1(T:Nat):List (List Int)->Nat
 |[]=>0
 |l::r=>(T-l.length)+Z1 T r
theorem zld{T:Nat}:∀{al:List (List Int)}{k:Nat}{o n:List Int},al[k]?=some o->o.length<n.length->n.length<=T->Z1 T (al.set k n)<Z1 T al
 |[],k,o,n,h,_,_=>by simp at h
 |l::r,0,o,n,h,h1,h2=>by simp at h;subst h;simp[Z1];omega
 |l::r,k+1,o,n,h,h1,h2=>by
  have:=zld (al:=r) (k:=k) (by simpa using h) h1 h2;simp[Z1];omega
def fiC(em:List Bool)(al:List (List Int))(p:ji):Prop:=∀t,inF em al t p.2.1->t∈al.getD p.1.toNat []
theorem ja3(g:jb)(hg:Vf g)(hR:GR g)(hok:GOk g)(em:List Bool)(hE:Tn (λnn=>yb nn g) (λr=>r=em))(hel:em.length=g.2.1.length):
  Tn (λnn=>yp nn g) (λr=>∃al,r=some (em,al,())/\al.length=g.2.1.length/\(∀l∈al,RN g.1.length l)/\∀p∈g.2.2.1,fiC em al p):=by
 have hp:=hg.p;have ht:=hok.t;unfold yp;refine Tt.bind (Tt.call hR waa) λb hb=>?_;subst hb;refine waf rfl ?_;refine Tt.bind (Tt.call hE waa) λr hr=>?_;subst hr;refine wad (wac _ (mkN hg.r (by omega)) ?_);refine Tt.loop (λm s=>∃(more:Bool)(al:List (List Int)),m=2*Z1 g.1.length al+(if more=true then 1 else 0)/\s=(more,g,r,al)/\al.length=g.2.1.length/\(∀l∈al,RN g.1.length l)/\(more=false->∀p∈g.2.2.1,fiC r al p)) (2*Z1 g.1.length (List.replicate g.2.1.length [])+1) waa ⟨true,_,rfl,rfl,by simp,λl hl=>by rw[List.eq_of_mem_replicate hl];exact RN.nil _,λh=>by cases h⟩ λm s⟨more,al,hm,hs,hl,hrn,hcl⟩ nx hnx=>?_;subst hs;dsimp only;refine wab (λc=>?_) (λc=>Tt.pure ⟨al,rfl,hl,hrn,hcl c⟩);subst c;rw[if_pos rfl]at hm;refine Tt.loop (λm s=>∃(k:Nat)(more:Bool)(a1:List (List Int)),k<=g.2.2.1.length/\m=g.2.2.1.length-k/\s=(more,g.2.2.1,(g.2.2.1.length:Int),(k:Int),g,r,a1)/\a1.length=g.2.1.length/\(∀l∈a1,RN g.1.length l)/\(more=true->Z1 g.1.length a1<Z1 g.1.length al)/\(more=false->a1=al/\∀i,i<k->∀p,g.2.2.1[i]?=some p->fiC r al p)) g.2.2.1.length waa.fst ⟨0,false,al,by omega,by omega,rfl,hl,hrn,λh=>(by cases h),λ_=>⟨rfl,λi hi=>by omega⟩⟩ λm2 s⟨k,more,a1,hk,hm2,hs,hl1,hrn1,hmt,hmf⟩ ny hny=>?_;subst hs;dsimp only;refine wab (λc=>?_) (λc=>?_)
 ·have c:=wdz c;have hlt:k<g.2.2.1.length:=by omega
  have hmem:g.2.2.1[k]∈g.2.2.1:=wec hlt;refine wac _ (atN hlt) ?_;have egp:g.2.2.1[k]?=some g.2.2.1[k]:=wdy hlt;obtain⟨p,ep⟩:∃p,g.2.2.1[k]=p:=⟨_,rfl⟩
  rw[ep]at hmem egp⊢;obtain⟨l0,l1⟩:=hok.left p hmem;have hit:=hok.items p hmem;have hpl:=hok.len p hmem;obtain⟨q,hq⟩:∃q:Nat,p.1=q:=⟨p.1.toNat,by omega⟩
  have hql:q<a1.length:=by omega
  refine Tt.J (λs=>∃(more:Bool)(a1:List (List Int)),s=(more,g.2.2.1,(g.2.2.1.length:Int),(k:Int),g,r,a1)/\a1.length=g.2.1.length/\(∀l∈a1,RN g.1.length l)/\(more=true->Z1 g.1.length a1<Z1 g.1.length al)/\(more=false->a1=al/\∀i,i<k+1->∀p,g.2.2.1[i]?=some p->fiC r al p)) (λnz hnz=>?_) (λs⟨more,a1,hs,hl1,hrn1,hmt,hmf⟩=>?_)
  ·rw[hq];have hq1:RN g.1.length a1[q]:=hrn1 _ (wec hql);refine wac _ (zh hql) (wac _ (atN hql) ?_);refine Tt.bind (Tt.call (ja6 g hok r a1 hel hl1 hrn1 p.2.1 (by omega) hit) waa.fst.fst) λf⟨f1,f2⟩=>?_;refine Tt.bind (Tt.call (zdb (n:=g.1.length) (by omega) hq1 f1) waa.fst.fst) λu⟨u1,u2⟩=>?_;refine wac _ (zh hql) (wac _ (atN hql) (wac _ (zh hql) (wac _ (zit u hql) ?_)));have hrn2:∀l∈a1.set q u,RN g.1.length l:=λl h=>by
    rcases wgj h with h|h
    ·exact hrn1 l h
    ·rw[h];exact u1
   have hl2:(a1.set q u).length=g.2.1.length:=by rw[wf4];exact hl1
   obtain⟨s1,s2⟩:=zij hq1.r u1.r λx hx=>(u2 x).2 (.inl hx);refine wab (λc=>hnz _ ⟨true,_,rfl,hl2,hrn2,λ_=>?_,λh=>by cases h⟩) (λc=>?_)
   ·have c:=wdz c;have:=zld (T:=g.1.length) (al:=a1) (k:=q) (o:=a1[q]) (n:=u) (wdy hql) (by omega) u1.len;cases hmo:more with
    |true=>have:=hmt hmo;omega
    |false=>have:=(hmf hmo).1;subst this;omega
   ·have c:=wd0 c;have e:=s2 (by omega);have es:a1.set q u=a1:=by rw[<- e];exact List.set_getElem_self hql
    rw[es];refine hnz _ ⟨more,a1,rfl,hl1,hrn1,hmt,λhmo=>?_⟩;obtain⟨e1,e2⟩:=hmf hmo;refine⟨e1,λi hi x hx=>?_⟩;by_cases hik:i<k
    ·exact e2 i hik x hx
    ·have:i=k:=by omega
     subst this;rw[egp]at hx;cases hx;intro t htin;rw[hq,wew];have h1:t∈u:=(u2 t).2 (.inr ((f2 t).2 (e1▸htin)));rw[<- e]at h1;have:al.getD q []=a1[q]:=by rw[<- e1];simp[List.getD,hql]
     rw[this];exact h1
  ·subst hs;dsimp only;refine wad ?_;rw[wI (by omega) (by omega)];exact hny (g.2.2.1.length-(k+1)) _ (by omega) ⟨k+1,more,a1,by omega,rfl,by simp,hl1,hrn1,hmt,hmf⟩
 ·have c:=wd0 c;cases hmo:more with
  |true=>
   have:=hmt hmo;exact Tt.fst (hnx (2*Z1 g.1.length a1+1) _ (by omega) ⟨true,a1,rfl,rfl,hl1,hrn1,λh=>by cases h⟩)
  |false=>
   obtain⟨e1,e2⟩:=hmf hmo;subst e1;exact Tt.fst (hnx (2*Z1 g.1.length a1) _ (by omega) ⟨false,a1,rfl,rfl,hl1,hrn1,λ_ p hp=>by
    obtain⟨i,hi⟩:=we4 hp;exact e2 i (by have:=(wd1.1 hi).1;omega) p hi⟩)
theorem z82(g:jb)(hg:Vf g)(its:List jm)(hl:its.length<=1000000)(hit:∀x∈its,zj4 g x):Tn (λnn=>Jy nn g its) (λb=>b=true):=by
 have h1:=hg.t;have h2:=hg.r;unfold Jy;refine Tt.loop (λm s=>∃k:Nat,k<=its.length/\m=its.length-k/\s=(its,(its.length:Int),(k:Int),g)) its.length waa ⟨0,by omega,by omega,rfl⟩ λm s⟨k,hk,hm,hs⟩ nx hnx=>?_;subst hs;dsimp only;refine wab (λc=>?_) (λc=>Tt.pure rfl);have c:=wdz c;have hlt:k<its.length:=by omega
 have hxm:its[k]∈its:=wec hlt;refine wac _ (atN hlt) ?_;obtain⟨x,ex⟩:∃x,its[k]=x:=⟨_,rfl⟩
 rw[ex]at hxm⊢;obtain⟨i1,i2⟩:=hit x hxm;refine Tt.J (λs=>s=((if x.1=true then(g.2.1.length:Int)else g.1.length),its,(its.length:Int),(k:Int),g,x)) (λny hny=>?_) (λs hs=>?_)
 ·exact wab (λc=>hny _ (by rw[c];rfl)) (λc=>hny _ (by rw[c];rfl))
 ·subst hs;dsimp only;refine Tt.J (λs=>s=(its,(its.length:Int),(k:Int),false,g)) (λnz hnz=>?_) (λs hs=>?_)
  ·refine wad (waf (wem (by omega)) (hnz _ ?_));rw[wem (by omega)]
  ·subst hs;dsimp only;refine waf rfl (wad ?_);rw[wI (by omega) (by omega)];exact hnx (its.length-(k+1)) _ (by omega) ⟨k+1,by omega,rfl,by simp⟩
theorem z29(g:jb)(hg:Vf g)(hok:GOk g)(em:List Bool)(al:List (List Int))(hel:em.length=g.2.1.length)(hl:al.length=g.2.1.length)(hrn:∀l∈al,RN g.1.length l)(hK:Tn (λnn=>yp nn g) (λr=>r=some (em,al,())))
  (its:List jm) (hil:its.length<=1000) (hit:∀x∈its,zj4 g x):Tn (λnn=>zdq nn g its) (λr=>RN g.1.length r/\∀t,t∈r↔inF em al t its):=by
 unfold zdq zaw;refine Tt.bind (Tt.call hK waa) λr hr=>?_;subst hr;refine Tt.J (λs=>s=(its,some (em,al,()),false)) (λnx hnx=>?_) (λs hs=>?_)
 ·refine waf rfl (Tt.bind (Tt.call (z82 g hg its (by omega) hit) waa) λb hb=>?_);subst hb;exact hnx _ rfl
 ·subst hs;dsimp only;refine waf rfl (Tt.bind (Tt.call (ja6 g hok em al hel hl hrn its hil hit) waa) λr hr=>Tt.pure hr)
theorem jeo(g:jb)(hok:GOk g)(em:List Bool)(hE:Tn (λnn=>yb nn g) (λr=>r=em))(hel:em.length=g.2.1.length)(its:List jm)(hil:its.length<=1000)(hit:∀x∈its,zj4 g x):
  Tn (λnn=>Vm nn g its) (λb=>b=true↔∀x∈its,x.1=true/\em[x.2.1.toNat]?=some true):=by
 unfold Vm;refine Tt.bind (Tt.call hE waa) λr hr=>?_;subst hr;have hst:=hok.start;have hnil:jbx r=some false:=by
  cases r with
  |nil=>simp at hel;omega
  |cons a l=>rfl
 refine wac _ hnil (waf rfl ?_);refine Tt.loop (λm s=>∃k:Nat,k<=its.length/\m=its.length-k/\s=(r,its,(its.length:Int),(k:Int))/\∀i,i<k->∀x,its[i]?=some x->x.1=true/\r[x.2.1.toNat]?=some true) its.length waa ⟨0,by omega,by omega,rfl,λi hi=>by omega⟩ λm s⟨k,hk,hm,hs,hall⟩ nx hnx=>?_;subst hs;dsimp only;refine wab (λc=>?_) (λc=>Tt.pure ⟨λ_ x hx=>?_,λ_=>rfl⟩)
 ·have c:=wdz c;have hlt:k<its.length:=by omega
  have hxm:its[k]∈its:=wec hlt;refine wac _ (atN hlt) ?_;have egx:its[k]?=some its[k]:=wdy hlt;obtain⟨x,ex⟩:∃x,its[k]=x:=⟨_,rfl⟩
  rw[ex]at hxm egx⊢;obtain⟨i1,i2⟩:=hit x hxm;refine Tt.J (λs=>∃f,s=(r,its,(its.length:Int),(k:Int),f)/\(f=true->¬(x.1=true/\r[x.2.1.toNat]?=some true))/\(f=false->x.1=true/\r[x.2.1.toNat]?=some true)) (λny hny=>?_) (λs⟨f,hs,h1,h2⟩=>?_)
  ·refine wad (wab (λc=>hny _ ⟨true,rfl,λ_ h=>?_,λh=>by cases h⟩) (λc=>?_))
   ·rw[h.1]at c;cases c
   ·have cx:x.1=true:=by simpa using c
    rw[if_pos cx]at i2;have hle:x.2.1.toNat<r.length:=by omega
    refine waf (wem (by omega)) (waf (wem (by omega)) ?_);refine wac _ (zdj i1 (wdy hle)) (hny _ ⟨_,rfl,λh=>?_,λh=>?_⟩)
    ·rw[wdy hle];simp at h;simp[h]
    ·rw[wdy hle];simp at h;simp[h,cx]
  ·subst hs;dsimp only;refine wab (λcf=>Tt.pure ⟨λh=>(by cases h),λh=>absurd (h x hxm) (h1 cf)⟩) (λcf=>wad ?_);rw[wI (by omega) (by omega)];refine hnx (its.length-(k+1)) _ (by omega) ⟨k+1,by omega,rfl,by simp,λi hi y hy=>?_⟩;by_cases hik:i<k
   ·exact hall i hik y hy
   ·have:i=k:=by omega
    subst this;rw[egx]at hy;cases hy;exact h2 cf
 ·have c:=wd0 c;obtain⟨i,hi⟩:=we4 hx;exact hall i (by have:=(wd1.1 hi).1;omega) x hi
theorem zzx(g:jb)(hok:GOk g)(em:List Bool)(al:List (List Int))(hl:al.length=g.2.1.length)(hK:Tn (λnn=>yp nn g) (λr=>r=some (em,al,()))):
  Tn (λnn=>Qk nn g) (λr=>r=al):=by
 have hr:=hok.r;unfold Qk;refine Tt.bind (Tt.call hK waa) λr hr=>?_;subst hr;refine waf rfl (wad (wad ?_));dsimp only;refine wac _ (mkN (by omega) (by omega)) (wad ?_);refine wac _ rfl (Tt.pure ?_);simp
theorem jgq(g:jb)(hR:GR g):Tn (λnn=>Qp nn g) (λr=>r=g.1.length):=by
 unfold Qp;refine Tt.bind (Tt.call hR waa) λb hb=>?_;subst hb;exact waf rfl (Tt.pure rfl)
def reC(r:List Bool)(p:ji):Prop:=r[p.1.toNat]?=some true->∀x∈p.2.1,x.1=true->r[x.2.1.toNat]?=some true
theorem ja7{r:List Bool}{i q:Nat}(h:r[i]?=some true):(r.set q true)[i]?=some true:=by
 rw[we1];have:=(wd1.1 h).1;split
 ·rename_i e;subst e;simp[this]
 ·exact h
theorem z23(g:jb)(hg:Vf g)(hR:GR g)(hok:GOk g):Tn (λnn=>ve nn g) (λr=>r.length=g.2.1.length/\r[g.2.2.2.1.toNat]?=some true/\∀p∈g.2.2.1,reC r p):=by
 unfold ve;refine Tt.bind (Tt.call hR waa) λb hb=>?_;subst hb;refine waf rfl ?_;have hp:=hg.p;refine wad (wac _ (mkN hg.r (by omega)) ?_);obtain⟨st,hst⟩:∃st:Nat,g.2.2.2.1=st:=⟨g.2.2.2.1.toNat,by have:=hok.start;omega⟩
 have hs1:=hok.start.2;rw[hst];have hsl:st<(List.replicate g.2.1.length false).length:=by simp;omega
 refine wac _ (zh hsl) (wac _ (zit true hsl) ?_);rw[wew];refine Tt.loop (λm s=>∃(more:Bool)(r:List Bool),m=2*Yh r+(if more=true then 1 else 0)/\s=(g.2.2.1,more,r)/\r.length=g.2.1.length/\r[st]?=some true/\(more=false->∀p∈g.2.2.1,reC r p)) (2*Yh ((List.replicate g.2.1.length false).set st true)+1) waa ⟨true,_,rfl,rfl,by simp,by rw[we1];simp at hsl;simp[hsl],λh=>by cases h⟩ λm s⟨more,r,hm,hs,hl,hrs,hcl⟩ nx hnx=>?_;subst hs;dsimp only;refine wab (λc=>?_) (λc=>Tt.pure ⟨hl,hrs,hcl c⟩);subst c;rw[if_pos rfl]at hm;refine Tt.loop (λm s=>∃(k:Nat)(more:Bool)(r1:List Bool),k<=g.2.2.1.length/\m=g.2.2.1.length-k/\s=(g.2.2.1,more,g.2.2.1,(g.2.2.1.length:Int),(k:Int),r1)/\r1.length=g.2.1.length/\r1[st]?=some true/\(more=true->Yh r1<Yh r)/\(more=false->r1=r/\∀i,i<k->∀p,g.2.2.1[i]?=some p->reC r p)) g.2.2.1.length waa.fst ⟨0,false,r,by omega,by omega,rfl,hl,hrs,λh=>(by cases h),λ_=>⟨rfl,λi hi=>by omega⟩⟩ λm2 s⟨k,more,r1,hk,hm2,hs,hl1,hrs1,ht,hf⟩ ny hny=>?_;subst hs;dsimp only;refine wab (λc=>?_) (λc=>?_)
 ·have c:=wdz c;have hlt:k<g.2.2.1.length:=by omega
  have hmem:g.2.2.1[k]∈g.2.2.1:=wec hlt;refine wac _ (atN hlt) ?_;have egp:g.2.2.1[k]?=some g.2.2.1[k]:=wdy hlt;obtain⟨p,ep⟩:∃p,g.2.2.1[k]=p:=⟨_,rfl⟩
  rw[ep]at hmem egp⊢;obtain⟨l0,l1⟩:=hok.left p hmem;have hit:=hok.items p hmem;have hpl:=hok.len p hmem;obtain⟨q,hq⟩:∃q:Nat,p.1=q:=⟨p.1.toNat,by omega⟩
  refine Tt.J (λs=>∃(more:Bool)(r1:List Bool),s=(g.2.2.1,more,g.2.2.1,(g.2.2.1.length:Int),(k:Int),r1)/\r1.length=g.2.1.length/\r1[st]?=some true/\(more=true->Yh r1<Yh r)/\(more=false->r1=r/\∀i,i<k+1->∀p,g.2.2.1[i]?=some p->reC r p)) (λnz hnz=>?_) (λs⟨more,r1,hs,hl1,hrs1,ht,hf⟩=>?_)
  ·refine Tt.loop (λm s=>∃(i:Nat)(news:Bool)(r2:List Bool),i<=p.2.1.length/\m=p.2.1.length-i/\s=(news,p.2.1,(p.2.1.length:Int),(i:Int),r2,p)/\r2.length=g.2.1.length/\r2[st]?=some true/\(news=true->Yh r2<Yh r1)/\(news=false->r2=r1/\(r1[q]?=some true->∀j,j<i->∀x,p.2.1[j]?=some x->x.1=true->r1[x.2.1.toNat]?=some true))) p.2.1.length waa.fst.fst ⟨0,false,r1,by omega,by omega,rfl,hl1,hrs1,λh=>(by cases h),λ_=>⟨rfl,λ_ j hj=>by omega⟩⟩ λm3 s⟨i,news,r2,hi,hm3,hs,hl2,hrs2,ht2,hf2⟩ nw hnw=>?_;subst hs;dsimp only;have hql:q<r2.length:=by omega
   refine wab (λc=>?_) (λc=>?_)
   ·have c:=wdz c;have hil:i<p.2.1.length:=by omega
    have hxm:p.2.1[i]∈p.2.1:=wec hil;have egx:p.2.1[i]?=some p.2.1[i]:=wdy hil;refine Tt.J (λs=>∃(news:Bool)(r2:List Bool),s=(news,p.2.1,(p.2.1.length:Int),(i:Int),r2,p)/\r2.length=g.2.1.length/\r2[st]?=some true/\(news=true->Yh r2<Yh r1)/\(news=false->r2=r1/\(r1[q]?=some true->∀j,j<i+1->∀x,p.2.1[j]?=some x->x.1=true->r1[x.2.1.toNat]?=some true))) (λnv hnv=>?_) (λs⟨news,r2,hs,hl2,hrs2,ht2,hf2⟩=>?_)
    ·refine wac _ (atN hil) ?_;obtain⟨x,ex⟩:∃x,p.2.1[i]=x:=⟨_,rfl⟩
     rw[ex]at hxm egx⊢;obtain⟨i1,i2⟩:=hit x hxm;have keep:(r2[q]?=some true->x.1=true->r2[x.2.1.toNat]?=some true)->(news=false->r2=r1/\(r1[q]?=some true->∀j,j<i+1->∀x,p.2.1[j]?=some x->x.1=true->r1[x.2.1.toNat]?=some true)):=λhe hnf=>by
      obtain⟨e1,e2⟩:=hf2 hnf;refine⟨e1,λhrq j hj y hy hy1=>?_⟩;by_cases hji:j<i
      ·exact e2 hrq j hji y hy hy1
      ·have:j=i:=by omega
       subst this;rw[egx]at hy;cases hy;rw[<- e1]at hrq⊢;exact he hrq hy1
     refine Tt.J (λs=>∃b:Bool,s=(news,p.2.1,(p.2.1.length:Int),(i:Int),b,r2,p,x)/\(b=true->x.1=true/\r2[x.2.1.toNat]?=some false)/\(b=false->r2[q]?=some true->x.1=true->r2[x.2.1.toNat]?=some true)) (λnu hnu=>?_) (λs⟨b,hs,hb1,hb2⟩=>?_)
     ·rw[hq];refine wac _ (zh hql) (wac _ (atN hql) ?_);refine wab (λc=>?_) (λc=>hnu _ ⟨false,rfl,λh=>(by cases h),λ_ h=>?_⟩)
      ·refine wab (λcx=>?_) (λcx=>hnu _ ⟨false,rfl,λh=>(by cases h),λ_ _ h=>?_⟩)
       ·rw[if_pos cx]at i2;obtain⟨z,hz⟩:∃z:Nat,x.2.1=z:=⟨x.2.1.toNat,by omega⟩
        have hzl:z<r2.length:=by omega
        rw[hz];refine wac _ (zh hzl) (wac _ (atN hzl) (hnu _ ⟨_,rfl,λh=>⟨cx,?_⟩,λh _ _=>?_⟩))
        ·rw[hz,wew,wdy hzl];simp at h;rw[h]
        ·rw[hz,wew,wdy hzl];simp at h;rw[h]
       ·rw[cx]at h;cases h
      ·rw[wdy hql,c]at h;cases h
     ·subst hs;dsimp only;refine wab (λcb=>?_) (λcb=>hnv _ ⟨news,r2,rfl,hl2,hrs2,ht2,keep (hb2 cb)⟩);obtain⟨b1,b2⟩:=hb1 cb;obtain⟨z,hz⟩:∃z:Nat,x.2.1=z:=⟨x.2.1.toNat,by omega⟩
      rw[hz,wew]at b2;have hzl:=(wd1.1 b2).1;rw[hz];refine wac _ (zh hzl) (wac _ (zit true hzl) (hnv _ ⟨true,_,rfl,by simpa using hl2,ja7 hrs2,λ_=>?_,λh=>by cases h⟩));have:=zk3 b2;cases hno:news with
      |true=>have:=ht2 hno;omega
      |false=>have:=(hf2 hno).1;subst this;omega
    ·subst hs;dsimp only;refine wad ?_;rw[wI (by omega) (by omega)];exact hnw (p.2.1.length-(i+1)) _ (by omega) ⟨i+1,news,r2,by omega,rfl,by simp,hl2,hrs2,ht2,hf2⟩
   ·have c:=wd0 c;refine wab (λcn=>hnz.fst _ ⟨true,r2,rfl,hl2,hrs2,λ_=>?_,λh=>by cases h⟩) (λcn=>?_)
    ·have:=ht2 cn;cases hmo:more with
     |true=>have:=ht hmo;omega
     |false=>have:=(hf hmo).1;subst this;omega
    ·obtain⟨e1,e2⟩:=hf2 cn;subst e1;refine hnz.fst _ ⟨more,r2,rfl,hl2,hrs2,ht,λhmf=>?_⟩;obtain⟨e3,e4⟩:=hf hmf;refine⟨e3,λj hj y hy=>?_⟩;by_cases hjk:j<k
     ·exact e4 j hjk y hy
     ·have:j=k:=by omega
      subst this;rw[egp]at hy;cases hy;intro hrq x hx hx1;obtain⟨u,hu⟩:=we4 hx;rw[hq,wew]at hrq;rw[<- e3]at hrq⊢;exact e2 hrq u (by have:=(wd1.1 hu).1;omega) x hu hx1
  ·subst hs;dsimp only;refine wad ?_;rw[wI (by omega) (by omega)];exact hny (g.2.2.1.length-(k+1)) _ (by omega) ⟨k+1,more,r1,by omega,rfl,by simp,hl1,hrs1,ht,hf⟩
 ·have c:=wd0 c;cases hmo:more with
  |true=>
   have:=ht hmo;exact Tt.fst (hnx (2*Yh r1+1) _ (by omega) ⟨true,r1,rfl,rfl,hl1,hrs1,λh=>by cases h⟩)
  |false=>
   obtain⟨e1,e2⟩:=hf hmo;subst e1;exact Tt.fst (hnx (2*Yh r1) _ (by omega) ⟨false,r1,rfl,rfl,hl1,hrs1,λ_ p hp=>by
    obtain⟨i,hi⟩:=we4 hp;exact e2 i (by have:=(wd1.1 hi).1;omega) p hi⟩)
end Go.Proofs.YtdllbdlnmjngcaaGreat.T
