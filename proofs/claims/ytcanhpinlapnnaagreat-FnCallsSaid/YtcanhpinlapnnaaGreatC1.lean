/- What the proof of FnCallsSaid rests on (part 1). -/
import Derived.Test.YtcanhpinlapnnaaGreatC0
set_option linter.all false
namespace Go.Proofs.YtcanhpinlapnnaaGreat.Am
open Go Go.RowKit
def Ee{α:Type}(o:Option α)(K:α→Prop):Prop:=∃v,o=some v∧K v
def vc(o:Option (Value×Ao))(K:Value→Ao→Prop):Prop:=∃v h,o=some (v,h)∧K v h
def Br(t:Bool)(A B:Prop):Prop:=(t=true→A)∧(t=false→B)
def J7{α:Type}(x:Option α)(K:α→Prop):Prop:=match x with|some v=>K v|none=>False
theorem kN{α:Type}{x:Option α}{K:α→Prop}(h:J7 x K):∃v,x=some v∧K v:=by cases x with|none=>exact h.elim|some v=>exact⟨v,rfl,h⟩
section
variable(P:Program)(H:Nat→Option (List Nat))(C:Bu)
def Ex.leave(id:Nat):Ex→Ex|.exit i=>bif Nat.beq i id then .normal else .exit i|x=>x
def Vk:Code→Bool|.region _ ops d=>(match d with|true=>Ur ops.toList (Region.before ops.toList.toArray).toList|false=>true)|.seq a b=>Vk a&&Vk b|.cond _ a b=>Vk a&&Vk b|.block _ c|.loop c|.scope c=>Vk c|_=>true
def TP(fn:Func):Bool:=decide (fn.name≠"runtime.NumGoroutine")&&match fn.body.map Is with|some c=>(Zx c).all (·<fn.ntmps)&&Vk c|none=>false
end
section
variable{P:Program}{H:Nat→Option (List Nat)}{C:Bu}
theorem YM(id:Nat)(x:Ex):x.leave id=if x=.exit id then .normal else x:=by cases x with|exit i=>show(bif Nat.beq i id then Ex.normal else .exit i)=_;simp_all|normal=>rfl|ret=>rfl
end
section
variable{P:Program}{H:gJ}{X:FuncId→Option (List Value→Ao→Option (Value×Ao))}
end
theorem vc.mono{o:Option (Value×Ao)}{K K':Value→Ao→Prop}(r:vc o K)(h:∀v h,K v h→K' v h):vc o K':=by obtain⟨v,h1,e,k⟩:=r;exact⟨v,h1,e,h v h1 k⟩
theorem fA{n:Int}(h0:-9223372036854775808≤n)(h1:n<9223372036854775808):IntKind.i64.wrap n=n:=by(have e:IntKind.i64.wrap n=if n%18446744073709551616≥9223372036854775808 then n%18446744073709551616-18446744073709551616 else n%18446744073709551616:=by simp [IntKind.wrap,IntKind.signed,IntKind.bits]);grind
section
variable{P:Program}
end
theorem wX(h:Ao)(x:jM):(h.push x).get h.next=x:=by simp [Ao.push]
theorem FT{h:Ao}{x:jM}{b:Nat}(hb:b<h.next):(h.push x).get b=h.get b:=by show(if b=h.next then x else h.get b)=_;grind
theorem Ph(h:Ao)(x:jM):(h.push x).next=h.next+1:=rfl
theorem Hv(h:Ao)(b:Nat)(x:jM):(h.set b x).get b=x:=by simp [Ao.set]
theorem Wk{h:Ao}{b c:Nat}{x:jM}(hb:c≠b):(h.set b x).get c=h.get c:=by show(if c=b then x else h.get c)=_;grind
section
variable{P:Program}{α:Type}{n:Nat}{R:Ao→List Value→α→Prop}{h:Ao}{v:Value}{l:List α}{t e:TypeId}
end
theorem iO:∀(vs cs:List Value)(i:Nat),i+vs.length≤cs.length→Dj cs i vs=cs.take i++vs++cs.drop (i+vs.length)|[],cs,i,_=>by simp [Dj]|v::vs,cs,i,h=>by simp only [Bv]at h;unfold Dj;rw[iO vs (cs.set i v) (i+1) (by grind)];(have e1:(cs.set i v).take (i+1)=cs.take i++[v]:=by rw[List.take_add_one,List.take_set_of_le (Ah i)];grind);(have e2:(cs.set i v).drop (i+1+vs.length)=cs.drop (i+(v::vs).length):=by rw[List.drop_set_of_lt (by omega)];simp only [Bv];congr 1;omega);rw[e1,e2];simp
section
variable{α:Type}{f:α→List Value}{n:Nat}
theorem FU(m:Nat)(z:List Value):(reps m z).length=m*z.length:=by simp_all[reps,List.length_flatten]
end
theorem Wl{h:Ao}{b i s:Nat}{g:Bool}{cs vs:List Value}(e:h.get b=.cells cs s g false)(hi:i+vs.length≤cs.length)(hv:vs.all isOne=true):Ji h b i vs=some (h.set b (.cells (Dj cs i vs) s g false)):=by simp_all[Ji,e,Bq,if_false,Al,hi,hv]
section
variable(P:Program)
def Tf(gl:Nat→Option (Nat×List Value))(bs:List (RB×Option (List Value))):Ren:=fun n=>if n<P.globals.size then(match gl n with|some (s,cs)=>some ⟨n,0,cs.length,s,cs.length,false⟩|none=>some ⟨n,0,0,0,0,false⟩)else(bs[n-P.globals.size]?).map (·.1)
def Qp(gl:Nat→Option (Nat×List Value))(bs:List (RB×Option (List Value))):Ao:={next:=P.globals.size+bs.length,get:=fun n=>if n<P.globals.size then(match gl n with|some (s,cs)=>.cells cs s false true|none=>.dead)else match bs[n-P.globals.size]? with|some (x,some cs)=>.cells cs x.Rq false true|_=>.dead}
structure qW(W:World)(gl:Nat→Option (Nat×List Value))(bs:List (RB×Option (List Value))):Prop where
 each:∀(i:Nat)x cs,bs[i]? =some (x,some cs)→x.len=cs.length∧x.grow=false∧x.o+x.len≤x.sz∧∃Cs ty fz,W.heap[x.c]? =some (.cells Cs ty fz)∧Cs.size=x.sz∧∀j v,cs[j]? =some v→∃v',Cs[x.o+j]? =some v'∧RV (Tf P gl bs) v v'
 Uk:∀(g s:Nat)cs,g<P.globals.size→gl g=some (s,cs)→∃Cs ty fz,W.heap[g]? =some (.cells Cs ty fz)∧Cs.size=cs.length∧∀(j:Nat)v,cs[j]? =some v→∃v',Cs[j]? =some v'∧RV (Tf P gl bs) v v'
end
section
variable{P:Program}{W:World}{gl:Nat→Option (Nat×List Value)}{bs:List (RB×Option (List Value))}
theorem fB{i:Nat}{x:RB}{cs:Option (List Value)}(h:bs[i]? =some (x,cs)):Tf P gl bs (P.globals.size+i)=some x:=by unfold Tf;rw[Ak (by omega),Fz,h];rfl
theorem yB{i:Nat}{x:RB}{cs:List Value}(h:bs[i]? =some (x,some cs)):(Qp P gl bs).get (P.globals.size+i)=.cells cs x.Rq false true:=by show(if P.globals.size+i<P.globals.size then _ else _)=_;grind
theorem oW{g s:Nat}{cs:List Value}(hg:g<P.globals.size)(h:gl g=some (s,cs)):Tf P gl bs g=some ⟨g,0,cs.length,s,cs.length,false⟩:=by unfold Tf;grind
theorem FV{g s:Nat}{cs:List Value}(hg:g<P.globals.size)(h:gl g=some (s,cs)):(Qp P gl bs).get g=.cells cs s false true:=by show(if g<P.globals.size then _ else _)=_;grind
theorem Rb{n:Nat}(h:((Qp P gl bs).get n).live=true):(∃i x cs,n=P.globals.size+i∧bs[i]? =some (x,some cs)∧(Qp P gl bs).get n=.cells cs x.Rq false true)∨∃s cs,n<P.globals.size∧gl n=some (s,cs)∧(Qp P gl bs).get n=.cells cs s false true:=by by_cases hn:n<P.globals.size;(cases hg:gl n with|some p=>exact .inr ⟨p.1,p.2,hn,rfl,FV hn hg⟩|none=>exfalso;(have:(Qp P gl bs).get n=.dead:=by show(if n<P.globals.size then _ else _)=_;grind);rw[this]at h;cases h);(have e:(Qp P gl bs).get n=(match bs[n-P.globals.size]? with|some (x,some cs)=>.cells cs x.Rq false true|_=>.dead):=by show(if n<P.globals.size then _ else _)=_;grind);rw[e]at h⊢;split at h;rename_i x cs hb;exact .inl ⟨n-P.globals.size,x,cs,by omega,hb,rfl⟩;cases h
theorem YN(s:qW P W gl bs):RH P W.heap.size (Tf P gl bs) (Qp P gl bs) W where Jg:=Ah _;IN:=(fun b x hb=>by unfold Tf at hb;show b<P.globals.size+bs.length;grind);NT:=(fun b hb hl=>by rcases Rb hl with⟨i,x,cs,rfl,h1,h2⟩|⟨s,cs,h0,h1,h2⟩;exact⟨x,fB h1⟩;exact⟨_,oW h0 h1⟩);cells:=(fun b x cs Rq g ro hx hc=>by rcases Rb (P:=P) (gl:=gl) (bs:=bs) (n:=b) (by rw[hc];rfl)with⟨i,x',Lu,rfl,h1,h2⟩|⟨s',Lu,h0,h1,h2⟩;rw[fB h1]at hx;cases hx;rw[h2]at hc;cases hc;obtain⟨e1,e2,e3,Cs,ty,fz,e4,e5,e6⟩:=s.each i _ _ h1;exact⟨rfl,e1,e2,e3,Cs,ty,fz,e4,e5,e6,fun h=>by cases h⟩;rw[oW h0 h1]at hx;cases hx;rw[h2]at hc;cases hc;obtain⟨Cs,ty,fz,e4,e5,e6⟩:=s.Uk b _ _ h0 h1;grind);maps:=(fun b x es hx hc=>by rcases Rb (P:=P) (gl:=gl) (bs:=bs) (n:=b) (by rw[hc];rfl)with⟨i,x',Lu,rfl,h1,h2⟩|⟨s',Lu,h0,h1,h2⟩<;>(rw[h2]at hc;cases hc));sep:=(fun b b' x x' _ _ _ hl _ hw=>by rcases Rb hl with⟨i,x',Lu,rfl,h1,h2⟩|⟨s',Lu,h0,h1,h2⟩<;>(rw[h2]at hw;cases hw));Uk:=fun g hg=>by unfold Tf;rw[Al hg];split;exact⟨_,rfl,rfl,rfl,rfl⟩;grind
theorem TQ{H:gJ}{X:FuncId→Option (List Value→Ao→Option (Value×Ao))}(hX:AX P X)(hm:P.follows .mixedOrders=true){f:FuncId}{args:List Value}{Jp:Array Value}(s:qW P W gl bs)(ha:RL (Tf P gl bs) args Jp.toList)(k:vc (call P H X f args (Qp P gl bs)) fun v _=>v=.bool true):Calls P f Jp W fun e w'=>e=.returned (.bool true)∧Below W.heap.size W w':=by obtain⟨v,h',e,rfl⟩:=k;refine((YG hX hm f args _ _ h' e).2 W.heap.size _ W Jp ha (YN s)).mono ?_;rintro e w'⟨r',v',rfl,hv,st⟩;cases hv;exact⟨rfl,st.below⟩
end
inductive D where|v(x:Value)|agg(ds:List D)|xO(ds:List D)|sl(z len:Nat)(ds:List D)|slw(z len:Nat)(ds:List D)|rp(ds:List D)(i:Nat)|fn(f:Nat)(xs ys:List D)
inductive LV where|d(o:Bool)(x:D)|ref(k i:Nat)|full(k len:Nat)|emp(z:Nat)|cl(x:D)|cf(f:Nat)(xs ys:List D)
inductive Ct where|cells(ls:List LV)|Ba(ds:List D)
inductive bA where|rw|ro|shared|dead
structure Bx where
 z:Nat
 ct:Ct
 st:bA
abbrev gE:=Option (Nat×Bool×Bool)
abbrev Ea:=gE×LV
abbrev Wm:=Nat→Option Ea
inductive PK where|val|sl(z:Nat)|Bs(n:Nat)
abbrev wD:=Nat→List PK
inductive ve where|val(x:D)|Bs(ds:List D)
abbrev Ed:=Nat→List ve→D→List (List D)→Prop
abbrev D.int(n:Int):D:=.v (.int .i64 n)
abbrev D.bool(b:Bool):D:=.v (.bool b)
abbrev D.str(s:List UInt8):D:=.v (.string ⟨s.toArray⟩)
abbrev D.undef:D:=.xO []
def TS:List D→Option (List Value)|[]=>some []|.v x::r=>(TS r).map (x::·)|_::_=>none
def zx:D→Option Value|.v x=>some x|.agg ds=>(TS ds).map fun l=>.agg l.toArray|_=>none
section
variable(P:Program)
def Gy(op:BinOp)(t:TypeId)(x y:D):Option D:=match zx x,zx y with|some a,some b=>(Wf P op t a b).map .v|none,some (.pointer none)=>(match x,P.underlying t,op with|.rp _ _,some (.pointer _),.eql=>some (.bool false)|.rp _ _,some (.pointer _),.neq=>some (.bool true)|_,_,_=>none)|_,_=>none
def xQ(op:UnOp)(x:D):Option D:=match x with|.v a=>(J6 op a).map .v|_=>none
def J8:List D→Option (List UInt8)|[]=>some []|.v (.int .u8 n)::r=>(J8 r).map (UInt8.ofNat n.toNat::·)|_=>none
def kO(src dst:TypeId)(x:D):Option D:=match P.underlying src,P.underlying dst,x with|some _,some (.int k),.v (.int _ n)=>some (.v (.int k (k.wrap n)))|some _,some .string,.v (.string s)=>some (.v (.string s))|some (.slice e),some .string,.sl z len ds=>if SZ P e then(if z=1∧ds.length=len then(J8 ds).map fun l=>.str l else none)else none|_,_,_=>none
def qI(t:TypeId)(x:D):Option D:=match P.underlying t,x with|some .string,.v (.string s)=>some (.int s.size)|some (.slice _),.sl _ n _=>some (.int n)|some (.slice _),.slw _ n _=>some (.int n)|_,_=>none
def my(ds:List D)(i n:Nat):Option (List D):=if i+n≤ds.length then some ((ds.drop i).take n)else none
def Ze(t:TypeId)(ds:List D)(off:Nat):Option D:=match Ko P t with|some true=>(my ds off (sz P t)).map .agg|some false=>ds[off]? |none=>none
def Gg(t:TypeId)(x:D):Option D:=match x with|.rp ds i=>Ze P t ds i|_=>none
def sQ(s:TypeId)(f:Nat):Option Nat:=match P.underlying s with|some (.struct fs)=>(fs[f]?).bind fun fd=>if sz P fd.type=0 then none else some fd.offset|_=>none
def Dx(s:TypeId)(x:D)(f:Nat):Option D:=match x with|.rp ds i=>(sQ P s f).map fun o=>.rp ds (i+o)|_=>none
def KW(s:TypeId)(x:D)(f:Nat):Option D:=match x with|.agg ds=>(match P.underlying s with|some (.struct fs)=>(fs[f]?).bind fun fd=>Ze P fd.type ds fd.offset|_=>none)|_=>none
def Ks(t:TypeId)(x i:D):Option D:=match i with|.v (.int _ n)=>(match P.underlying t,x with|some (.slice e),.sl z len ds=>if(P.info? e).isSome∧z=sz P e∧0≤n∧n<len then some (.rp ds (n.toNat*z))else none|some (.slice e),.slw z len ds=>if(P.info? e).isSome∧z=sz P e∧0≤n∧n<len then some (.rp ds (n.toNat*z))else none|some (.array len e),.rp ds o=>if(P.info? e).isSome∧0≤n∧n<len then some (.rp ds (o+n.toNat*sz P e))else none|_,_=>none)|_=>none
def Ym(t:TypeId)(x i:D):Option D:=match i with|.v (.int _ n)=>(match P.underlying t,x with|some (.array len e),.agg ds=>if(P.info? e).isSome∧0≤n∧n<len then Ze P e ds (n.toNat*sz P e)else none|some .string,.v (.string s)=>if 0≤n then(s[n.toNat]?).map fun b=>.v (.int .u8 b.toNat)else none|_,_=>none)|_=>none
def sR(x:D)(i:Nat):Option D:=match x with|.xO ds=>ds[i]? |_=>none
def Qq(NI:Nat):Option D→Option Nat|none=>some NI|some (.v (.int _ n))=>if 0≤n then some n.toNat else none|_=>none
def nA(t:TypeId)(x:D)(lo hi:Option D):Option D:=match P.underlying t,x with|some .string,.v (.string s)=>(Qq 0 lo).bind fun l=>(Qq s.size hi).bind fun r=>if l≤r∧r≤s.size then some (.v (.string (s.extract l r)))else none|some (.slice e),.sl z len ds=>(Qq 0 lo).bind fun l=>(Qq len hi).bind fun r=>if(P.info? e).isSome∧z=sz P e∧l≤r∧r≤len∧ds.length=len*z then some (.sl z (r-l) ((ds.drop (l*z)).take ((r-l)*z)))else none|_,_=>none
def sU(t:TypeId):Bool:=match P.underlying t with|some (.struct fs)=>fs.toList.all fun f=>(P.info? f.type).isSome|_=>false
def Uu(e:TypeId)(x:D):Option (Nat×List D):=match x with|.sl z len ds=>if z=sz P e∧ds.length=len*z then some (len,ds)else none|_=>none
def gN(e:TypeId)(m:Nat):Bool:=decide (m*cK P e≤70368744177664)&&decide (m≤70368744177664)
def Oq(e:TypeId)(len:Nat)(ds:List D)(s:Option (Nat×List D)):Option (Nat×List D):=s.bind fun(n,new)=>if gN P e (len+n)then some (len+n,ds++new)else none
def Mc(t:TypeId)(x:D):Option (List D):=match Ko P t with|some true=>(match x with|.agg ds=>if ds.length=sz P t then some ds else none|_=>none)|some false=>(match x with|.agg _|.xO _=>none|x=>if sz P t=1 then some [x]else none)|none=>none
def YO(t:TypeId):List D→Option (List D)|[]=>some []|x::r=>(Mc P t x).bind fun c=>(YO t r).map fun l=>c++l
def Nk(x:D):Option D:=match x with|.agg _|.xO _=>none|x=>some x
def OV(z:TypeId→Option (List (Option Nat))):List Field→Option (List (Option Nat))|[]=>some []|f::r=>(z f.type).bind fun a=>(OV z r).map fun b=>a++b
def KX:Nat→TypeId→Option (List (Option Nat))|0,_=>none|n+1,t=>match P.underlying t with|some (.struct fs)=>OV (KX n) fs.toList|some (.array m e)=>(KX n e).map fun l=>(List.replicate m l).flatten|some (.slice e)=>some [some (sz P e)]|some _=>some [none]|none=>none
def KY:List Value→List (Option Nat)→Option (List LV)|[],[]=>some []|v::vs,k::ks=>(match v,k with|.slice none 0 0,some z=>some (LV.emp z)|v,none=>if Lk 3 v then(if isOne v then some (.d true (.v v))else none)else none|_,_=>none).bind fun a=>(KY vs ks).map (a::·)|_,_=>none
def OW(t:TypeId):Option (List LV):=(Kp P t).bind fun vs=>(KX P 4 t).bind fun ks=>KY vs ks
def iP:List LV→Option (List D)|[]=>some []|.d _ x::r=>(iP r).map (x::·)|.emp z::r=>(iP r).map (.sl z 0 []::·)|_=>none
def cU(t:TypeId):Option (List D):=(OW P t).bind iP
def JF(e:TypeId):Bool:=match Kp P e with|some z=>Nat.beq z.length (sz P e)|none=>false
end
inductive Sk where|fail|RX(x:D)(ds:List D)(bx:List Bx)|ok(x:LV)(bx:List Bx)|opt(one:Bool)(o:Option D)(bx:List Bx)|one(o:Option D)(f:D→LV×List Bx)|cells(n:Nat)(o:Option (List D))(f:List D→LV×List Bx)|Ba(o:Option (Nat×List D))(f:Nat→List D→LV×List Bx)|place(o:Option Nat)(f:Nat→LV)(bx:List Bx)|put(o:Option (List D))(f:List D→List Bx)|call(f:Nat)(args:List ve)(objs:List (Nat×Nat))(bx:List Bx)
section
variable(P:Program)(J:wD)
def Kt:Op→List Operand|.move x|.assign x|.nilCheck x|.unOp _ _ x|.convert _ _ x|.makeInterface _ x|.fieldAddr _ x _|.field _ x _|.extract x _|.box _ x|.load _ x=>[x]|.pick c a b=>[c,a,b]|.build _ ps=>ps.toList.map (·.2)|.buildSlice _ _ ps=>ps.toList.map (·.2)|.store _ a x=>[a,x]|.binOp _ _ x y _=>[x,y]|.makeFunc _ xs ys=>xs.toList++ys.toList|.makeSlice _ l c=>[l,c]|.slice _ x lo hi mx=>x::(lo.toList++hi.toList++mx.toList)|.indexAddr _ x i|.index _ x i=>[x,i]|.call {callee:=.value f,args,.. }=>f::args.toList|.call {args,.. }=>args.toList|_=>[]
def Nl(n:Nat):List Nat→Bool|[]=>false|x::r=>Nat.beq n x||Nl n r
def Ua(c a b:D):Option D:=match c with|.v (.bool t)=>some (bif t then a else b)|_=>none
def KZ:Operand→Operand→Bool|.tmp a,.tmp b=>Nat.beq a b|.const (.int .i64 m),.const (.int .i64 n)=>m==n|_,_=>false
def OX(t:TypeId):Bool:=match P.underlying t with|some (.array _ _)=>true|_=>false
def qJ(t:TypeId):Bool:=match P.underlying t with|some (.slice _)=>true|_=>false
def V0(ds:List D)(i:Nat):List D→List D|[]=>ds|x::r=>V0 (ds.set i x) (i+1) r
def T9(e:TypeId)(zs:List D)(n:D):Option (Nat×List D):=match n with|.v (.int .i64 n)=>if 0≤n∧n*cK P e≤70368744177664∧n≤70368744177664 then some (n.toNat,(List.replicate n.toNat zs).flatten)else none|_=>none
def Sm(t:TypeId)(n:Nat)(ps:List (Nat×D)):Option (Nat×List D):=(Me P t).bind fun e=>if JF P e=true∧ps.map (·.1)=List.range n∧0<sz P e∧n*sz P e≤65536 then(YO P e (ps.map (·.2))).map fun l=>(n,l)else none
def Gz(x:D):Option D:=match x with|.rp ds i=>some (.rp ds i)|.fn f xs ys=>some (.fn f xs ys)|_=>none
def fC(mx:Bool)(xs:List D):Option D:=(TS xs).bind fun l=>(Kh mx l).map .v
def LB(t:TypeId):Bool:=match Ko P t with|some false=>true|_=>false
def Rv(t:TypeId)(i:Nat):Option (Nat×TypeId):=match P.underlying t with|some (.struct fs)=>(fs[i]?).map fun f=>(f.offset,f.type)|_=>none
def BA(t:TypeId)(i:Nat):TypeId:=match Rv P t i with|some (_,e)=>e|none=>0
def Ny(t:TypeId):List D→List (Nat×D)→Option (List D)|cs,[]=>some cs|cs,(i,x)::r=>match Rv P t i with|none=>none|some (off,e)=>(Mc P e x).bind fun c=>if off+c.length≤cs.length then Ny t (V0 cs off c) r else none
def I8:Nat→(List D→Prop)→Prop|0,K=>K []|n+1,K=>∃d,I8 n fun l=>K (d::l)
def YP(S:Ed)(x:D)(ds:List D)(K:D→Prop):Prop:=∃g xs ys d,x=.fn g xs ys∧S g ((xs++ds++ys).map .val) d []∧K d
def K9(x:D)(K:Bool→Prop):Prop:=∃t,x=.v (.bool t)∧K t
def Dy(x:D)(w:Bool):Bool:=match x with|.v (.bool b)=>b==w|_=>false
def Vl(x:D):Bool:=match x with|.v (.bool b)=>b|_=>false
def sV(G:gE)(c:gE)(K:Prop):Prop:=match c with|none=>K|some (_,_,b)=>(match G with|none=>b=true∧K|some (_,_,g)=>(g=true→b=true)∧K)
def yC(G:gE)(b:Bool)(x:D)(a:gE)(K:Prop):Prop:=match a with|none=>K|some (_,_,t)=>(match G with|none=>(Vl x=b→t=true)∧K|some (_,_,g)=>(g=true→Vl x=b→t=true)∧K)
def sW(G:gE)(x:D)(a b:gE)(K:Prop):Prop:=yC G true x a (yC G false x b K)
def TU(k:Option Nat)(eff:List Nat):Bool:=match k with|some k=>Nl k eff|none=>false
end
inductive KK where|d(o:Bool)|s(z:Nat)|r|f
structure LH where
 kinds:List KK
 boxes:List Nat
abbrev sX:=Nat→LH
section
variable(P:Program)(J:wD)(H:Nat→Option (List Nat))(PH:sX)(S:Ed)
end
def bA.priv:bA→Bool|.rw|.ro=>true|_=>false
def Pv(O:Nat→Prop)(bx:List Bx)(ρ:Nat→Option Nat)(n:Nat):Prop:=O n∨∃k b,bx[k]? =some b∧b.st.priv=true∧ρ k=some n
inductive RD(h:Ao)(p:Nat→Prop):D→Value→Prop|v(x:Value):Lk 3 x=true→isOne x=true→RD h p (.v x) x|agg(ds:List D)(vs:List Value):ds.length=vs.length→vs.all isOne=true→(∀(i:Nat)d v,ds[i]? =some d→vs[i]? =some v→RD h p d v)→RD h p (.agg ds) (.agg vs.toArray)|xO(ds:List D)(vs:List Value):ds.length=vs.length→(∀(i:Nat)d v,ds[i]? =some d→vs[i]? =some v→RD h p d v)→RD h p (.xO ds) (.tuple vs.toArray)|nil(z:Nat):RD h p (.sl z 0 []) (.slice none 0 0)|sl(z len:Nat)(ds:List D)(b o c:Nat)(cs:List Value)(s:Nat)(g ro:Bool):h.get b=.cells cs s g ro→¬p b→(s=z∨g=false)→len≤c→o+ds.length≤cs.length→((cs.drop o).take ds.length).all isOne=true→(∀(i:Nat)d v,ds[i]? =some d→cs[o+i]? =some v→RD h p d v)→RD h p (.sl z len ds) (.slice (some ⟨b,o,none⟩) len c)|we(z:Nat)(a:Option Addr):RD h p (.slw z 0 []) (.slice a 0 0)|slw(z len:Nat)(ds:List D)(b o c:Nat)(cs:List Value)(s:Nat)(g ro:Bool):h.get b=.cells cs s g ro→¬p b→len≤c→o+ds.length≤cs.length→((cs.drop o).take ds.length).all isOne=true→(∀(i:Nat)d v,ds[i]? =some d→cs[o+i]? =some v→RD h p d v)→RD h p (.slw z len ds) (.slice (some ⟨b,o,none⟩) len c)|rp(ds:List D)(i b o:Nat)(cs:List Value)(s:Nat)(g ro:Bool):h.get b=.cells cs s g ro→¬p b→o+ds.length≤cs.length→((cs.drop o).take ds.length).all isOne=true→(∀(i:Nat)d v,ds[i]? =some d→cs[o+i]? =some v→RD h p d v)→RD h p (.rp ds i) (.pointer (some ⟨b,o+i,none⟩))|fn(f:Nat)(xs ys:List D)(vs us:List Value):xs.length=vs.length→ys.length=us.length→(∀(i:Nat)d v,xs[i]? =some d→vs[i]? =some v→RD h p d v)→(∀(i:Nat)d v,ys[i]? =some d→us[i]? =some v→RD h p d v)→RD h p (.fn f xs ys) (.func (.func f) vs.toArray us.toArray)|np(i b j:Nat):RD h p (.rp [] (i+1)) (.pointer (some ⟨b,j,none⟩))
theorem nB{P:Program}{t:TypeId}{i:Nat}:Ze P t [] (i+1)=none:=by grind[Ze,my]
def Hy(h:Ao)(p:Nat→Prop)(ds:List D)(vs:List Value):Prop:=ds.length=vs.length∧∀(i:Nat)d v,ds[i]? =some d→vs[i]? =some v→RD h p d v
theorem Hy.nil{h:Ao}{p:Nat→Prop}:Hy h p [] []:=⟨rfl,by simp⟩
theorem Hy.cons{h:Ao}{p:Nat→Prop}{d:D}{v:Value}{ds:List D}{vs:List Value}(a:RD h p d v)(b:Hy h p ds vs):Hy h p (d::ds) (v::vs):=⟨by simp [b.1],fun i x y hx hy=>by cases i with|zero=>grind|succ i=>exact b.2 i x y (by grind) (by grind)⟩
theorem Hy.cons_inv{h:Ao}{p:Nat→Prop}{d:D}{ds:List D}{vs:List Value}(a:Hy h p (d::ds) vs):∃v us,vs=v::us∧RD h p d v∧Hy h p ds us:=by cases vs with|nil=>have:=a.1;grind|cons v us=>exact⟨v,us,rfl,a.2 0 d v rfl rfl,by simpa using a.1,fun i x y hx hy=>a.2 (i+1) x y (by grind) (by grind)⟩
theorem Hy.Pq{h:Ao}{p:Nat→Prop}{vs:List Value}(a:Hy h p [] vs):vs=[]:=by have:=a.1;grind
theorem Hy.append{h:Ao}{p:Nat→Prop}{ds es:List D}{vs us:List Value}(a:Hy h p ds vs)(b:Hy h p es us):Hy h p (ds++es) (vs++us):=by refine⟨by simp [a.1,b.1],fun i x y hx hy=>?_⟩;rw[Po]at hx hy;rw[←a.1]at hy;split at hx;rename_i hi;rw[Al hi]at hy;exact a.2 _ _ _ hx hy;rename_i hi;rw[Ak hi]at hy;exact b.2 _ _ _ hx hy
theorem Hy.drop{h:Ao}{p:Nat→Prop}{ds:List D}{vs:List Value}(a:Hy h p ds vs)(n:Nat):Hy h p (ds.drop n) (vs.drop n):=⟨by simp [a.1],fun i x y hx hy=>a.2 (n+i) x y (by grind) (by grind)⟩
theorem Hy.take{h:Ao}{p:Nat→Prop}{ds:List D}{vs:List Value}(a:Hy h p ds vs)(n:Nat):Hy h p (ds.take n) (vs.take n):=by refine⟨by simp [a.1],fun i x y hx hy=>?_⟩;rw[Gx]at hx hy;split at hx;rename_i hi;rw[Al hi]at hy;exact a.2 _ _ _ hx hy;cases hx
theorem Hy.set{h:Ao}{p:Nat→Prop}{ds:List D}{vs:List Value}(a:Hy h p ds vs)(n:Nat){d:D}{v:Value}(r:RD h p d v):Hy h p (ds.set n d) (vs.set n v):=by refine⟨by simp [a.1],fun i x y hx hy=>?_⟩;rw[Ps]at hx hy;rw[←a.1]at hy;split at hx;rename_i e;rw[Al e]at hy;split at hx;rename_i hl;rw[Al hl]at hy;cases hx;cases hy;exact r;cases hx;rename_i e;rw[Ak e]at hy;exact a.2 _ _ _ hx hy
theorem Hy.get{h:Ao}{p:Nat→Prop}{ds:List D}{vs:List Value}(a:Hy h p ds vs){i:Nat}{d:D}(hd:ds[i]? =some d):∃v,vs[i]? =some v∧RD h p d v:=by(have hi:i<vs.length:=by rw[←a.1];grind);exact⟨vs[i],by grind,a.2 i d _ hd (by grind)⟩
theorem Hy.rep{h:Ao}{p:Nat→Prop}{ds:List D}{vs:List Value}(a:Hy h p ds vs):∀n,Hy h p (List.replicate n ds).flatten (List.replicate n vs).flatten|0=>by simp;exact Hy.nil|n+1=>by simp only [Ql,List.flatten_cons];exact a.append (a.rep n)
structure Jj(h:Ao)(p:Nat→Prop)(h':Ao)(p':Nat→Prop):Prop where
 same:∀b,(h.get b).live=true→¬p b→h'.get b=h.get b
 own:∀b,(h.get b).live=true→¬p b→¬p' b
theorem Jj.refl(h:Ao)(p:Nat→Prop):Jj h p h p:=⟨fun _ _ _=>rfl,fun _ _ h=>h⟩
theorem Jj.trans{h h1 h2:Ao}{p p1 p2:Nat→Prop}(a:Jj h p h1 p1)(b:Jj h1 p1 h2 p2):Jj h p h2 p2:=⟨fun n hl hp=>by rw[b.same n (by rw[a.same n hl hp];exact hl) (a.own n hl hp),a.same n hl hp],fun n hl hp=>b.own n (by rw[a.same n hl hp];exact hl) (a.own n hl hp)⟩
theorem RD.Dh{h h':Ao}{p p':Nat→Prop}(k:Jj h p h' p'){d:D}{v:Value}(r:RD h p d v):RD h' p' d v:=by induction r with|v x h1 h2=>exact .v x h1 h2|agg ds vs h1 h2 _ ih=>exact .agg ds vs h1 h2 ih|xO ds vs h1 _ ih=>exact .xO ds vs h1 ih|nil z=>exact .nil z|sl z len ds b o c cs s g ro h1 h2 h3 h4 h5 h6 _ ih=>(have hl:(h.get b).live=true:=by rw[h1];rfl);exact .sl z len ds b o c cs s g ro (by rw[k.same b hl h2];exact h1) (k.own b hl h2) h3 h4 h5 h6 ih|we z a=>exact .we z a|slw z len ds b o c cs s g ro h1 h2 h4 h5 h6 _ ih=>(have hl:(h.get b).live=true:=by rw[h1];rfl);exact .slw z len ds b o c cs s g ro (by rw[k.same b hl h2];exact h1) (k.own b hl h2) h4 h5 h6 ih|rp ds i b o cs s g ro h1 h2 h4 h5 _ ih=>(have hl:(h.get b).live=true:=by rw[h1];rfl);exact .rp ds i b o cs s g ro (by rw[k.same b hl h2];exact h1) (k.own b hl h2) h4 h5 ih|fn f xs ys vs us h1 h2 _ _ i1 i2=>exact .fn f xs ys vs us h1 h2 i1 i2|np i b j=>exact .np i b j
theorem Hy.Dh{h h':Ao}{p p':Nat→Prop}(k:Jj h p h' p'){ds:List D}{vs:List Value}(r:Hy h p ds vs):Hy h' p' ds vs:=⟨r.1,fun i d v hd hv=>(r.2 i d v hd hv).Dh k⟩
def U0(O:Nat→Prop)(h:Ao)(bx:List Bx)(ρ:Nat→Option Nat)(l:LV)(v:Value):Prop:=match l with|.d o x=>RD h (Pv O bx ρ) x v∧(o=true→isOne v=true)|.ref k i=>∃n,ρ k=some n∧v=ptr n i∧k<bx.length|.full k len=>∃b ds,bx[k]? =some b∧b.ct=.Ba ds∧ds.length=len*b.z∧((∃n,ρ k=some n∧v=.slice (some ⟨n,0,none⟩) len len)∨(ρ k=none∧len=0∧v=.slice none 0 0))|.emp _=>v=.slice none 0 0|.cf f xs ys=>RD h (Pv O bx ρ) (.fn f xs ys) v|.cl x=>∃z len ds,x=.sl z len ds∧((len=0∧v=.slice none 0 0)∨∃b o cs s g ro,v=.slice (some ⟨b,o,none⟩) 0 0∧h.get b=.cells cs s g ro∧¬Pv O bx ρ b∧(s=z∨g=false)∧o+ds.length≤cs.length)
def rR:gE→Prop|none=>True|some (_,_,b)=>b=true
section
variable{h0 h h':Ao}{M O:Nat→Prop}{e:Eh}{E:Wm}{bx NN:List Bx}{ρ ρ':Nat→Option Nat}
theorem wY{cs:List Value}(h:cs.all isOne=true)(o n:Nat):((cs.drop o).take n).all isOne=true:=by rw[Bh]at h⊢;exact fun v hv=>h v (EM (dY hv))
end
theorem B3{α:Type}{l:List α}{b c:α}{k:Nat}(h:(l++[b])[k]? =some c):(k<l.length∧l[k]? =some c)∨(k=l.length∧c=b):=by rw[Po]at h;split at h;rename_i hk;exact .inl ⟨hk,h⟩;rename_i hk;(have:k-l.length<1:=by have:=(Ab.1 h).1;simpa using this);(have e:k-l.length=0:=by omega);rw[e]at h;simp at h;exact .inr ⟨by omega,h.symm⟩
section
variable{h0 h h':Ao}{M O:Nat→Prop}{e:Eh}{E:Wm}{bx NN:List Bx}{ρ ρ':Nat→Option Nat}
end
section
variable{P:Program}{h:Ao}{p:Nat→Prop}
def FW(v:Value):Bool:=Lk 3 v&&isOne v
theorem Ij{v:Value}(k:FW v=true):RD h p (.v v) v:=by simp only [FW,Ae]at k;exact .v v k.1 k.2
theorem iQ:∀{ds:List D}{l vs:List Value},TS ds=some l→Hy h p ds vs→vs=l|[],l,vs,k,r=>by unfold TS at k;cases k;exact r.Pq|d::ds,l,vs,k,r=>by obtain⟨v,us,rfl,r1,r2⟩:=r.cons_inv;unfold TS at k;split at k;rename_i e;cases e;rename_i x r' e;cases e;obtain⟨l',h1,h2⟩:=Af k;subst h2;cases r1;rw[iQ h1 r2];cases k
theorem nC{x:D}{a v:Value}(k:zx x=some a)(r:RD h p x v):v=a:=by unfold zx at k;split at k;cases k;cases r;rfl;obtain⟨l,h1,h2⟩:=Af k;subst h2;(cases r with|agg ds vs h3 h4 h5=>rw[iQ h1 ⟨h3,h5⟩]);cases k
theorem sY{op:BinOp}{k:IntKind}{a b:Int}{v:Value}(h:cO op k a b=some v):FW v=true:=by unfold cO at h;split at h;all_goals first|(cases h;rfl)|(cases h;done)|(split at h<;>first|(cases h;rfl)|(cases h;done))
theorem yD{op:BinOp}{t:TypeId}{a b v:Value}(h:Wf P op t a b=some v):FW v=true:=by unfold Wf at h;split at h;(·split at h;(·unfold jW at h;split at h;(·cases h);·split at h<;>first|(cases h;rfl)|(cases h;done));(·unfold jW at h;split at h;(·cases h);·split at h<;>first|(cases h;rfl)|(cases h;done));·split at h;(·exact sY h);grind);(·unfold xS at h;split at h;all_goals first|(cases h;rfl)|(cases h;done)|(split at h<;>first|(cases h;rfl)|(cases h;done)));·split at h;(·obtain⟨x,_,h2⟩:=Af h;subst h2;rfl);(·obtain⟨x,_,h2⟩:=Af h;subst h2;rfl);grind
theorem LC{op:BinOp}{t:TypeId}{x y z:D}{a b:Value}(k:Gy P op t x y=some z)(ra:RD h p x a)(rb:RD h p y b):∃v,Wf P op t a b=some v∧RD h p z v:=by unfold Gy at k;split at k;rename_i a' b' e1 e2;obtain⟨v,h1,h2⟩:=Af k;subst h2;rw[nC e1 ra,nC e2 rb];exact⟨v,h1,Ij (yD h1)⟩;rename_i e1 e2;have hb:=nC e2 rb;subst hb;split at k;rename_i hu;cases k;cases ra<;>exact⟨.bool false,by simp [Wf,Ni,wP,hu],Ij rfl⟩;rename_i hu;cases k;cases ra<;>exact⟨.bool true,by simp [Wf,Ni,wP,hu],Ij rfl⟩;cases k;cases k
theorem TW{op:UnOp}{x z:D}{a:Value}(k:xQ op x=some z)(ra:RD h p x a):∃v,J6 op a=some v∧RD h p z v:=by unfold xQ at k;split at k;rename_i a';cases ra;obtain⟨v,h1,h2⟩:=Af k;subst h2;refine⟨v,h1,Ij ?_⟩;unfold J6 at h1;split at h1;cases h1;rfl;exact sY h1;cases h1;rfl;cases h1;cases k
theorem B4{cs:List Value}{ds:List D}{o i:Nat}{d:D}(hl:o+ds.length≤cs.length)(hr:∀(i:Nat)d v,ds[i]? =some d→cs[o+i]? =some v→RD h p d v)(hd:ds[i]? =some d):∃v,cs[o+i]? =some v∧RD h p d v:=by have hi:=(Ab.1 hd).1;(have:cs[o+i]? =some (cs[o+i]'(by omega)):=by grind);exact⟨_,this,hr i d _ hd this⟩
theorem LD{cs:List Value}{o n i:Nat}{v:Value}(ha:((cs.drop o).take n).all isOne=true)(hi:i<n)(hv:cs[o+i]? =some v):isOne v=true:=by rw[Bh]at ha;refine ha v (Ay (i:=i) ?_);grind
theorem FX{t:TypeId}{ds:List D}{i o b s:Nat}{g ro:Bool}{cs:List Value}{y:D}(k:Ze P t ds i=some y)(hb:h.get b=.cells cs s g ro)(hl:o+ds.length≤cs.length)(ha:((cs.drop o).take ds.length).all isOne=true)(hr:∀(i:Nat)d v,ds[i]? =some d→cs[o+i]? =some v→RD h p d v):∃v,Ox P t h (ptr b (o+i))=some v∧RD h p y v:=by unfold Ze at k;unfold Ox ptr;simp only;split at k;rename_i hg;obtain⟨l,h1,h2⟩:=Af k;subst h2;unfold my at h1;split at h1;rename_i hle;cases h1;rw[hg];simp only [Aa,if_true,Ow,hb,Je];rw[Al (by omega)];refine⟨_,rfl,.agg _ _ (by grind) ?_ fun j d v hd hv=>?_⟩;rw[Bh];intro v hv;obtain⟨j,hj⟩:=Ld.1 hv;rw[Gx]at hj;split at hj;rename_i XD;rw[Be]at hj;exact LD ha (i:=i+j) (by omega) (by grind);cases hj;rw[Gx]at hd hv;split at hd;rename_i XD;rw[Al XD,Be]at hv;rw[Be]at hd;exact hr (i+j) d v hd (by grind);cases hd;cases h1;rename_i hg;rw[hg];simp only [Aa,Bq,if_false,jV,hb];obtain⟨v,h1,h2⟩:=B4 hl hr k;exact⟨v,h1,h2⟩;cases k
theorem FY{t:TypeId}{x y:D}{a:Value}(k:Gg P t x=some y)(ra:RD h p x a):∃v,Ox P t h a=some v∧RD h p y v:=by unfold Gg at k;split at k;rename_i ds i;(cases ra with|rp ds i b o cs s g ro h1 h2 h3 h4 h5=>exact FX k h1 h3 h4 h5|np=>grind[nB]);cases k
theorem LF{t:TypeId}{x y:D}{a:Value}(k:qI P t x=some y)(ra:RD h p x a):∃v,iH P t a h=some v∧RD h p y v:=by unfold qI at k;split at k;rename_i hu;cases k;cases ra;exact⟨_,by simp [iH,hu],Ij rfl⟩;rename_i hu;cases k;(cases ra with|nil=>exact⟨_,by simp [iH,hu],Ij rfl⟩|sl=>exact⟨_,by simp [iH,hu],Ij rfl⟩);rename_i hu;cases k;(cases ra with|we=>exact⟨_,by simp [iH,hu],Ij rfl⟩|slw=>exact⟨_,by simp [iH,hu],Ij rfl⟩);cases k
theorem aF{s:TypeId}{f o b i:Nat}(k:sQ P s f=some o):Qn P s (ptr b i) f=some (ptr b (i+o)):=by unfold sQ at k;unfold Qn ptr;grind
theorem nD{s:TypeId}{f:Nat}{x y:D}{a:Value}(k:Dx P s x f=some y)(ra:RD h p x a):∃v,Qn P s a f=some v∧RD h p y v:=by unfold Dx at k;split at k;rename_i ds i;obtain⟨o,h1,h2⟩:=Af k;subst h2;(cases ra with|rp ds i b o' cs s g ro h3 h4 h5 h6 h7=>refine⟨_,aF (b:=b) (i:=o'+i) h1,?_⟩;have:=RD.rp ds (i+o) b o' cs s g ro h3 h4 h5 h6 h7;rwa[show o'+(i+o)=o'+i+o by omega]at this|np i b j=>exact⟨_,aF (b:=b) (i:=j) h1,by rw[show i+1+o=i+o+1 by omega];exact .np _ _ _⟩);cases k
theorem oX{t:TypeId}{ds:List D}{vs:List Value}{i:Nat}{y:D}(k:Ze P t ds i=some y)(r:Hy h p ds vs)(ha:vs.all isOne=true):∃v,gH P t vs i=some v∧RD h p y v:=by unfold Ze at k;unfold gH;split at k;rename_i hg;obtain⟨l,h1,h2⟩:=Af k;subst h2;unfold my at h1;split at h1;rename_i hle;cases h1;rw[hg];simp only [Aa,if_true,Je];rw[Al (by rw[←r.1];omega)];have r2:=(r.drop i).take (sz P t);exact⟨_,rfl,.agg _ _ r2.1 (wY ha _ _) r2.2⟩;cases h1;rename_i hg;rw[hg];obtain⟨v,h1,h2⟩:=r.get k;exact⟨v,h1,h2⟩;cases k
theorem BB{s:TypeId}{f:Nat}{x y:D}{a:Value}(k:KW P s x f=some y)(ra:RD h p x a):∃v,rY P s a f=some v∧RD h p y v:=by unfold KW at k;split at k;split at k;rename_i fs hu;obtain⟨fd,h1,k⟩:=Ad k;(cases ra with|agg ds vs h3 h4 h5=>obtain⟨v,h6,h7⟩:=oX k ⟨h3,h5⟩ h4;simp_all[rY,hu,h1,h6]);cases k;cases k
theorem nE{t:TypeId}{x i y:D}{a j:Value}(k:Ks P t x i=some y)(ra:RD h p x a)(rj:RD h p i j):∃v,Kq P t a j=some v∧RD h p y v:=by unfold Ks at k;split at k;cases rj;split at k;rename_i hu;split at k;rename_i hc;cases k;obtain⟨h1,h2,h3,h4⟩:=hc;subst h2;(cases ra with|nil=>grind|sl z len ds b o c cs s g ro k1 k2 k3 k4 k5 k6 k7=>refine⟨_,by simp_all[Kq,hu,Al,h1,h3,h4],.rp _ _ _ _ _ _ _ _ k1 k2 k5 k6 k7⟩);cases k;rename_i hu;split at k;rename_i hc;cases k;obtain⟨h1,h2,h3,h4⟩:=hc;subst h2;(cases ra with|we=>grind|slw z len ds b o c cs s g ro k1 k2 k4 k5 k6 k7=>refine⟨_,by simp_all[Kq,hu,Al,h1,h3,h4],.rp _ _ _ _ _ _ _ _ k1 k2 k5 k6 k7⟩);cases k;rename_i hu;split at k;rename_i hc;cases k;(cases ra with|rp ds i b o cs s g ro k1 k2 k5 k6 k7=>refine⟨_,by simp only [Kq,hu];rw[Al hc],?_⟩;rw[Ep];exact RD.rp _ _ b o cs s g ro k1 k2 k5 k6 k7|np i b j=>refine⟨_,by simp only [Kq,hu];rw[Al hc],?_⟩;rw[Nat.add_right_comm];exact .np _ _ _);cases k;cases k;cases k
theorem BC{t:TypeId}{x i y:D}{a j:Value}(k:Ym P t x i=some y)(ra:RD h p x a)(rj:RD h p i j):∃v,mQ P t a j=some v∧RD h p y v:=by unfold Ym at k;split at k;cases rj;split at k;rename_i hu;split at k;rename_i hc;(cases ra with|agg ds vs h3 h4 h5=>obtain⟨v,h6,h7⟩:=oX k ⟨h3,h5⟩ h4;simp_all[mQ,hu,Al,hc]);cases k;rename_i hu;split at k;rename_i hc;cases ra;obtain⟨b,h1,h2⟩:=Af k;subst h2;exact⟨_,by simp_all[mQ,hu,Al,hc,h1],Ij rfl⟩;cases k;cases k;cases k
theorem sZ{x y:D}{i:Nat}{a:Value}(k:sR x i=some y)(ra:RD h p x a):∃v,Za a i=some v∧RD h p y v:=by unfold sR at k;split at k;(cases ra with|xO ds vs h1 h2=>obtain⟨v,h3,h4⟩:=Hy.get ⟨h1,h2⟩ k;grind[Za]);cases k
theorem bS{x y:D}{a:Value}(k:Gz x=some y)(ra:RD h p x a):∃v,eR a=some v∧RD h p y v:=by unfold Gz at k;split at k;cases k;(cases ra with|rp ds i b o cs s g ro k1 k2 k5 k6 k7=>exact⟨_,rfl,.rp _ _ _ _ _ _ _ _ k1 k2 k5 k6 k7⟩|np i b j=>exact⟨_,rfl,.np _ _ _⟩);cases k;(cases ra with|fn f xs ys vs us h1 h2 h3 h4=>exact⟨_,rfl,.fn _ _ _ _ _ h1 h2 h3 h4⟩);cases k
theorem BD{mx:Bool}{l:List Value}{v:Value}(k:Kh mx l=some v):FW v=true:=by unfold Kh at k;split at k;rename_i kd a r;(have:∀(l:List Value)(a:Int),Kh.go mx kd a l=some v→FW v=true:=by intro l;induction l with|nil=>intro a k;unfold Kh.go at k;cases k;rfl|cons x l ih=>intro a k;(cases x<;>unfold Kh.go at k<;>first|cases k|skip);grind);exact this r a k;cases k
theorem gO{mx:Bool}{xs:List D}{vs:List Value}{y:D}(k:fC mx xs=some y)(r:Hy h p xs vs):∃v,Kh mx vs=some v∧RD h p y v:=by unfold fC at k;obtain⟨l,h1,k⟩:=Ad k;obtain⟨v,h2,h3⟩:=Af k;subst h3;rw[iQ h1 r];exact⟨v,h2,Ij (BD h2)⟩
end
section
variable{P:Program}{h:Ao}{p:Nat→Prop}
def wZ(h:Ao)(p:Nat→Prop)(o:Option D)(ov:Option Value):Prop:=match o,ov with|none,none=>True|some x,some v=>RD h p x v|_,_=>False
theorem Ku{d n:Nat}{o:Option D}{ov:Option Value}(k:Qq d o=some n)(r:wZ h p o ov):Ga d ov=some n:=by unfold Qq at k;split at k;cases k;(cases ov with|none=>rfl|some v=>exact r.elim);(cases ov with|none=>exact r.elim|some v=>cases r;exact k);cases k
theorem Xy(d:Nat):Ga d none=some d:=rfl
theorem BE{t:TypeId}{x y:D}{a:Value}{lo hi:Option D}{lov XK:Option Value}(k:nA P t x lo hi=some y)(ra:RD h p x a)(rl:wZ h p lo lov)(rh:wZ h p hi XK):∃v,Pw P t a lov XK none h=some v∧RD h p y v:=by unfold nA at k;split at k;rename_i s hu;obtain⟨l,h1,k⟩:=Ad k;obtain⟨r,h2,k⟩:=Ad k;split at k;rename_i hc;cases k;cases ra;refine⟨.string (s.extract l r),?_,Ij rfl⟩;simp only [Pw,hu,Ku h1 rl,Ku h2 rh,Aa];rw[Al ⟨rfl,hc⟩];cases k;rename_i e z len ds hu;obtain⟨l,h1,k⟩:=Ad k;obtain⟨r,h2,k⟩:=Ad k;split at k;rename_i hc;cases k;obtain⟨c1,c2,c3,c4,c5⟩:=hc;subst c2;(cases ra with|nil=>(obtain rfl:r=0:=by omega);(obtain rfl:l=0:=by omega);refine⟨.slice none 0 0,?_,by simpa using RD.nil _⟩;simp only [Pw,hu,Ku h1 rl,Ku h2 rh,Aa,Xy];rw[Al ⟨c1,by omega,by omega,by omega,by simp⟩]|sl z len ds b o c cs s g ro k1 k2 k3 k4 k5 k6 k7=>refine⟨.slice (some ⟨b,o+l*sz P e,none⟩) (r-l) (c-l),?_,?_⟩;simp only [Pw,hu,Ku h1 rl,Ku h2 rh,Aa,Xy,k1];rw[Al ⟨c1,by omega,by omega,by omega,by simp⟩,Al k3];(have hm:l*sz P e+(r-l)*sz P e=r*sz P e:=by rw[←Eu];grind);have hm2:r*sz P e≤len*sz P e:=Cf _ c4;(have hlen:((ds.drop (l*sz P e)).take ((r-l)*sz P e)).length=(r-l)*sz P e:=by grind);refine .sl _ _ _ _ _ _ cs s g ro k1 k2 k3 (by omega) (by grind) ?_ fun i d v hd hv=>?_;rw[hlen,Bh];intro v hv;obtain⟨j,hj⟩:=Ld.1 hv;rw[Gx]at hj;split at hj;rename_i XD;rw[Be]at hj;exact LD k6 (i:=l*sz P e+j) (by omega) (by grind);cases hj;rw[Gx]at hd;split at hd;rw[Be]at hd;exact k7 _ d v hd (by rw[←hv];congr 1;omega);cases hd);cases k;cases k
theorem yE:∀{ds:List D}{l:List UInt8}{vs:List Value},J8 ds=some l→Hy h p ds vs→bytesOf vs=some l|[],l,vs,k,r=>by unfold J8 at k;cases k;rw[r.Pq];rfl|d::ds,l,vs,k,r=>by obtain⟨v,us,rfl,r1,r2⟩:=r.cons_inv;unfold J8 at k;split at k;rename_i e;cases e;rename_i n r' e;cases e;obtain⟨l',h1,h2⟩:=Af k;subst h2;cases r1;simp only [bytesOf,yE h1 r2,Aj];cases k
theorem FZ{z len:Nat}{ds:List D}{v:Value}{m:Nat}(r:RD h p (.sl z len ds) v)(hm:ds.length=len*m):(v=.slice none 0 0∧len=0∧ds=[])∨∃b o c vs,v=.slice (some ⟨b,o,none⟩) len c∧Ow h b o (len*m)=some vs∧Hy h p ds vs∧vs.all isOne=true:=by cases r with|nil=>exact .inl ⟨rfl,rfl,rfl⟩|sl z len ds b o c cs s g ro k1 k2 k3 k4 k5 k6 k7=>refine .inr ⟨b,o,c,(cs.drop o).take (len*m),rfl,by simp only [Ow,k1,Je];rw[Al (by omega)],⟨by grind,fun i d u hd hu=>?_⟩,by grind⟩;rw[Gx]at hu;split at hu;rw[Be]at hu;exact k7 i d u hd hu;cases hu
theorem GB{src dst:TypeId}{x y:D}{a:Value}(k:kO P src dst x=some y)(ra:RD h p x a):∃v,jX P src dst a h=some (v,h)∧RD h p y v:=by unfold kO at k;split at k;rename_i h1 h2;cases k;cases ra;exact⟨_,by simp only [jX,h1,h2],Ij rfl⟩;rename_i h1 h2;cases k;cases ra;exact⟨_,by simp only [jX,h1,h2],Ij rfl⟩;rename_i e z len ds h1 h2;split at k;rename_i h3;split at k;rename_i h4;obtain⟨l,h5,h6⟩:=Af k;subst h6;rcases FZ (m:=1) ra (by omega)with⟨rfl,rfl,rfl⟩|⟨b,o,c,vs,rfl,h7,h8,h9⟩;unfold J8 at h5;cases h5;exact⟨.string ⟨#[]⟩,by simp_all[jX,h1,h2,Al,h3],Ij rfl⟩;rw[Nat.mul_one]at h7;refine⟨.string ⟨l.toArray⟩,?_,Ij rfl⟩;simp only [jX,h1,h2];rw[Al h3,h7,Aa,yE h5 h8];rfl;cases k;cases k;cases k
theorem tA{x:D}{v:Value}(r:RD h p x v)(h1:∀ds,x≠.agg ds)(h2:∀ds,x≠.xO ds):isOne v=true:=by cases r with|v x h3 h4=>exact h4|agg ds vs=>grind|xO ds vs=>grind|nil=>rfl|sl=>rfl|we=>rfl|slw=>rfl|rp=>rfl|np=>rfl|fn=>rfl
theorem Vm{t:TypeId}{x:D}{ds:List D}{v:Value}(k:Mc P t x=some ds)(r:RD h p x v):∃vs,Nb P t v=some vs∧Hy h p ds vs∧vs.all isOne=true∧ds.length=sz P t:=by unfold Mc at k;split at k;rename_i hg;split at k;split at k;rename_i hl;cases k;(cases r with|agg ds vs h1 h2 h3=>refine⟨vs,?_,⟨h1,h3⟩,h2,hl⟩;simp only [Nb,hg,Aa,if_true];rw[Al (by simpa using h1.symm.trans hl)]);cases k;cases k;rename_i hg;(have fin:(∀es,x≠.agg es)→(∀es,x≠.xO es)→(if sz P t=1 then some [x]else none)=some ds→∃vs,Nb P t v=some vs∧Hy h p ds vs∧vs.all isOne=true∧ds.length=sz P t:=by intro n1 n2 k;split at k;rename_i hs;cases k;have h1:=tA r n1 n2;exact⟨[v],by simp_all[Nb,hg,Aa,Bq,if_false,Al,h1,hs],Hy.cons r Hy.nil,by grind,by grind⟩;cases k);split at k;cases k;cases k;rename_i n1 n2;exact fin n1 n2 k;cases k
theorem tB{t:TypeId}:∀{xs:List D}{ds:List D}{vs:List Value},YO P t xs=some ds→Hy h p xs vs→∃us,us.all isOne=true∧Hy h p ds us∧ds.length=xs.length*sz P t∧∀(j:Nat)(cs:List Value),cs.length=(j+xs.length)*sz P t→Pr P (fun i=>some (i*sz P t,t)) cs ((List.range' j xs.length).zip vs)=some (cs.take (j*sz P t)++us)|[],ds,vs,k,r=>by unfold YO at k;cases k;refine⟨[],rfl,Hy.nil,by simp,fun j cs hl=>?_⟩;simp [Pr];rw[As (by simpa using Mw hl)]|x::xs,ds,vs,k,r=>by obtain⟨v,vs,rfl,r1,r2⟩:=r.cons_inv;unfold YO at k;obtain⟨c,h1,k⟩:=Ad k;obtain⟨l,h2,h3⟩:=Af k;subst h3;obtain⟨w,f1,f2,f3,f4⟩:=Vm h1 r1;obtain⟨us,u1,u2,u4,u3⟩:=tB h2 r2;(have hw:w.length=sz P t:=by rw[←f2.1];exact f4);refine⟨w++us,by grind,f2.append u2,by grind,fun j cs hl=>?_⟩;(have NG:cs.length=j*sz P t+sz P t+xs.length*sz P t:=by grind);(have e2:(j+1+xs.length)*sz P t=j*sz P t+sz P t+xs.length*sz P t:=by grind);(have e3:(j+1)*sz P t=j*sz P t+sz P t:=by grind);have e4:Dj cs (j*sz P t) w=cs.take (j*sz P t)++w++cs.drop (j*sz P t+w.length):=iO _ _ _ (by omega);(have e5:(Dj cs (j*sz P t) w).take (j*sz P t+sz P t)=cs.take (j*sz P t)++w:=by rw[e4,Lx (by grind),As (by grind)]);simp only [Bv,List.range'_succ,List.zip_cons_cons,Pr,f1,Aa];rw[Al hw,Al (by omega),u3 (j+1) _ (by rw[Hq,e2];grind),e3,e5,Cr]
end
def yF:List ve→List Value→List Nat|.Bs _::a_,v::vs=>(match v with|.pointer (some a)=>[a.block]|_=>[])++yF a_ vs|.val _::a_,_::vs=>yF a_ vs|_,_=>[]
inductive qK(h:Ao)(O:Nat→Prop):List ve→List Value→Prop|nil:qK h O [] []|val(x:D)(v:Value)(a_:List ve)(vs:List Value):RD h O x v→qK h O a_ vs→qK h O (.val x::a_) (v::vs)|Bs(ds:List D)(n:Nat)(cs:List Value)(s:Nat)(g:Bool)(a_:List ve)(vs:List Value):h.get n=.cells cs s g false→O n→cs.all isOne=true→Hy h O ds cs→n∉yF a_ vs→qK h O a_ vs→qK h O (.Bs ds::a_) (ptr n 0::vs)
def B5(h:Ao)(O:Nat→Prop):List ve→List Value→List (List D)→Prop|.Bs _::a_,v::vs,ds::os=>(∃n cs s g,v=ptr n 0∧h.get n=.cells cs s g false∧cs.all isOne=true∧Hy h O ds cs)∧B5 h O a_ vs os|.val _::a_,_::vs,os=>B5 h O a_ vs os|[],[],[]=>True|_,_,_=>False
structure W1(h:Ao)(O:Nat→Prop)(args:List ve)(vs:List Value)(h':Ao)(v:Value)(d:D)(Bp:List (List D)):Prop where
 le:h.next≤h'.next
 fr:∀b,b<h.next→b∉yF args vs→h'.get b=h.get b
 lt:∀b,(h'.get b).live=true→b<h'.next
 EN:RD h' O d v
 out:B5 h' O args vs Bp
def Yn(U:Ao→Prop)(C:Bu)(g:FuncId)(args:List ve)(d:D)(Bp:List (List D)):Prop:=∀(h:Ao)(O:Nat→Prop)(vs:List Value),U h→(∀b,(h.get b).live=true→b<h.next)→(∀n,O n→n<h.next)→qK h O args vs→vc (C g vs h) fun v h'=>W1 h O args vs h' v d Bp
def AK(h0:Ao)(M:Nat→Prop)(h:Ao):Prop:=h0.next≤h.next∧∀b,b<h0.next→¬M b→h.get b=h0.get b
def J9(U:Ao→Prop):Prop:=∀(h:Ao)(M:Nat→Prop)(h':Ao),(∀b,(h.get b).live=true→b<h.next)→U h→(∀b cs s g,h.get b=.cells cs s g true→¬M b)→AK h M h'→U h'
theorem J9.all:J9 fun _=>True:=fun _ _ _ _ _ _ _=>trivial
section
variable{h0 h h':Ao}{M O:Nat→Prop}{e:Eh}{E:Wm}{bx NN:List Bx}{ρ ρ':Nat→Option Nat}
theorem Kc{n:Nat}:∀{l:List Nat},Nl n l=true↔n∈l|[]=>by simp [Nl]|x::l=>by simp only [Nl,Yg,Az,Kc (l:=l)];constructor;rintro(h|h);exact .inl (Ai h);exact .inr h;rintro(rfl|h);exact .inl (by simp);exact .inr h
end
section
variable{h0 h h1:Ao}{M O:Nat→Prop}{e:Eh}{E:Wm}{bx:List Bx}{ρ:Nat→Option Nat}
end
section
variable{P:Program}{J:wD}{C:Bu}{S:Ed}{h0 h h':Ao}{M O:Nat→Prop}{e:Eh}{E:Wm}{bx NN:List Bx}{ρ ρ':Nat→Option Nat}
theorem tC{x y:D}{v:Value}{p:Nat→Prop}(k:Nk x=some y)(r:RD h p x v):RD h p y v∧isOne v=true:=by unfold Nk at k;split at k;cases k;cases k;rename_i n1 n2;cases k;exact⟨r,tA r n1 n2⟩
theorem tD:∀{vs:List Value}{ks:List (Option Nat)}{ls:List LV},KY vs ks=some ls→ls.length=vs.length∧vs.all isOne=true∧∀(i:Nat)l v,ls[i]? =some l→vs[i]? =some v→U0 O h bx ρ l v|[],[],ls,k=>by grind[KY]|[],_::_,ls,k=>by grind[KY]|_::_,[],ls,k=>by grind[KY]|v::vs,q::ks,ls,k=>by unfold KY at k;obtain⟨a,h1,k⟩:=Ad k;obtain⟨Qf,h2,h3⟩:=Af k;subst h3;obtain⟨g1,g2,g3⟩:=tD h2;(have ha:isOne v=true∧U0 O h bx ρ a v:=by split at h1;cases h1;exact⟨rfl,rfl⟩;split at h1;rename_i hc;split at h1;rename_i ho;cases h1;exact⟨ho,.v _ hc ho,fun _=>ho⟩;cases h1;cases h1;cases h1);grind
theorem kP{p:Nat→Prop}:∀{ls:List LV}{ds:List D}{vs:List Value},iP ls=some ds→ls.length=vs.length→(∀(i:Nat)l v,ls[i]? =some l→vs[i]? =some v→U0 O h bx ρ l v)→(∀n,¬Pv O bx ρ n→¬p n)→Hy h p ds vs|[],ds,vs,k,hl,hr,hp=>(by unfold iP at k;cases k;cases vs with|nil=>exact Hy.nil|cons=>grind)|l::ls,ds,[],k,hl,hr,hp=>by grind|l::ls,ds,v::vs,k,hl,hr,hp=>by have hv:=hr 0 l v rfl rfl;have IY:=fun{La:List D}(k':iP ls=some La)=>kP (p:=p) (vs:=vs) k' (by grind) (fun i l' v' h1 h2=>hr (i+1) l' v' (by grind) (by grind)) hp;unfold iP at k;split at k;rename_i e;cases e;rename_i e;cases e;obtain⟨La,h1,h2⟩:=Af k;subst h2;exact Hy.cons (RD.Dh ⟨fun _ _ _=>rfl,fun b _ hb=>hp b hb⟩ hv.1) (IY h1);rename_i e;cases e;obtain⟨La,h1,h2⟩:=Af k;subst h2;have:v=.slice none 0 0:=hv;subst this;exact Hy.cons (.nil _) (IY h1);cases k
theorem oY{t:TypeId}{ls:List LV}(k:OW P t=some ls):∃vs,Kp P t=some vs∧ls.length=vs.length∧vs.all isOne=true∧∀(i:Nat)l v,ls[i]? =some l→vs[i]? =some v→U0 O h bx ρ l v:=by unfold OW at k;obtain⟨vs,h1,k⟩:=Ad k;obtain⟨ks,h2,k⟩:=Ad k;obtain⟨g1,g2,g3⟩:=tD (O:=O) (h:=h) (bx:=bx) (ρ:=ρ) k;grind
theorem Vn{t:TypeId}{ds:List D}{p:Nat→Prop}(k:cU P t=some ds):∃vs,Kp P t=some vs∧vs.all isOne=true∧Hy h p ds vs:=by unfold cU at k;obtain⟨ls,h1,k⟩:=Ad k;obtain⟨vs,g1,g2,g3,g4⟩:=oY (O:=p) (h:=h) (bx:=[]) (ρ:=fun _=>none) h1;exact⟨vs,g1,g3,kP k g2 g4 (fun n hn hp=>hn (.inl hp))⟩
theorem BF{t:TypeId}{n:Nat}{ps:List (Nat×Value)}{s:Option (Nat×Nat)}{z:Nat}{cs:List Value}(k:Xs P t n ps=some (s,z,cs)):Js P t n ps h=some (Up h.next s,h.push (.cells cs z false false)):=by unfold Xs Js at k;unfold Js;cases he:Me P t with|none=>grind|some el=>rw[he]at k;simp only [Aa]at k⊢;cases hz:Kp P el with|none=>grind|some z0=>rw[hz]at k;simp only [Aa]at k⊢;split at k;rename_i c1;rw[Al c1];split at k;rename_i c2;rw[Al c2];(cases hf:Pr P (fun i=>some (i*sz P el,el)) (reps n z0) ps with|none=>grind|some cs0=>rw[hf]at k;simp [Ao.push]at k;obtain⟨rfl,rfl,rfl⟩:=k;rfl);cases k;cases k
theorem BG{t:TypeId}{l c:Value}{s:Option (Nat×Nat)}{z:Nat}{cs:List Value}(k:jZ P t l c=some (s,z,cs)):Ma P t l c h=some (Up h.next s,h.push (.cells cs z false false)):=by unfold jZ Ma at k;unfold Ma;split at k;rename_i l c;(cases he:Me P t with|none=>grind|some el=>rw[he]at k;simp only [Aa]at k⊢;cases hz:Kp P el with|none=>grind|some z0=>rw[hz]at k;simp only [Aa]at k⊢;split at k;rename_i c1;rw[Al c1];simp [Ao.push]at k;obtain⟨rfl,rfl,rfl⟩:=k;rfl;cases k);cases k
theorem TX{o:Op}{s:Option (Nat×Nat)}{z:Nat}{cs:List Value}(k:Jx P o e=some (s,z,cs)):opA P C o e h=some (Up h.next s,h.push (.cells cs z false false)):=by unfold Jx at k;split at k;obtain⟨z0,h1,h2⟩:=Af k;cases h2;simp only [opA,h1,Aj,TB];rfl;obtain⟨v,h1,k⟩:=Ad k;obtain⟨cs0,h2,h3⟩:=Af k;cases h3;simp only [opA,h1,h2,Aa,Aj,TB];rfl;obtain⟨ps,h1,k⟩:=Ad k;simp only [opA,h1,Aa];exact BF k;obtain⟨l,h1,k⟩:=Ad k;obtain⟨c,h2,k⟩:=Ad k;simp only [opA,h1,h2,Aa];exact BG k;cases k
end
theorem kQ:∀{n:Nat}{K:List D→Prop},I8 n K→∃l,l.length=n∧K l|0,K,w=>⟨[],rfl,w⟩|n+1,K,w=>by obtain⟨d,w⟩:=w;obtain⟨l,h1,h2⟩:=kQ w;grind
theorem oZ{α β:Type}:∀(l:List (α×β)),l=(l.map (·.1)).zip (l.map (·.2))|[]=>rfl|x::l=>by simp only [Bw,List.zip_cons_cons];rw[←oZ l]
section
variable{P:Program}{J:wD}{C:Bu}{S:Ed}{h0 h h':Ao}{M O:Nat→Prop}{e:Eh}{E:Wm}{bx NN:List Bx}{ρ ρ':Nat→Option Nat}{o:Op}{K:LV→List Bx→Prop}
theorem tE{t:TypeId}(k:JF P t=true):∃z,Kp P t=some z∧z.length=sz P t:=by unfold JF at k;split at k;rename_i z hz;exact⟨z,hz,Ai k⟩;cases k
theorem TY{l c:Operand}(k:KZ l c=true){v:Value}(h1:ev P e l=some v)(_:∃n,v=.int .i64 n):ev P e c=some v:=by unfold KZ at k;split at k;rw[←Ai k];exact h1;rename_i m n;(have:m=n:=by grind);rw[←this];exact h1;cases k
end
end Go.Proofs.YtcanhpinlapnnaaGreat.Am
