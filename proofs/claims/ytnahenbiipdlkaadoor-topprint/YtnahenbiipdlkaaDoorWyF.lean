/-
  The executor, part 1: values that tell places of memory by number, states, what they read as.
-/
import Derived.Test.YtnahenbiipdlkaaDoorWxz
section
namespace Go.b4
open Go Go.bb
inductive bT where
 |lit (b:Bool)
 |lt (a b:Int)
 |le (a b:Int)
 |pJ (a b:Int)
 |eqs (a b:List UInt8)
 |vX (a b:Bool)
 |not (c:bT)
 |raw (b:Bool)
def bT.val:bT→Bool
 | .lit b=>b
 | .lt a b=>decide (a<b)
 | .le a b=>decide (a≤b)
 | .pJ a b=>a==b
 | .eqs a b=>a==b
 | .vX a b=>a==b
 | .not c=>!c.val
 | .raw b=>b
def bT.ways:bT→Prop→Prop→Prop
 | .lit true,t,_=>t
 | .lit false,_,f=>f
 | .lt a b,t,f=>(a<b→t)∧(b≤a→f)
 | .le a b,t,f=>(a≤b→t)∧(b<a→f)
 | .pJ a b,t,f=>(a=b→t)∧(a≠b→f)
 | .eqs a b,t,f=>(a=b→t)∧(a≠b→f)
 | .vX a b,t,f=>(a=b→t)∧(a≠b→f)
 | .not c,t,f=>c.ways f t
 | .raw b,t,f=>(b=true→t)∧(b=false→f)
theorem bT.tX:∀(c:bT) {t f:Prop},c.ways t f→(c.val=true→t)∧(c.val=false→f)
 | .lit true,_,_,h=>⟨fun _=>h,fun e=>by cases e⟩
 | .lit false,_,_,h=>⟨(fun e=>by cases e),fun _=>h⟩
 | .lt a b,_,_,h=>⟨fun e=>h.1 (of_decide_eq_true e),fun e=>h.2 (Int.not_lt.1 (of_decide_eq_false e))⟩
 | .le a b,_,_,h=>⟨fun e=>h.1 (of_decide_eq_true e),fun e=>h.2 (Int.not_le.1 (of_decide_eq_false e))⟩
 | .pJ a b,_,_,h=>⟨fun e=>h.1 (eq_of_beq e),fun e=>h.2 (ne_of_beq_false e)⟩
 | .eqs a b,_,_,h=>⟨fun e=>h.1 (eq_of_beq e),fun e=>h.2 (ne_of_beq_false e)⟩
 | .vX a b,_,_,h=>⟨fun e=>h.1 (eq_of_beq e),fun e=>h.2 (ne_of_beq_false e)⟩
 | .not c,_,_,h=>⟨fun e=>(tX c h).2 (dt e),fun e=>(tX c h).1 (dy e)⟩
 | .raw b,_,_,h=>h
inductive aT where
 |aI (x:aa)
 |own (l:List aa)
 |b (c:bT)
 |loc (i off:Nat)
 |ms (i n cap:Nat)
 |mp (i:Nat)
 |iB (i:Nat) (k:Int) (w j:Nat)
 |bL (i o n cap:Nat)
 |agg (l:List aT)
 |cM (l:List aT)
 |fn (f:FuncId) (a c:List aT)
 |off
instance:Inhabited aT:=⟨.off⟩
mutual
def den (bs:List Nat):aT→aa
 | .aI x=>x.plain
 | .own l=> .slice true l
 | .b c=> .bool c.val
 | .loc i off=> .ptr ⟨bs.getD i 0,off,none⟩
 | .ms i n cap=> .ms ⟨bs.getD i 0,0,none⟩ n cap
 | .mp i=> .map (bs.getD i 0)
 | .iB i k w j=> .ptr ⟨bs.getD i 0,0+k.toNat*w+j,none⟩
 | .bL i o n cap=> .ms ⟨bs.getD i 0,o,none⟩ n cap
 | .agg l=> .agg (bl bs l)
 | .cM l=> .tuple (bl bs l)
 | .fn f a c=> .func (.func f) (bl bs a) (bl bs c)
 | .off=> .lazy false .aP
def bl (bs:List Nat):List aT→List aa
 |[]=>[]
 |v::r=>den bs v::bl bs r
end
theorem lg (bs:List Nat) (l:List aT):bl bs l=l.map (den bs):=by
 induction l with
 |nil=>simp only [bl,List.map_nil]
 |cons v r aO=>simp only [bl,List.map_cons,aO]
theorem kK (bs:List Nat) (l:List aT):(bl bs l).length=l.length:=by rw [lg,List.length_map]
mutual
theorem tY:∀(x:aa),x.plain.plain=x.plain
 | .agg l=>by simp only [aa.plain,zc l]
 | .tuple l=>by simp only [aa.plain,zc l]
 | .lazy g x=>by simp only [aa.plain,tY x]
 | .slice _ _=>by simp only [aa.plain]
 | .bool _| .int _ _| .str _| .ptr _| .eK| .ref _| .ms _ _ _| .map _| .iq| .func _ _ _| .jg| .eR| .iface _ _| .nilIface| .err _ _| .opt _| .aP=>by simp only [aa.plain]
theorem zc:∀(l:List aa),aa.ey (aa.ey l)=aa.ey l
 |[]=>by simp only [aa.ey]
 |x::r=>by simp only [aa.ey,tY x,zc r]
end
abbrev bM:=List (Nat×aT)
def bf (bs:List Nat):bM→Fr
 |[]=>[]
 |(t,v)::r=>(t,den bs v)::bf bs r
def dU:bM→Nat→aT
 |[],_=> .aI .aP
 |(s,x)::r,t=>bif Nat.beq s t then x else dU r t
def ko:bM→Nat→(aT→Prop)→Prop
 |[],_,k=>k (.aI .aP)
 |(s,x)::r,t,k=>bif Nat.beq s t then k x else ko r t k
theorem lh:∀(fr:bM) (t:Nat) (k:aT→Prop),ko fr t k=k (dU fr t)
 |[],_,_=>rfl
 |(s,x)::r,t,k=>by
  simp only [ko,dU]
  cases Nat.beq s t
  · exact lh r t k
  · rfl
theorem kp (bs:List Nat):∀(fr:bM) (t:Nat),bc (bf bs fr) t=den bs (dU fr t)
 |[],t=>by simp only [bf,bc,Fr.get,Option.getD_none,dU,den,aa.plain]
 |(s,x)::r,t=>by
  have aO:=kp bs r t
  simp only [bc] at aO
  simp only [bf,bc,Fr.get,dU]
  by_cases h:s=t
  · subst h;simp
  · have:Nat.beq s t=false:=by
     cases ag:Nat.beq s t with
     |false=>rfl
     |true=>exact absurd (Nat.eq_of_beq_eq_true ag) h
    simp only [h,if_false,this,cond_false,aO]
def bH (b:Bool) (p:Prop):Prop:=
 match b with
 |true=>p
 |false=>False
theorem cY {b:Bool} {p:Prop}:bH b p↔b=true∧p:=by cases b<;>simp [bH]
def fD {α:Type}:List α→(List α→Prop)→Prop
 |[],k=>k []
 |x::r,k=>fD r (fun fz=>k (x::fz))
theorem gJ {α:Type}:∀(l:List α) (k:List α→Prop),fD l k=k l
 |[],_=>rfl
 |x::r,k=>by rw [fD,gJ r]
def nth {α:Type}:List α→Nat→Option α
 |[],_=>none
 |x::_,0=>some x
 |_::r,i+1=>nth r i
theorem iV {α:Type}:∀(l:List α) (i:Nat),nth l i=l[i]?
 |[],_=>by simp [nth]
 |x::_,0=>by simp [nth]
 |_::r,i+1=>by simp [nth,iV r i]
def tZ:aT→(aT→Prop)→Prop
 | .own l,k=>k (.aI (.slice false l))
 | .aI x,k=>k (.aI x)
 | .b c,k=>k (.b c)
 | .loc i o,k=>k (.loc i o)
 | .ms i n c,k=>k (.ms i n c)
 | .mp i,k=>k (.mp i)
 | .iB i a w j,k=>k (.iB i a w j)
 | .bL i o n c,k=>k (.bL i o n c)
 | .fn f a c,k=>k (.fn f a c)
 | .agg _,_| .cM _,_| .off,_=>False
theorem mA (bs:List Nat):∀{v:aT} {k:aT→Prop},tZ v k→∃u,k u∧den bs u=(den bs v).plain
 | .own l,_,h=>⟨_,h,by simp only [den,aa.plain]⟩
 | .aI x,_,h=>⟨_,h,by simp only [den,tY]⟩
 | .b _,_,h| .loc _ _,_,h| .ms _ _ _,_,h| .mp _,_,h| .iB _ _ _ _,_,h| .bL _ _ _ _,_,h| .fn _ _ _,_,h=>⟨_,h,by simp only [den,aa.plain]⟩
 | .agg _,_,h| .cM _,_,h| .off,_,h=>h.elim
def qF:List aT→(List aT→Prop)→Prop
 |[],k=>k []
 |v::r,k=>tZ v (fun fN=>qF r (fun fz=>k (fN::fz)))
theorem rU (bs:List Nat):∀{l:List aT} {k:List aT→Prop},qF l k→∃u,k u∧bl bs u=aa.ey (bl bs l)
 |[],_,h=>⟨_,h,by simp only [bl,aa.ey]⟩
 |v::r,k,h=>by
  obtain ⟨fN,I,ay⟩:=mA bs h
  obtain ⟨fz,J,az⟩:=rU bs I
  exact ⟨_,J,by simp only [bl,aa.ey,ay,az]⟩
def pK:aT→(aT→Prop)→Prop
 | .agg l,k=>qF l (fun l'=>k (.agg l'))
 | .off,k=>k .off
 | .cM l,k=>k (.cM l)
 |v,k=>tZ v k
def oS:aT→Bool
 | .cM _=>false
 |_=>true
theorem rV (bs:List Nat) {v:aT} {k:aT→Prop} (aJ:oS v=true) (h:pK v k):∃u,k u∧den bs u=(den bs v).plain:=by
 cases v with
 |agg l=>
  obtain ⟨u,I,e⟩:=rU bs h
  exact ⟨_,I,by simp only [den,aa.plain,e]⟩
 |off=>exact ⟨_,h,by simp only [den,aa.plain]⟩
 |cM l=>simp [oS] at aJ
 |aI x=>exact mA bs h
 |own l=>exact mA bs h
 |b l=>exact mA bs h
 |loc i o=>exact mA bs h
 |ms i n c=>exact mA bs h
 |mp i=>exact mA bs h
 |iB i a w j=>exact mA bs h
 |bL i a w j=>exact mA bs h
 |fn f a c=>exact mA bs h
def mB:aa→(aa→Prop)→Prop
 | .bool b,k=>k (.bool b)
 | .int cu n,k=>k (.int cu n)
 | .str s,k=>k (.str s)
 | .ptr a,k=>k (.ptr a)
 | .eK,k=>k .eK
 | .ref l,k=>k (.ref l)
 | .slice false l,k=>k (.slice false l)
 | .ms a n c,k=>k (.ms a n c)
 | .map b,k=>k (.map b)
 | .iq,k=>k .iq
 | .func f a c,k=>k (.func f a c)
 | .jg,k=>k .jg
 | .eR,k=>k .eR
 | .iface t v,k=>k (.iface t v)
 | .nilIface,k=>k .nilIface
 | .err t e,k=>k (.err t e)
 | .opt b,k=>k (.opt b)
 |_,_=>False
theorem n1 {x:aa} {k:aa→Prop} (h:mB x k):x.plain=x∧k x:=by
 cases x with
 |slice o l=>cases o with
  |true=>exact h.elim
  |false=>exact ⟨by simp only [aa.plain],h⟩
 |agg l=>exact h.elim
 |tuple l=>exact h.elim
 |lazy g x=>exact h.elim
 |aP=>exact h.elim
 |_=>exact ⟨by simp only [aa.plain],h⟩
def vY:List aa→(List aa→Prop)→Prop
 |[],k=>k []
 |x::r,k=>mB x (fun bD=>vY r (fun fz=>k (bD::fz)))
theorem zd:∀{l:List aa} {k:List aa→Prop},vY l k→aa.ey l=l∧k l
 |[],_,h=>⟨by simp only [aa.ey],h⟩
 |x::r,k,h=>by
  obtain ⟨ay,I⟩:=n1 h
  obtain ⟨az,J⟩:=zd I
  exact ⟨by simp only [aa.ey,ay,az],J⟩
def rW:aa→(aa→Prop)→Prop
 | .agg l,k=>vY l (fun l'=>k (.agg l'))
 |x,k=>mB x k
theorem vZ {x:aa} {k:aa→Prop} (h:rW x k):x.plain=x∧k x:=by
 cases x with
 |agg l=>
  obtain ⟨e,I⟩:=zd h
  exact ⟨by simp only [aa.plain,e],I⟩
 |_=>exact n1 h
def ze:aa→(List aa→Prop)→Prop
 | .agg l,k=>fD l k
 |x,k=>mB x (fun bD=>k [bD])
theorem Lc {x:aa} {k:List aa→Prop} (h:ze x k):k x.cells:=by
 cases x with
 |agg l=>rw [ze,gJ] at h;exact h
 |slice o l=>exact (n1 (x:= .slice o l) (k:=fun bD=>k [bD]) h).2
 |_=>first|exact (n1 (k:=fun bD=>k [bD]) h).2|exact h|exact h.elim
def oT:aa→aT
 | .bool b=> .b (.raw b)
 |x=> .aI x
theorem oU (bs:List Nat) (x:aa):den bs (oT x)=x.plain:=by
 cases x<;>simp only [oT,den,bT.val,aa.plain]
def ua:aa→(aT→Prop)→Prop
 | .bool b,k=>k (.b (.raw b))
 |x,k=>k (.aI x)
theorem v7 (x:aa) (k:aT→Prop):ua x k=k (oT x):=by
 cases x<;>rfl
def ub:Value→(aT→Prop)→Prop
 | .bool b,k=>k (.b (.lit b))
 | .int cu n,k=>k (.aI (.int cu n))
 | .string s,k=>fD s.data.toList (fun l=>k (.aI (.str l)))
 | .pointer none,k=>k (.aI .eK)
 | .slice none _ _,k=>k (.own [])
 | .map none,k=>k (.aI .iq)
 | .nilFunc,k=>k (.aI .jg)
 | .nilIface,k=>k (.aI .nilIface)
 |_,_=>False
theorem DL (bs:List Nat) {v:Value} {k:aT→Prop} (h:ub v k):∃u,k u∧den bs u=hS v:=by
 unfold ub at h
 split at h
 all_goals first|exact h.elim|exact ⟨_,h,by simp only [den,bT.val,hS,aa.plain]⟩|skip
 rw [gJ] at h
 exact ⟨_,h,by simp only [den,hS,aa.plain]⟩
def zf:List Value→(List aT→Prop)→Prop
 |[],k=>k []
 |v::r,k=>ub v (fun fN=>zf r (fun fz=>k (fN::fz)))
theorem DM (bs:List Nat):∀{l:List Value} {k:List aT→Prop},zf l k→∃u,k u∧bl bs u=l.map hS
 |[],_,h=>⟨_,h,by simp only [bl,List.map_nil]⟩
 |v::r,k,h=>by
  obtain ⟨fN,I,ay⟩:=DL bs h
  obtain ⟨fz,J,az⟩:=DM bs I
  exact ⟨_,J,by simp only [bl,List.map_cons,ay,az]⟩
def v8:Value→(aT→Prop)→Prop
 | .agg cs,k=>zf cs.toList (fun l=>k (.agg l))
 | .iface t (.int cu n),k=>k (.aI (.iface t (.int cu n)))
 |v,k=>ub v k
theorem DN (bs:List Nat) {v:Value} {k:aT→Prop} (h:v8 v k):∃u,k u∧den bs u=jj v:=by
 unfold v8 at h
 split at h
 · obtain ⟨u,I,e⟩:=DM bs h
   exact ⟨_,I,by simp only [den,jj,e]⟩
 · exact ⟨_,h,by simp only [den,jj,hS,aa.plain]⟩
 · obtain ⟨u,I,e⟩:=DL bs h
   refine ⟨u,I,e.trans ?_⟩
   rename_i ba ab
   cases v<;>first|rfl|(simp only [ub] at h)
def ei (fr:bM):Operand→(aT→Prop)→Prop
 | .tmp t,k=>ko fr t (fun v=>bH (oS v) (pK v k))
 | .const v,k=>v8 v k
 | .global g,k=>k (.aI (.ptr ⟨g,0,none⟩))
 | .func f,k=>k (.fn f [] [])
theorem eA (bs:List Nat) {fr:bM} {x:Operand} {k:aT→Prop} (h:ei fr x k):∃v,k v∧den bs v=bR (bc (bf bs fr)) x:=by
 cases x with
 |tmp t=>
  rw [ei,lh,cY] at h
  obtain ⟨v,I,e⟩:=rV bs h.1 h.2
  exact ⟨v,I,by rw [e,bR,kp]⟩
 |const v=>
  obtain ⟨u,I,e⟩:=DN bs h
  exact ⟨u,I,e⟩
 |global g=>exact ⟨_,h,by simp only [den,aa.plain,bR]⟩
 |func f=>exact ⟨_,h,by simp only [den,bl,bR]⟩
def wa (fr:bM):Operand→(aT→Prop)→Prop
 | .tmp t,k=>ko fr t k
 | .const v,k=>v8 v k
 | .global g,k=>k (.aI (.ptr ⟨g,0,none⟩))
 | .func f,k=>k (.fn f [] [])
def qG (fr:bM):List Operand→(List aT→Prop)→Prop
 |[],k=>k []
 |x::r,k=>ei fr x (fun v=>qG fr r (fun fz=>k (v::fz)))
theorem rX (bs:List Nat) {fr:bM}:∀{l:List Operand} {k:List aT→Prop},qG fr l k→∃u,k u∧bl bs u=l.map (bR (bc (bf bs fr)))
 |[],_,h=>⟨_,h,by simp only [bl,List.map_nil]⟩
 |x::r,k,h=>by
  obtain ⟨v,I,ay⟩:=eA bs h
  obtain ⟨fz,J,az⟩:=rX bs I
  exact ⟨_,J,by simp only [bl,List.map_cons,ay,az]⟩
inductive br where
 |cells (l:List aT)
 |obj (o:e2)
def fb (bs:List Nat):br→e2
 | .cells l=> .cells (bl bs l)
 | .obj o=>o
def hv (bs:List Nat) (L:List br):List (Nat×e2):=bs.zip (L.map (fb bs))
def bC (bs:List Nat) (L:List br) (m:ae):ae:=m.a1 (hv bs L)
structure Good (bs:List Nat) (L:List br) (m:ae):Prop where
 kL:bs.Nodup
 len:bs.length=L.length
 fresh:∀b∈bs,m b=none
theorem oV {bs:List Nat} {L:List br} (h:bs.length=L.length):(hv bs L).map Prod.fst=bs:=by
 rw [hv,List.map_fst_zip]
 simp [h]
theorem Good.nodup {bs:List Nat} {L:List br} {m:ae} (g:Good bs L m):((hv bs L).map Prod.fst).Nodup:=by rw [oV g.len];exact g.kL
theorem zg {bs:List Nat} {L:List br} {i:Nat} {o:br} (h:bs.length=L.length) (aD:L[i]?=some o):(hv bs L)[i]?=some (bs.getD i 0,fb bs o):=by
 have ab:i<L.length:=by
  rcases Nat.lt_or_ge i L.length with cm|cm
  · exact cm
  · rw [List.getElem?_eq_none cm] at aD;cases aD
 have ag:bs[i]?=some (bs.getD i 0):=by
  rw [List.getD_eq_getElem?_getD,List.getElem?_eq_getElem (by omega)];rfl
 simp only [hv,List.zip,List.getElem?_zipWith,ag,List.getElem?_map,aD,Option.map_some]
theorem nn {bs:List Nat} {L:List br} {m:ae} (g:Good bs L m) {i:Nat} {o:br} (aD:L[i]?=some o):bC bs L m (bs.getD i 0)=some (fb bs o):=
 oO i g.nodup (zg g.len aD)
theorem DO {bs:List Nat} {L:List br} {i:Nat} {o:br}:(hv bs L).set i (bs.getD i 0,fb bs o)=hv bs (L.set i o)∨bs.length≤i:=by
 rcases Nat.lt_or_ge i bs.length with h|h
 · left
   have ag:bs=bs.set i (bs.getD i 0):=by
    rw [List.getD_eq_getElem?_getD,List.getElem?_eq_getElem h];simp
   simp only [hv,List.map_set]
   conv=>rhs;rw [ag,←ag]
   apply List.ext_getElem?
   intro j
   simp only [List.zip,List.getElem?_set,List.getElem?_zipWith,List.length_zipWith,List.length_map]
   by_cases aG:i=j
   · subst aG
     rw [List.getD_eq_getElem?_getD,List.getElem?_eq_getElem h]
     by_cases av:i<L.length
     · have:i<min bs.length L.length:=by omega
       simp [av,this]
     · have:¬i<min bs.length L.length:=by omega
       simp [av,this]
   · simp [aG]
 · exact .inr h
theorem mem_set {bs:List Nat} {L:List br} {m:ae} (g:Good bs L m) {i:Nat} {o ez:br} (aD:L[i]?=some o):(bC bs L m).bX (bs.getD i 0) (some (fb bs ez))=bC bs (L.set i ez) m:=by
 rw [bC,yV i g.nodup (zg g.len aD)]
 rcases DO (bs:=bs) (L:=L) (i:=i) (o:=ez) with h|h
 · rw [h];rfl
 · have tj:=g.len
   have:i<L.length:=by
    rcases Nat.lt_or_ge i L.length with cm|cm
    · exact cm
    · rw [List.getElem?_eq_none cm] at aD;cases aD
   omega
theorem Good.set {bs:List Nat} {L:List br} {m:ae} (g:Good bs L m) (i:Nat) (o:br):Good bs (L.set i o) m:=⟨g.kL,by rw [List.length_set];exact g.len,g.fresh⟩
def uc (n:Nat):aT→Bool
 | .loc i _| .ms i _ _| .mp i| .iB i _ _ _| .bL i _ _ _=>Nat.ble (i+1) n
 | .agg _| .cM _| .fn _ _ _=>false
 |_=>true
def mC (n:Nat):List aT→Bool
 |[]=>true
 |v::r=>bif uc n v then mC n r else false
def wb (n:Nat):aT→Bool
 | .agg l| .cM l=>mC n l
 | .fn _ a c=>bif mC n a then mC n c else false
 |v=>uc n v
def oW (n:Nat):bM→Bool
 |[]=>true
 |(_,v)::r=>bif wb n v then oW n r else false
def wc (n:Nat):br→Bool
 | .cells l=>mC n l
 | .obj _=>true
def lU (n:Nat):List br→Bool
 |[]=>true
 |o::r=>bif wc n o then lU n r else false
theorem ud {bs x:List Nat} {i:Nat} (h:Nat.ble (i+1) bs.length=true):(bs++x).getD i 0=bs.getD i 0:=by
 have cm:i<bs.length:=Nat.le_of_ble_eq_true h
 rw [List.getD_eq_getElem?_getD,List.getD_eq_getElem?_getD,List.getElem?_append_left cm]
theorem DP {bs x:List Nat} {v:aT} (h:uc bs.length v=true):den (bs++x) v=den bs v:=by
 cases v with
 |loc i o=>simp only [den,ud (x:=x) h]
 |ms i n c=>simp only [den,ud (x:=x) h]
 |mp i=>simp only [den,ud (x:=x) h]
 |iB i k w j=>simp only [den,ud (x:=x) h]
 |bL i o n c=>simp only [den,ud (x:=x) h]
 |agg l=>cases h
 |cM l=>cases h
 |fn f a c=>cases h
 |_=>simp only [den]
theorem qH {bs x:List Nat}:∀{l:List aT},mC bs.length l=true→bl (bs++x) l=bl bs l
 |[],_=>by simp only [bl]
 |v::r,h=>by
  simp only [mC] at h
  cases ba:uc bs.length v with
  |false=>rw [ba] at h;cases h
  |true=>rw [ba] at h;simp only [bl,DP ba,qH (l:=r) h]
theorem Ld {bs x:List Nat} {v:aT} (h:wb bs.length v=true):den (bs++x) v=den bs v:=by
 cases v with
 |agg l=>simp only [den,qH (x:=x) (l:=l) h]
 |cM l=>simp only [den,qH (x:=x) (l:=l) h]
 |fn f a c=>
  simp only [wb] at h
  cases aN:mC bs.length a with
  |false=>rw [aN] at h;cases h
  |true=>rw [aN] at h;simp only [den,qH (x:=x) aN,qH (x:=x) (l:=c) h]
 |_=>exact DP h
theorem we {bs x:List Nat}:∀{fr:bM},oW bs.length fr=true→bf (bs++x) fr=bf bs fr
 |[],_=>rfl
 |(t,v)::r,h=>by
  simp only [oW] at h
  cases ba:wb bs.length v with
  |false=>rw [ba] at h;cases h
  |true=>rw [ba] at h;simp only [bf,Ld ba,we (fr:=r) h]
theorem zh {bs x:List Nat}:∀{L:List br},lU bs.length L=true→L.map (fb (bs++x))=L.map (fb bs)
 |[],_=>rfl
 |o::r,h=>by
  simp only [lU] at h
  cases ba:wc bs.length o with
  |false=>rw [ba] at h;cases h
  |true=>
   rw [ba] at h
   simp only [List.map_cons,zh (L:=r) h]
   cases o with
   |cells l=>simp only [fb,qH (x:=x) (l:=l) ba]
   |obj o=>simp only [fb]
theorem Le {bs:List Nat} {L:List br} {m:ae} (g:Good bs L m) (aj:lU bs.length L=true) {b:Nat} (ag:bC bs L m b=none) (o:br):
 Good (bs++[b]) (L++[o]) m∧bC (bs++[b]) (L++[o]) m=(bC bs L m).bX b (some (fb (bs++[b]) o)):=by
 have aM:=KG ag
 rw [oV g.len] at aM
 have rG:Good (bs++[b]) (L++[o]) m:=by
  refine ⟨?_,by simp [g.len],?_⟩
  · rw [List.nodup_append]
    exact ⟨g.kL,by simp,fun a aN c ah=>by simp at ah;subst ah;exact fun e=>aM.1 (e▸aN)⟩
  · intro c ah
    rcases List.mem_append.1 ah with h|h
    · exact g.fresh c h
    · simp at h;subst h;exact aM.2
 refine ⟨rG,?_⟩
 have e:hv (bs++[b]) (L++[o])=hv bs L++[(b,fb (bs++[b]) o)]:=by
  simp only [hv,List.map_append,List.map_cons,List.map_nil,zh (x:=[b]) aj]
  rw [List.zip_append (by simp [g.len])]
  rfl
 have aB:(hv (bs++[b]) (L++[o])).Perm ((b,fb (bs++[b]) o)::hv bs L):=by
  rw [e];exact List.perm_append_comm
 rw [bC,Dq rG.nodup aB]
 rfl
end Go.b4
end
section
namespace Go.b4
open Go Go.bb
inductive iC where
 |int (k:IntKind)
 |str
 |bool
 |bL (e:Nat)
 |st (cj:List (Nat×Nat))
 |mp (k e:Nat)
 |ptr
 |kq
 |Lf
inductive Z where
 |i (k:IntKind)
 |s
 |b
 |p
 |l
 |m
 |f
 |n
structure gl where
 k:iC
 n:Nat
 y:Nat
 z:List Z
abbrev hc:=List (Nat×gl)
def iC.hx:iC→Bool
 | .st _=>true
 |_=>false
def kindOk (P:Program) (d:TypeDesc):iC→Bool
 | .int k=>match d with| .int cX=>decide (k=cX)|_=>false
 | .str=>match d with| .string=>true|_=>false
 | .bool=>match d with| .bool=>true|_=>false
 | .bL e=>match d with| .slice bY=>Nat.beq e bY&&dG P e&&Nat.ble 1 (P.cellsOf e)&&jP P e|_=>false
 | .st cj=>match d with| .struct dr=>decide (dr.toList.map (fun f=>(f.offset,f.type))=cj)&&dr.toList.all (fun f=>dG P f.type&&!(Nat.beq (P.cellsOf f.type) 0))|_=>false
 | .mp k e=>match d with| .map cX bY=>Nat.beq k cX&&Nat.beq e bY|_=>false
 | .ptr=>match d with| .pointer _=>true|_=>false
 | .kq=>match d with| .interface _=>true|_=>false
 | .Lf=>match d with| .interface _| .struct _| .array _ _=>false|_=>true
def qI:Value→Z→Bool
 | .int k n, .i cX=>decide (k=cX)&&decide (n=0)
 | .string s, .s=>decide (s.data.toList=[])
 | .bool b, .b=>!b
 | .pointer none, .p=>true
 | .slice none n c, .l=>Nat.beq n 0&&Nat.beq c 0
 | .map none, .m=>true
 | .nilFunc, .f=>true
 | .nilIface, .n=>true
 |_,_=>false
def oX:List Value→List Z→Bool
 |[],[]=>true
 |v::r,z::s=>qI v z&&oX r s
 |_,_=>false
def rY (v:Value) (st:Bool) (z:List Z):Bool:=
 match v with
 | .agg cs=>st&&oX cs.toList z
 |v=>!st&&oX [v] z
def Z.qJ:Z→aT
 | .i k=> .aI (.int k 0)
 | .s=> .aI (.str [])
 | .b=> .b (.lit false)
 | .p=> .aI .eK
 | .l=> .own []
 | .m=> .aI .iq
 | .f=> .aI .jg
 | .n=> .aI .nilIface
def ju:List Z→List aT
 |[]=>[]
 |z::r=>z.qJ::ju r
def wg (P:Program) (t:Nat) (i:gl):Bool:=
 (match P.underlying t with|some d=>kindOk P d i.k&&(jM P t==i.k.hx)|none=>false)&&dG P t&&Nat.beq (P.cellsOf t) i.n&&Nat.beq (P.bytesOf t) i.y&&
 (match i.k with| .int _=>(P.info? t).map (·.comparable)==some true|_=>true)&&
 (match i.z with|[]=>true|z=>match (P.info? t).bind (·.zero) with|some v=>nF v&&rY v i.k.hx z&&Nat.beq z.length i.n|none=>false)
def eO (P:Program) (T:hc):Bool:=T.all fun p=>wg P p.1 p.2
def cQ:hc→Nat→(gl→Prop)→Prop
 |[],_,_=>False
 |(s,i)::r,t,k=>bif Nat.beq s t then k i else cQ r t k
section
variable {P:Program} {T:hc}
theorem Lg (h:eO P T=true) {t:Nat} {k:gl→Prop}:cQ T t k→∃i,wg P t i=true∧k i:=by
 induction T with
 |nil=>exact fun h=>h.elim
 |cons p r aO=>
  obtain ⟨s,i⟩:=p
  simp only [eO,List.all_cons,Bool.and_eq_true] at h
  intro ai
  simp only [cQ] at ai
  cases ag:Nat.beq s t with
  |true=>
   rw [ag] at ai
   rw [Nat.eq_of_beq_eq_true ag] at h
   exact ⟨i,h.1,ai⟩
  |false=>
   rw [ag] at ai
   exact aO h.2 ai
structure fu (P:Program) (t:Nat) (i:gl):Prop where
 u:∃d,P.underlying t=some d∧kindOk P d i.k=true
 ue:jM P t=i.k.hx
 is:dG P t=true
 cells:P.cellsOf t=i.n
 bytes:P.bytesOf t=i.y
 cmp:∀k,i.k= .int k→(P.info? t).map (·.comparable)=some true
 zero:i.z≠[]→∃v,(P.info? t).bind (·.zero)=some v∧nF v=true∧rY v i.k.hx i.z=true∧i.z.length=i.n
theorem fu.of {t:Nat} {i:gl} (h:wg P t i=true):fu P t i:=by
 simp only [wg,Bool.and_eq_true] at h
 obtain ⟨⟨⟨⟨⟨I,J⟩,ak⟩,aH⟩,bw⟩,aQ⟩:=h
 cases a7:P.underlying t with
 |none=>rw [a7] at I;cases I
 |some d=>
  rw [a7] at I
  simp only [Bool.and_eq_true,beq_iff_eq] at I
  refine ⟨⟨d,a7,I.1⟩,I.2,J,Nat.eq_of_beq_eq_true ak,Nat.eq_of_beq_eq_true aH,fun k ai=>?_,fun au=>?_⟩
  · rw [ai] at bw;simpa using bw
  · cases np:i.z with
    |nil=>exact absurd np au
    |cons z r=>
     rw [np] at aQ
     simp only at aQ
     cases ab:(P.info? t).bind (·.zero) with
     |none=>rw [ab] at aQ;cases aQ
     |some v=>
      rw [ab] at aQ
      simp only [Bool.and_eq_true] at aQ
      exact ⟨v,rfl,aQ.1.1,aQ.1.2,Nat.eq_of_beq_eq_true aQ.2⟩
theorem fu.int {t:Nat} {i:gl} (h:fu P t i) {k:IntKind} (ai:i.k= .int k):P.underlying t=some (.int k):=by
 obtain ⟨d,I,J⟩:=h.u
 rw [ai] at J
 cases d<;>simp [kindOk] at J
 rw [I,J]
theorem fu.str {t:Nat} {i:gl} (h:fu P t i) (ai:i.k= .str):P.underlying t=some .string:=by
 obtain ⟨d,I,J⟩:=h.u
 rw [ai] at J
 cases d<;>simp [kindOk] at J
 exact I
theorem fu.bool {t:Nat} {i:gl} (h:fu P t i) (ai:i.k= .bool):P.underlying t=some .bool:=by
 obtain ⟨d,I,J⟩:=h.u
 rw [ai] at J
 cases d<;>simp [kindOk] at J
 exact I
theorem fu.bL {t:Nat} {i:gl} (h:fu P t i) {e:Nat} (ai:i.k= .bL e):P.underlying t=some (.slice e)∧dG P e=true∧0<P.cellsOf e∧jP P e=true:=by
 obtain ⟨d,I,J⟩:=h.u
 rw [ai] at J
 cases d<;>simp [kindOk] at J
 obtain ⟨⟨⟨ak,aH⟩,aQ⟩,bw⟩:=J
 obtain rfl:=ak
 exact ⟨I,aH,aQ,bw⟩
theorem fu.st {t:Nat} {i:gl} (h:fu P t i) {cj:List (Nat×Nat)} (ai:i.k= .st cj):∃dr,P.underlying t=some (.struct dr)∧dr.toList.map (fun f=>(f.offset,f.type))=cj∧∀f∈dr.toList,dG P f.type=true∧P.cellsOf f.type≠0:=by
 obtain ⟨d,I,J⟩:=h.u
 rw [ai] at J
 cases d<;>simp only [kindOk] at J<;>try (cases J;done)
 simp only [Bool.and_eq_true,decide_eq_true_eq,List.all_eq_true,Bool.not_eq_true'] at J
 refine ⟨_,I,J.1,fun f aM=>⟨(J.2 f aM).1,fun e=>?_⟩⟩
 have:=(J.2 f aM).2
 rw [e] at this
 cases this
theorem fu.mp {t:Nat} {i:gl} (h:fu P t i) {k e:Nat} (ai:i.k= .mp k e):P.underlying t=some (.map k e):=by
 obtain ⟨d,I,J⟩:=h.u
 rw [ai] at J
 cases d<;>simp [kindOk] at J
 rw [I,J.1,J.2]
theorem fu.kq {t:Nat} {i:gl} (h:fu P t i) (ai:i.k= .kq):∃ms,P.underlying t=some (.interface ms):=by
 obtain ⟨d,I,J⟩:=h.u
 rw [ai] at J
 cases d<;>simp [kindOk] at J
 exact ⟨_,I⟩
theorem fu.ptr {t:Nat} {i:gl} (h:fu P t i) (ai:i.k= .ptr):∃ms,P.underlying t=some (.pointer ms):=by
 obtain ⟨d,I,J⟩:=h.u
 rw [ai] at J
 cases d<;>simp [kindOk] at J
 exact ⟨_,I⟩
def iC.qK:iC→Bool
 | .kq=>false
 |_=>true
theorem fu.qK {t:Nat} {i:gl} (h:fu P t i) (ai:i.k.qK=true):∃d,P.underlying t=some d∧∀ms,d≠ .interface ms:=by
 obtain ⟨d,I,J⟩:=h.u
 refine ⟨d,I,fun ms e=>?_⟩
 subst e
 cases ab:i.k<;>rw [ab] at J ai<;>simp [kindOk,iC.qK] at J ai
end
def rZ (w:Bool) (cu:IntKind) (r:Int) (k:aT→Prop):Prop:=
 match w,cu with
 |false, .i64=>(-9223372036854775808≤r∧r≤9223372036854775807)∧k (.aI (.int .i64 r))
 |_,cu=>k (.aI (.int cu (cu.wrap r)))
theorem wh {w:Bool} {cu:IntKind} {r:Int} {k:aT→Prop} (h:rZ w cu r k):k (.aI (.int cu (cu.wrap r))):=by
 unfold rZ at h
 split at h
 · rw [wrap64 _ h.1.1 h.1.2];exact h.2
 · exact h
def uf:IntKind→IntKind→Bool
 | .i64, .i64| .u8, .u8| .i8, .i8| .i16, .i16| .i32, .i32| .u16, .u16| .u32, .u32| .u64, .u64=>true
 |_,_=>false
theorem wi {a b:IntKind} (h:uf a b=true):a=b:=by cases a<;>cases b<;>first|rfl|cases h
def DQ (w:Bool) (op:BinOp) (cu:IntKind) (a b:Int) (k:aT→Prop):Prop:=
 match op with
 | .add=>rZ w cu (a+b) k
 | .sub=>rZ w cu (a- b) k
 | .mul=>rZ w cu (a*b) k
 | .quo=>b≠0∧k (.aI (.int cu (cu.wrap (a.tdiv b))))
 | .rem=>(b≠0∧cu.min≤a.tmod b∧a.tmod b≤cu.max)∧k (.aI (.int cu (a.tmod b)))
 | .and=>k (.aI (.int cu (cu.wrap (BitVec.ofInt cu.bits a &&& BitVec.ofInt cu.bits b).toNat)))
 | .or=>k (.aI (.int cu (cu.wrap (BitVec.ofInt cu.bits a ||| BitVec.ofInt cu.bits b).toNat)))
 | .xor=>k (.aI (.int cu (cu.wrap (BitVec.ofInt cu.bits a ^^^ BitVec.ofInt cu.bits b).toNat)))
 | .eql=>k (.b (.pJ a b))
 | .neq=>k (.b (.not (.pJ a b)))
 | .lss=>k (.b (.lt a b))
 | .leq=>k (.b (.le a b))
 | .gtr=>k (.b (.lt b a))
 | .geq=>k (.b (.le b a))
 |_=>False
def DR (op:BinOp) (cu:IntKind) (a b:Int) (k:aT→Prop):Prop:=
 match op with
 | .shl=>0≤b∧k (.aI (.int cu (cu.wrap (a*2^(min b.toNat cu.bits)))))
 | .shr=>(0≤b∧cu.min≤a.fdiv (2^(min b.toNat cu.bits))∧a.fdiv (2^(min b.toNat cu.bits))≤cu.max)∧k (.aI (.int cu (a.fdiv (2^(min b.toNat cu.bits)))))
 |_=>False
def DS:BinOp→Bool
 | .shl| .shr=>true
 |_=>false
def DT (op:BinOp) (a b:List UInt8) (k:aT→Prop):Prop:=
 match op with
 | .add=>a.length+b.length≤140737488355328∧k (.aI (.str (a++b)))
 | .eql=>k (.b (.eqs a b))
 | .neq=>k (.b (.not (.eqs a b)))
 | .lss=>k (.b (.raw (Op.bytesLess a b)))
 | .leq=>k (.b (.raw (Op.bytesLess a b||a==b)))
 | .gtr=>k (.b (.not (.raw (Op.bytesLess a b||a==b))))
 | .geq=>k (.b (.not (.raw (Op.bytesLess a b))))
 |_=>False
def ug (op:BinOp) (c:bT) (k:aT→Prop):Prop:=
 match op with
 | .eql=>k (.b c)
 | .neq=>k (.b (.not c))
 |_=>False
def qL (op:BinOp) (c:Bool) (k:aT→Prop):Prop:=
 match op with
 | .eql=>k (.b (.lit c))
 | .neq=>k (.b (.lit (!c)))
 |_=>False
def r0:Operand→Bool
 | .const _=>true
 |_=>false
def iC.uh:iC→Bool
 | .kq=>true
 |_=>false
def iC.wj:iC→Bool
 | .ptr=>true
 |_=>false
def iC.isBool:iC→Bool
 | .bool=>true
 |_=>false
def zi (T:hc) (w:Bool) (op:BinOp) (t:Nat) (zj:Bool) (x y:aT) (k:aT→Prop):Prop:=
 match x,y with
 | .aI (.int cu a), .aI (.int oY b)=>
   match DS op with
   |true=>DR op cu a b k
   |false=>bH (uf cu oY) (DQ w op cu a b k)
 | .aI (.str a), .aI (.str b)=>DT op a b k
 | .b c, .b d=>cQ T t fun i=>bH i.k.isBool (ug op (.vX c.val d.val) k)
 | .aI .nilIface, .aI .nilIface=>cQ T t fun i=>bH i.k.uh (bH zj (qL op true k))
 | .aI (.err _ e), .aI .nilIface=>cQ T t fun i=>bH i.k.uh (bH zj (ug op (.pJ e 0) k))
 | .aI (.opt b), .aI .nilIface=>cQ T t fun i=>bH i.k.uh (bH zj (ug op (.not (.raw b)) k))
 | .aI (.iface _ _), .aI .nilIface=>cQ T t fun i=>bH i.k.uh (qL op false k)
 | .aI (.err gZ e), .aI (.iface u (.int cu c))=>cQ T t fun i=>bH i.k.uh (cQ T gZ fun j=>bH (match j.k with| .int .i64=>true|_=>false) (bH (Nat.beq gZ u) (bH (uf .i64 cu) (c≠0∧ug op (.pJ e c) k))))
 | .loc _ _, .aI .eK| .aI .eK, .loc _ _=>cQ T t fun i=>bH i.k.wj (qL op false k)
 | .aI (.ref _), .aI .eK| .aI .eK, .aI (.ref _)=>cQ T t fun i=>bH i.k.wj (qL op false k)
 | .aI (.ptr _), .aI .eK| .aI .eK, .aI (.ptr _)=>cQ T t fun i=>bH i.k.wj (qL op false k)
 | .aI .eK, .aI .eK=>cQ T t fun i=>bH i.k.wj (qL op true k)
 |_,_=>False
end Go.b4
end
section
namespace Go.b4
open Go Go.bb
structure zk (l:List aa) (n:Int) (Q:aa→Prop):Prop where
 h:0≤n∧n<l.length
 q:Q (l.getD n.toNat .aP)
theorem eF {α:Type} [Inhabited α] {f:α→aa} {xs:List α} {n:Int} {Q:aa→Prop} (h:0≤n∧n<xs.length) (gU:Q (f (U xs n))):zk (xs.map f) n Q:=
 ⟨by simpa using h,by rw [idx_eq f xs n h.1 h.2];exact gU⟩
theorem fE {α:Type} [Inhabited α] {f:α→aa} (g:α→aa) (e:∀a,f a=g a) {xs:List α} {n:Int} {Q:aa→Prop} (h:0≤n∧n<xs.length) (gU:Q (g (U xs n))):zk (xs.map f) n Q:=
 eF h (by rw [e];exact gU)
structure DU (l:List aa) (Q:Int→Prop):Prop where
 q:Q l.length
theorem cl {α:Type} {f:α→aa} {xs:List α} {Q:Int→Prop} (gU:Q xs.length):DU (xs.map f) Q:=⟨by rw [List.length_map];exact gU⟩
structure Lh (w:Nat) (l:List aa) (p:Int) (q:Option Int) (Q:List aa→Prop):Prop where
 q:∃ct:Int,q.getD l.length=ct∧(0≤p∧p≤ct∧ct≤l.length∧∀x∈l,x.cells.length=w)∧Q ((l.drop p.toNat).take (ct- p).toNat)
structure DV (l:List aa) (Q:List UInt8→Prop):Prop where
 h:∀x∈l,∃k:Int,x= .int .u8 k
 q:Q (l.map bb.byteOf)
theorem DW {xs:List UInt8} {Q:List UInt8→Prop} (gU:Q xs):DV (xs.map bk) Q:=
 ⟨fun x ao=>by obtain ⟨a,_,rfl⟩:=List.mem_map.1 ao;exact ⟨_,rfl⟩,by rw [H5];exact gU⟩
def zl (v:aT) (k:aT→Prop):Prop:=
 match v with
 | .loc i o=>k (.loc i o)
 | .iB i a w j=>k (.iB i a w j)
 | .aI (.ref l)=>k (.aI (.ref l))
 | .aI (.ptr p)=>k (.aI (.ptr p))
 | .fn f a c=>k (.fn f a c)
 | .aI (.func (.func f) b c)=>k (.aI (.func (.func f) b c))
 |_=>False
structure Li (l:List aa) (st:Bool) (n o:Nat) (Q:aa→Prop):Prop where
 h:(bif st then o+n≤l.length else o<l.length)∧Q (bif st then aa.agg ((l.drop o).take n) else l.getD o .aP)
def oZ (L:List br) (i:gl) (v:aT) (k:aT→Prop):Prop:=
 match v with
 | .aI (.ref l)=>
   match i.k.hx with
   |true=>bH (Nat.ble i.n l.length) (vY (l.take i.n) (fun l'=>k (.aI (.agg l'))))
   |false=>
    match l with
    |y::_=>mB y (fun nI=>ua nI k)
    |[]=>False
 | .loc b off=>
   match nth L b with
   |some (.cells l)=>
    match i.k.hx with
    |true=>bH (Nat.ble (off+i.n) l.length) (qF ((l.drop off).take i.n) (fun l'=>k (.agg l')))
    |false=>
     match nth l off with
     |some v=>tZ v k
     |none=>False
   |_=>False
 | .iB b n w j=>
   match nth L b with
   |some (.obj (.cells l))=>Li l i.k.hx i.n (0+n.toNat*w+j) fun x=>rW x fun bD=>ua bD k
   |_=>False
 |_=>False
def zm (o:Nat) (v:aT) (k:aT→Prop):Prop:=
 match v with
 | .loc b off=>k (.loc b (off+o))
 | .iB b n w j=>k (.iB b n w (j+o))
 | .aI (.ref l)=>bH (Nat.ble (o+1) l.length) (fD (l.drop o) (fun l'=>k (.aI (.ref l'))))
 | .aI (.ptr ⟨b,off,none⟩)=>k (.aI (.ptr ⟨b,off+o,none⟩))
 |_=>False
def zn (o:Nat) (j:gl) (v:aT) (k:aT→Prop):Prop:=
 match v with
 | .agg l=>
   match j.k.hx with
   |true=>bH (Nat.ble (o+j.n) l.length) (fD ((l.drop o).take j.n) (fun l'=>k (.agg l')))
   |false=>
    match nth l o with
    |some u=>k u
    |none=>False
 | .aI (.agg l)=>
   match j.k.hx with
   |true=>bH (Nat.ble (o+j.n) l.length) (fD ((l.drop o).take j.n) (fun l'=>k (.aI (.agg l'))))
   |false=>
    match nth l o with
    |some y=>mB y (fun nI=>ua nI k)
    |none=>False
 |_=>False
def ui (i:gl) (f:Nat) (k:Nat→Nat→Prop):Prop:=
 match i.k with
 | .st cj=>
   match nth cj f with
   |some (o,t)=>k o t
   |none=>False
 |_=>False
def iW (i:gl) (k:Nat→Prop):Prop:=
 match i.k with
 | .bL e=>k e
 |_=>False
def zo (T:hc) (t:Nat) (v:aT) (n:aT) (k:aT→Prop):Prop:=
 match v,n with
 | .aI (.slice _ l), .aI (.int _ n)=>cQ T t fun i=>iW i fun e=>cQ T e fun j=>zk l n fun x=>ze x fun cs=>bH (Nat.beq cs.length j.n) (k (.aI (.ref cs)))
 | .ms b len _, .aI (.int _ n)=>cQ T t fun i=>iW i fun e=>cQ T e fun j=>(0≤n∧n<len)∧k (.iB b n j.n 0)
 |_,_=>False
def iC.isStr:iC→Bool
 | .str=>true
 |_=>false
def zp (T:hc) (t:Nat) (v:aT) (n:aT) (k:aT→Prop):Prop:=
 match v,n with
 | .aI (.str l), .aI (.int _ n)=>cQ T t fun i=>bH i.k.isStr ((0≤n∧n<l.length)∧k (.aI (.int .u8 (U l n).toNat)))
 |_,_=>False
def r1 (v:aT) (n:Nat) (k:aT→Prop):Prop:=
 match v with
 | .cM l=>
   match nth l n with
   |some u=>bH (oS u) (pK u k)
   |none=>False
 | .aI (.tuple l)=>
   match nth l n with
   |some y=>rW y (fun nI=>ua nI k)
   |none=>False
 |_=>False
def wk (fr:bM) (x:Option Operand) (k:Option Int→Prop):Prop:=
 match x with
 |none=>k none
 |some y=>ei fr y fun v=>
  match v with
  | .aI (.int _ n)=>k (some n)
  |_=>False
def zq (T:hc) (t:Nat) (v:aT) (p:Int) (q:Option Int) (k:aT→Prop):Prop:=
 match v with
 | .aI (.str l)=>cQ T t fun i=>bH i.k.isStr (
   match q with
   |some q=>(0≤p∧p≤q∧q≤l.length)∧k (.aI (.str (sub l p q)))
   |none=>(0≤p∧p≤l.length)∧k (.aI (.str (sub l p l.length))))
 | .aI (.slice _ l)=>cQ T t fun i=>iW i fun e=>cQ T e fun j=>Lh j.n l p q fun l'=>k (.aI (.slice false l'))
 | .ms b n c=>cQ T t fun i=>iW i fun e=>cQ T e fun j=>(0≤p∧p≤q.getD n∧q.getD n≤n)∧(p<c→k (.bL b (0+p.toNat*j.n) (q.getD n- p).toNat (c- p.toNat)))∧(c≤p→k (.aI .eR))
 |_=>False
def zr (a b:IntKind) (n:Int) (k:aT→Prop):Prop:=
 match a,b with
 | .i64, .i64=>(-9223372036854775808≤n∧n≤9223372036854775807)∧k (.aI (.int .i64 n))
 | .u8, .i64=>(-9223372036854775808≤n∧n≤9223372036854775807)∧k (.aI (.int .i64 n))
 |_, .u8=>k (.aI (.int .u8 (qA n).toNat))
 |_,b=>k (.aI (.int b (b.wrap n)))
def zs (T:hc) (s d:Nat) (v:aT) (k:aT→Prop):Prop:=
 match v with
 | .aI (.int cu n)=>cQ T s fun _=>cQ T d fun j=>
   match j.k with
   | .int oY=>zr cu oY n k
   |_=>False
 | .aI (.str l)=>cQ T s fun _=>cQ T d fun j=>bH j.k.isStr (k (.aI (.str l)))
 | .aI (.slice _ l)=>cQ T s fun i=>cQ T d fun j=>bH j.k.isStr (iW i fun e=>cQ T e fun h=>bH (match h.k with| .int .u8=>true|_=>false) (DV l fun x=>k (.aI (.str x))))
 |_=>False
def zt (T:hc) (t:Nat) (v:aT) (k:aT→Prop):Prop:=
 match v with
 | .aI (.iface u x)=>cQ T t fun i=>bH i.k.qK (bH (Nat.beq u t) (mB x fun bD=>k (.cM [.aI bD, .b (.lit true)])))
 | .aI (.err u e)=>cQ T t fun i=>bH (match i.k,i.z with| .int .i64,[.i .i64]=>true|_,_=>false) (bH (Nat.beq u t) (k (.cM [.aI (.int .i64 e), .b (.not (.pJ e 0))])))
 |_=>False
def wm (T:hc) (t:Nat) (v:aT) (k:aT→Prop):Prop:=
 match v with
 | .aI x=>cQ T t fun i=>bH i.k.qK (rW x fun bD=>k (.aI (.iface t bD)))
 |_=>False
def iC.zu:iC→Bool
 | .mp _ _=>true
 |_=>false
def iC.vr:iC→Bool
 | .bL _=>true
 |_=>false
def zv (T:hc) (L:List br) (t:Nat) (v:aT) (k:aT→Prop):Prop:=
 match v with
 | .aI (.str l)=>cQ T t fun i=>bH i.k.isStr (k (.aI (.int .i64 l.length)))
 | .aI (.slice _ l)=>cQ T t fun i=>bH i.k.vr (DU l fun n=>k (.aI (.int .i64 n)))
 | .ms _ n _=>cQ T t fun i=>bH i.k.vr (n≤9223372036854775807∧k (.aI (.int .i64 n)))
 | .aI .iq=>cQ T t fun i=>bH i.k.zu (k (.aI (.int .i64 0)))
 | .mp b=>cQ T t fun i=>bH i.k.zu (
   match nth L b with
   |some (.obj (.map l))=>∃n:Nat,l.length=n∧k (.aI (.int .i64 n))
   |_=>False)
 |_=>False
def zw (w:Bool) (op:UnOp) (v:aT) (k:aT→Prop):Prop:=
 match op,v with
 | .not, .b (.lit c)=>k (.b (.lit (!c)))
 | .not, .b (.not c)=>k (.b c)
 | .not, .b c=>k (.b (.not c))
 | .neg, .aI (.int cu n)=>rZ w cu (-n) k
 |_,_=>False
def r2 (T:hc) (w:Bool) (fr:bM) (L:List br) (op:Op) (k:aT→Prop):Prop:=
 match op with
 | .move x=>ei fr x k
 | .assign x=>ei fr x k
 | .load t x=>ei fr x fun v=>cQ T t fun i=>oZ L i v k
 | .nilCheck x=>ei fr x fun v=>zl v k
 | .binOp op t x y _=>ei fr x fun a=>ei fr y fun b=>zi T w op t (r0 x||r0 y) a b k
 | .unOp op _ x=>ei fr x fun a=>zw w op a k
 | .convert s d x=>ei fr x fun a=>zs T s d a k
 | .makeInterface t x=>ei fr x fun a=>wm T t a k
 | .fieldAddr s x f=>ei fr x fun a=>cQ T s fun i=>ui i f fun o _=>zm o a k
 | .field s x f=>ei fr x fun a=>cQ T s fun i=>ui i f fun o t=>cQ T t fun j=>zn o j a k
 | .indexAddr t x i=>ei fr x fun a=>ei fr i fun n=>zo T t a n k
 | .index t x i=>ei fr x fun a=>ei fr i fun n=>zp T t a n k
 | .extract (.tmp x) n=>ko fr x fun a=>r1 a n k
 | .slice t x bh ab none=>ei fr x fun a=>wk fr bh fun p=>wk fr ab fun q=>zq T t a (p.getD 0) q k
 | .typeAssert x _ t true=>ei fr x fun a=>zt T t a k
 | .call ⟨.builtin .len,args,bd⟩=>
   match args.toList,bd.toList with
   |[x],[t]=>ei fr x fun a=>zv T L t a k
   |_,_=>False
 | .call ⟨.builtin .max,args,_⟩=>
   match args.toList with
   |[x,y]=>ei fr x fun a=>ei fr y fun b=>
    match a,b with
    | .aI (.int cu p), .aI (.int oY q)=>bH (uf cu oY) (k (.aI (.int cu (if q>p then q else p))))
    |_,_=>False
   |_=>False
 | .call ⟨.builtin .min,args,_⟩=>
   match args.toList with
   |[x,y]=>ei fr x fun a=>ei fr y fun b=>
    match a,b with
    | .aI (.int cu p), .aI (.int oY q)=>bH (uf cu oY) (k (.aI (.int cu (if q<p then q else p))))
    |_,_=>False
   |_=>False
 |_=>False
section
variable {P:Program} {T:hc} {bs:List Nat} {fr:bM} {L:List br} {m:ae}
theorem dJ (aC:eO P T=true) {t:Nat} {k:gl→Prop} (h:cQ T t k):∃i,fu P t i∧k i:=by
 obtain ⟨i,I,J⟩:=Lg aC h
 exact ⟨i,fu.of I,J⟩
theorem wo {op:BinOp} {c:bT} {k:aT→Prop} (h:ug op c k):(op= .eql∧k (.b c))∨(op= .neq∧k (.b (.not c))):=by
 cases op<;>first|exact .inl ⟨rfl,h⟩|exact .inr ⟨rfl,h⟩|exact h.elim
theorem zx {op:BinOp} {c:Bool} {k:aT→Prop} (h:qL op c k):(op= .eql∧k (.b (.lit c)))∨(op= .neq∧k (.b (.lit (!c)))):=by
 cases op<;>first|exact .inl ⟨rfl,h⟩|exact .inr ⟨rfl,h⟩|exact h.elim
theorem hW {bs:List Nat} {o:Option (Prop×aa)} {side:Prop} {u:aT} {k:aT→Prop} (ai:k u) (aS:o=some (side,den bs u)) (aj:side):∃side z u,o=some (side,z)∧side∧z=den bs u∧k u:=⟨_,_,_,aS,aj,rfl,ai⟩
theorem r3 {x y:Operand}:(r0 x||r0 y)=true→((x matches .const _)||(y matches .const _))=true:=by
 intro h
 cases x<;>cases y<;>first|rfl|cases h
set_option maxHeartbeats 2000000 in
theorem Lj (aC:eO P T=true) {w:Bool} {op:BinOp} {t:Nat} {x y:Operand} {a b:aT} {k:aT→Prop} (h:zi T w op t (r0 x||r0 y) a b k):
 ∃side z u,lG P op t x y (den bs a) (den bs b)=some (side,z)∧side∧z=den bs u∧k u:=by
 unfold zi at h
 split at h
 ·
  rename_i cu a oY b
  split at h
  · cases op<;>simp only [DR,DS] at*<;>first|exact h.elim|(cases ‹false=true›;done)|skip
    · exact hW h.2 rfl h.1
    · exact hW h.2 rfl h.1
  · obtain ⟨e,J⟩:=cY.1 h
    obtain rfl:=wi e
    clear h e
    cases op<;>simp only [DQ] at J<;>first|exact J.elim|skip
    · exact hW (wh J) (by simp only [lG,mV,den,aa.plain,if_true,bT.val]) True.intro
    · exact hW (wh J) (by simp only [lG,mV,den,aa.plain,if_true,bT.val]) True.intro
    · exact hW (wh J) (by simp only [lG,mV,den,aa.plain,if_true,bT.val]) True.intro
    · exact hW J.2 (by simp only [lG,mV,den,aa.plain,if_true,bT.val]) J.1
    · exact hW J.2 (by simp only [lG,mV,den,aa.plain,if_true,bT.val]) J.1
    all_goals exact hW J (by simp only [lG,mV,den,aa.plain,if_true,bT.val]) True.intro
 · cases op<;>simp only [DT] at h<;>first|exact h.elim|skip
   · exact hW h.2 (by simp only [lG,mV,den,aa.plain,if_true,bT.val]) h.1
   all_goals exact hW h (by simp only [lG,mV,den,aa.plain,if_true,bT.val]) True.intro
 · obtain ⟨i,cx,h⟩:=dJ aC h
   obtain ⟨e,h⟩:=cY.1 h
   have ai:i.k= .bool:=by cases ab:i.k<;>rw [ab] at e<;>first|rfl|cases e
   rcases wo h with ⟨rfl,h⟩|⟨rfl,h⟩
   · exact hW h rfl (cx.bool ai)
   · exact hW h rfl (cx.bool ai)
 all_goals try exact h.elim
 all_goals
  obtain ⟨i,cx,h⟩:=dJ aC h
  obtain ⟨e,h⟩:=cY.1 h
 · have ai:i.k= .kq:=by cases ab:i.k<;>rw [ab] at e<;>first|rfl|cases e
   obtain ⟨ms,hu⟩:=cx.kq ai
   obtain ⟨az,h⟩:=cY.1 h
   rcases zx h with ⟨rfl,h⟩|⟨rfl,h⟩
   · exact hW h rfl ⟨by rw [hu],r3 az⟩
   · exact hW h rfl ⟨by rw [hu],r3 az⟩
 · have ai:i.k= .kq:=by cases ab:i.k<;>rw [ab] at e<;>first|rfl|cases e
   obtain ⟨ms,hu⟩:=cx.kq ai
   obtain ⟨az,h⟩:=cY.1 h
   rcases wo h with ⟨rfl,h⟩|⟨rfl,h⟩
   · exact hW h rfl ⟨by rw [hu],r3 az⟩
   · exact hW h rfl ⟨by rw [hu],r3 az⟩
 · have ai:i.k= .kq:=by cases ab:i.k<;>rw [ab] at e<;>first|rfl|cases e
   obtain ⟨ms,hu⟩:=cx.kq ai
   obtain ⟨az,h⟩:=cY.1 h
   rcases wo h with ⟨rfl,h⟩|⟨rfl,h⟩
   · exact hW h rfl ⟨by rw [hu],r3 az⟩
   · exact ⟨_,_,_,(rfl:lG P .neq t x y (den bs (.aI (.opt _))) (den bs (.aI .nilIface))=some (_, .bool _)),⟨by rw [hu],r3 az⟩,by simp only [den,bT.val,Bool.not_not],h⟩
 · have ai:i.k= .kq:=by cases ab:i.k<;>rw [ab] at e<;>first|rfl|cases e
   obtain ⟨ms,hu⟩:=cx.kq ai
   rcases zx h with ⟨rfl,h⟩|⟨rfl,h⟩
   · exact hW h rfl (by rw [hu])
   · exact hW h rfl (by rw [hu])
 · have ai:i.k= .kq:=by cases ab:i.k<;>rw [ab] at e<;>first|rfl|cases e
   obtain ⟨ms,hu⟩:=cx.kq ai
   obtain ⟨j,e5,h⟩:=dJ aC h
   obtain ⟨az,h⟩:=cY.1 h
   obtain ⟨cB,h⟩:=cY.1 h
   obtain ⟨fv,aQ⟩:=cY.1 h
   have aG:j.k= .int .i64:=by
    split at az
    · assumption
    · cases az
   obtain rfl:=Nat.eq_of_beq_eq_true cB
   obtain rfl:=wi fv
   rcases wo aQ.2 with ⟨rfl,cm⟩|⟨rfl,cm⟩
   · exact hW cm rfl ⟨by rw [hu],rfl,e5.int aG,e5.cmp _ aG,rfl,aQ.1⟩
   · exact hW cm rfl ⟨by rw [hu],rfl,e5.int aG,e5.cmp _ aG,rfl,aQ.1⟩
 all_goals
  have ai:i.k= .ptr:=by cases ab:i.k<;>rw [ab] at e<;>first|rfl|cases e
  obtain ⟨ms,hu⟩:=cx.ptr ai
  rcases zx h with ⟨rfl,h⟩|⟨rfl,h⟩
  · exact hW h rfl (by rw [hu])
  · exact hW h rfl (by rw [hu])
end
end Go.b4
end
section
namespace Go.b4
open Go Go.bb
section
variable {P:Program} {T:hc} {bs:List Nat} {fr:bM} {L:List br} {m:ae} {k:aT→Prop}
def c6 (o:Option (Prop×aa)) (bs:List Nat) (k:aT→Prop):Prop:=∃side z u,o=some (side,z)∧side∧z=den bs u∧k u
theorem c6.mk {o:Option (Prop×aa)} {side:Prop} {z:aa} {u:aT} (ai:k u) (aS:o=some (side,z)) (aj:side) (au:z=den bs u):c6 o bs k:=⟨_,_,_,aS,aj,au,ai⟩
theorem zy (l:List aT) (n:Nat):bl bs (l.drop n)=(bl bs l).drop n:=by rw [lg,lg,List.map_drop]
theorem zz (l:List aT) (n:Nat):bl bs (l.take n)=(bl bs l).take n:=by rw [lg,lg,List.map_take]
theorem qM {l:List aT} {n:Nat} {v:aT} (h:nth l n=some v):(bl bs l).getD n .aP=den bs v∧n<(bl bs l).length:=by
 rw [iV] at h
 have bN:n<l.length:=by
  rcases Nat.lt_or_ge n l.length with cm|cm
  · exact cm
  · rw [List.getElem?_eq_none cm] at h;cases h
 rw [lg]
 exact ⟨by rw [List.getD_eq_getElem?_getD,List.getElem?_map,h];rfl,by simpa using bN⟩
theorem DX {l:List aa} {n:Nat} {v:aa} (h:nth l n=some v):l.getD n .aP=v∧n<l.length:=by
 rw [iV] at h
 have bN:n<l.length:=by
  rcases Nat.lt_or_ge n l.length with cm|cm
  · exact cm
  · rw [List.getElem?_eq_none cm] at h;cases h
 exact ⟨by rw [List.getD_eq_getElem?_getD,h];rfl,bN⟩
theorem Lk (l:List aa) (n:Nat):aa.ey (l.take n)=(aa.ey l).take n:=by rw [aa.hE,aa.hE,List.map_take]
theorem Ll (l:List aa) (n:Nat):aa.ey (l.drop n)=(aa.ey l).drop n:=by rw [aa.hE,aa.hE,List.map_drop]
theorem uj (l:List aa):(aa.ey l).length=l.length:=by rw [aa.hE,List.length_map]
theorem r4 {t:Nat} {i:gl} (cx:fu P t i) (h:i.k.hx=true) (l:List aa) (off:Nat):apart P t l off= .agg ((l.drop off).take i.n):=by
 rw [apart,cx.ue,h,cx.cells];rfl
theorem r5 {t:Nat} {i:gl} (cx:fu P t i) (h:i.k.hx=false) (l:List aa) (off:Nat):apart P t l off=l.getD off .aP:=by
 rw [apart,cx.ue,h];rfl
theorem r6 {t:Nat} {i:gl} (cx:fu P t i) (h:i.k.hx=true) {l:List aa} {off:Nat} (av:off+i.n≤l.length):jk P t l off:=
 Ks cx.is (cx.ue.trans h) (by rw [cx.cells];exact av)
theorem r7 {t:Nat} {i:gl} (cx:fu P t i) (h:i.k.hx=false) {l:List aa} {off:Nat} (av:off<l.length):jk P t l off:=
 Dk cx.is (cx.ue.trans h) av
theorem DY {t:Nat} {i:gl} (cx:fu P t i) (g:Good bs L m) {v:aT} (h:oZ L i v k) {a:Operand→aa} {x:Operand} (e:den bs v=a x):c6 (bq P (bC bs L m) a (.load t x)) bs k:=by
 unfold oZ at h
 split at h
 · rename_i l
   have ay:a x= .ref l:=by rw [←e];simp only [den,aa.plain]
   have aS:bq P (bC bs L m) a (.load t x)=some (jk P t l 0,apart P t l 0):=by simp only [bq,ay]
   cases bU:i.k.hx with
   |true=>
    rw [bU] at h
    obtain ⟨ag,h⟩:=cY.1 h
    obtain ⟨aB,h⟩:=zd h
    exact c6.mk h aS (r6 cx bU (by have:=Nat.le_of_ble_eq_true ag;omega)) (by rw [r4 cx bU];simp only [den,aa.plain,aB,List.drop_zero])
   |false=>
    rw [bU] at h
    cases l with
    |nil=>exact h.elim
    |cons y r=>
     obtain ⟨aB,h⟩:=n1 h
     rw [v7] at h
     exact c6.mk h aS (r7 cx bU (by simp)) (by rw [r5 cx bU,oU,aB];simp only [List.getD_cons_zero])
 · rename_i b off
   split at h
   · rename_i l aD
     rw [iV] at aD
     have ay:a x= .ptr ⟨bs.getD b 0,off,none⟩:=by rw [←e];simp only [den]
     have hm:=nn g aD
     have aS:bq P (bC bs L m) a (.load t x)=some (jk P t (bl bs l) off,(apart P t (bl bs l) off).plain):=by simp only [bq,ay,hm,fb]
     cases bU:i.k.hx with
     |true=>
      rw [bU] at h
      obtain ⟨ag,h⟩:=cY.1 h
      obtain ⟨u,h,hu⟩:=rU bs h
      exact c6.mk h aS (r6 cx bU (by rw [kK];exact Nat.le_of_ble_eq_true ag)) (by rw [r4 cx bU];simp only [den,aa.plain,hu,zz,zy])
     |false=>
      rw [bU] at h
      simp only at h
      split at h
      · rename_i v ba
        obtain ⟨u,h,hu⟩:=mA bs h
        obtain ⟨az,bN⟩:=qM (bs:=bs) ba
        exact c6.mk h aS (r7 cx bU bN) (by rw [r5 cx bU,az,hu])
      · exact h.elim
   · exact h.elim
 · rename_i b n w j
   split at h
   · rename_i l aD
     rw [iV] at aD
     have ay:a x= .ptr ⟨bs.getD b 0,0+n.toNat*w+j,none⟩:=by rw [←e];simp only [den]
     have hm:=nn g aD
     have aS:bq P (bC bs L m) a (.load t x)=some (jk P t l (0+n.toNat*w+j),(apart P t l (0+n.toNat*w+j)).plain):=by simp only [bq,ay,hm,fb]
     obtain ⟨I,h⟩:=h
     obtain ⟨aB,h⟩:=vZ h
     rw [v7] at h
     cases bU:i.k.hx with
     |true=>
      rw [bU] at I h aB
      exact c6.mk h aS (r6 cx bU I) (by rw [r4 cx bU,oU];rfl)
     |false=>
      rw [bU] at I h aB
      exact c6.mk h aS (r7 cx bU I) (by rw [r5 cx bU,oU];rfl)
   · exact h.elim
 · exact h.elim
theorem Lm {v:aT} (h:zl v k) {a:Operand→aa} {x:Operand} (e:den bs v=a x):c6 (bq P (bC bs L m) a (.nilCheck x)) bs k:=by
 unfold zl at h
 split at h
 all_goals first|exact h.elim|exact c6.mk h (by simp only [bq,←e,den,aa.plain]<;>rfl) trivial (by simp only [den,aa.plain])
theorem Ln {w:Bool} {op:UnOp} {t:Nat} {v:aT} (h:zw w op v k) {a:Operand→aa} {x:Operand} (e:den bs v=a x):c6 (bq P (bC bs L m) a (.unOp op t x)) bs k:=by
 unfold zw at h
 split at h
 · exact c6.mk h (by simp only [bq,←e,den,bT.val]<;>rfl) trivial (by simp only [den,bT.val])
 · exact c6.mk h (by simp only [bq,←e,den,bT.val]<;>rfl) trivial (by simp only [den,bT.val,Bool.not_not])
 · exact c6.mk h (by simp only [bq,←e,den,bT.val]<;>rfl) trivial (by simp only [den,bT.val])
 · exact c6.mk (wh h) (by simp only [bq,←e,den,aa.plain]<;>rfl) trivial (by simp only [den,aa.plain,Int.zero_sub])
 · exact h.elim
theorem Lo (n:Int):(qA n).toNat=IntKind.u8.wrap n:=Dp n
theorem Lp {a b:IntKind} {n:Int} (h:zr a b n k):∃z,k (.aI (.int b z))∧z=b.wrap n:=by
 unfold zr at h
 split at h
 · exact ⟨_,h.2,(wrap64 _ h.1.1 h.1.2).symm⟩
 · exact ⟨_,h.2,(wrap64 _ h.1.1 h.1.2).symm⟩
 · exact ⟨_,h,Lo n⟩
 · exact ⟨_,h,rfl⟩
theorem Lq (aC:eO P T=true) {s d:Nat} {v:aT} (h:zs T s d v k) {a:Operand→aa} {x:Operand} (e:den bs v=a x):c6 (bq P (bC bs L m) a (.convert s d x)) bs k:=by
 unfold zs at h
 split at h
 · obtain ⟨i,bd,h⟩:=dJ aC h
   obtain ⟨j,uk,h⟩:=dJ aC h
   split at h
   · rename_i oY ai
     obtain ⟨z,h,au⟩:=Lp h
     exact c6.mk h (by simp only [bq,uk.int ai,←e,den,aa.plain];rfl) bd.is (by simp only [den,aa.plain,au])
   · exact h.elim
 · obtain ⟨i,bd,h⟩:=dJ aC h
   obtain ⟨j,uk,h⟩:=dJ aC h
   obtain ⟨ai,h⟩:=cY.1 h
   have eS:j.k= .str:=by cases aG:j.k<;>rw [aG] at ai<;>first|rfl|cases ai
   exact c6.mk h (by simp only [bq,uk.str eS,←e,den,aa.plain];rfl) bd.is (by simp only [den,aa.plain])
 · obtain ⟨i,bd,h⟩:=dJ aC h
   obtain ⟨j,uk,h⟩:=dJ aC h
   obtain ⟨ai,h⟩:=cY.1 h
   have eS:j.k= .str:=by cases aG:j.k<;>rw [aG] at ai<;>first|rfl|cases ai
   unfold iW at h
   split at h
   · rename_i fA fZ
     obtain ⟨q,DZ,h⟩:=dJ aC h
     obtain ⟨aS,h⟩:=cY.1 h
     have jT:q.k= .int .u8:=by
      split at aS
      · assumption
      · cases aS
     refine c6.mk h.2 (by simp only [bq,uk.str eS,←e,den,aa.plain];rfl) ?_ ?_
     · exact ⟨fA,(bd.bL fZ).1,DZ.int jT,h.1⟩
     · simp only [den,aa.plain]
   · exact h.elim
 · exact h.elim
theorem D0 (aC:eO P T=true) {t:Nat} {v:aT} (h:wm T t v k) {a:Operand→aa} {x:Operand} (e:den bs v=a x):c6 (bq P (bC bs L m) a (.makeInterface t x)) bs k:=by
 unfold wm at h
 split at h
 · rename_i y
   obtain ⟨i,cx,h⟩:=dJ aC h
   obtain ⟨ai,h⟩:=cY.1 h
   obtain ⟨aB,h⟩:=vZ h
   obtain ⟨d,a7,um⟩:=cx.qK ai
   refine c6.mk (side:=True) (z:= .iface t (a x)) h ?_ trivial (by rw [←e];simp only [den,aa.plain,aB])
   cases d<;>first|exact absurd rfl (um _)|simp only [bq,a7]
 · exact h.elim
theorem zA {t:Nat} {i:gl} (cx:fu P t i) {f:Nat} {k:Nat→Nat→Prop} (h:ui i f k):∃dr fd,P.underlying t=some (.struct dr)∧dr[f]?=some fd∧dG P fd.type=true∧P.cellsOf fd.type≠0∧k fd.offset fd.type:=by
 unfold ui at h
 split at h
 · rename_i cj ai
   obtain ⟨dr,I,J,ak⟩:=cx.st ai
   split at h
   · rename_i o ty aJ
     rw [iV,←J,List.getElem?_map] at aJ
     cases aM:dr.toList[f]? with
     |none=>rw [aM] at aJ;cases aJ
     |some fd=>
      rw [aM] at aJ
      simp only [Option.map_some,Option.some.injEq,Prod.mk.injEq] at aJ
      obtain ⟨rfl,rfl⟩:=aJ
      have hm:fd∈dr.toList:=List.mem_of_getElem? aM
      exact ⟨dr,fd,I,by simpa using aM,(ak _ hm).1,(ak _ hm).2,h⟩
   · exact h.elim
 · exact h.elim
theorem Lr {t f:Nat} {dr:Array Field} {fd:Field} (hu:P.underlying t=some (.struct dr)) (aM:dr[f]?=some fd) (I:dG P fd.type=true) (J:P.cellsOf fd.type≠0) {v:aT} (h:zm fd.offset v k)
 {a:Operand→aa} {x:Operand} (e:den bs v=a x):c6 (bq P (bC bs L m) a (.fieldAddr t x f)) bs k:=by
 unfold zm at h
 split at h
 · refine c6.mk h (by simp only [bq,hu,aM,←e,den]<;>rfl) ?_ ?_
   · exact ⟨I,J⟩
   · simp only [den]
 · refine c6.mk h (by simp only [bq,hu,aM,←e,den]<;>rfl) ?_ ?_
   · exact ⟨I,J⟩
   · simp only [den,Nat.add_assoc]
 · obtain ⟨ag,h⟩:=cY.1 h
   rw [gJ] at h
   refine c6.mk h (by simp only [bq,hu,aM,←e,den,aa.plain]<;>rfl) ?_ ?_
   · exact ⟨I,J,Nat.le_of_ble_eq_true ag⟩
   · simp only [den,aa.plain]
 · refine c6.mk h (by simp only [bq,hu,aM,←e,den,aa.plain]<;>rfl) ?_ ?_
   · exact ⟨I,J⟩
   · simp only [den,aa.plain]
 · exact h.elim
theorem Ls {t f:Nat} {dr:Array Field} {fd:Field} (hu:P.underlying t=some (.struct dr)) (aM:dr[f]?=some fd) {j:gl} (cx:fu P fd.type j) {v:aT} (h:zn fd.offset j v k)
 {a:Operand→aa} {x:Operand} (e:den bs v=a x):c6 (bq P (bC bs L m) a (.field t x f)) bs k:=by
 unfold zn at h
 split at h
 · rename_i l
   have aS:bq P (bC bs L m) a (.field t x f)=some (jk P fd.type (bl bs l) fd.offset,apart P fd.type (bl bs l) fd.offset):=by simp only [bq,hu,aM,←e,den]
   cases bU:j.k.hx with
   |true=>
    rw [bU] at h
    obtain ⟨ag,h⟩:=cY.1 h
    rw [gJ] at h
    exact c6.mk h aS (r6 cx bU (by rw [kK];exact Nat.le_of_ble_eq_true ag)) (by rw [r4 cx bU];simp only [den,zz,zy])
   |false=>
    rw [bU] at h
    simp only at h
    split at h
    · rename_i u yC
      obtain ⟨az,bN⟩:=qM (bs:=bs) yC
      exact c6.mk h aS (r7 cx bU bN) (by rw [r5 cx bU,az])
    · exact h.elim
 · rename_i l
   have aS:bq P (bC bs L m) a (.field t x f)=some (jk P fd.type (aa.ey l) fd.offset,apart P fd.type (aa.ey l) fd.offset):=by simp only [bq,hu,aM,←e,den,aa.plain]
   cases bU:j.k.hx with
   |true=>
    rw [bU] at h
    obtain ⟨ag,h⟩:=cY.1 h
    rw [gJ] at h
    exact c6.mk h aS (r6 cx bU (by rw [uj];exact Nat.le_of_ble_eq_true ag)) (by rw [r4 cx bU];simp only [den,aa.plain,Lk,Ll])
   |false=>
    rw [bU] at h
    simp only at h
    split at h
    · rename_i y aE
      obtain ⟨aB,h⟩:=n1 h
      rw [v7] at h
      obtain ⟨az,bN⟩:=DX aE
      exact c6.mk h aS (r7 cx bU (by rw [uj];exact bN)) (by rw [r5 cx bU,mg,az,oU])
    · exact h.elim
 · exact h.elim
theorem Lt (aC:eO P T=true) {t:Nat} {v n:aT} (h:zo T t v n k) {a:Operand→aa} {x y:Operand} (e:den bs v=a x) (az:den bs n=a y):c6 (bq P (bC bs L m) a (.indexAddr t x y)) bs k:=by
 unfold zo at h
 split at h
 · rename_i o l cu bW
   obtain ⟨i,dp,h⟩:=dJ aC h
   unfold iW at h
   split at h
   · rename_i fA fZ
     obtain ⟨j,e5,h⟩:=dJ aC h
     obtain ⟨ab,h⟩:=h
     have h:=Lc h
     obtain ⟨ag,h⟩:=cY.1 h
     obtain ⟨I,J,ak,aH⟩:=dp.bL fZ
     refine c6.mk h (by simp only [bq,I,←e,←az,den,aa.plain];rfl) ?_ ?_
     · exact ⟨J,by omega,ab.1,ab.2,by rw [e5.cells];exact Nat.eq_of_beq_eq_true ag⟩
     · simp only [den,aa.plain]
   · exact h.elim
 · rename_i b len cap cu bW
   obtain ⟨i,dp,h⟩:=dJ aC h
   unfold iW at h
   split at h
   · rename_i fA fZ
     obtain ⟨j,e5,h⟩:=dJ aC h
     obtain ⟨I,J,ak,aH⟩:=dp.bL fZ
     refine c6.mk h.2 (by simp only [bq,I,←e,←az,den,aa.plain];rfl) ?_ ?_
     · exact ⟨J,h.1⟩
     · simp only [den,e5.cells,Nat.add_zero]
   · exact h.elim
 · exact h.elim
theorem Lu (aC:eO P T=true) {t:Nat} {v n:aT} (h:zp T t v n k) {a:Operand→aa} {x y:Operand} (e:den bs v=a x) (az:den bs n=a y):c6 (bq P (bC bs L m) a (.index t x y)) bs k:=by
 unfold zp at h
 split at h
 · obtain ⟨i,dp,h⟩:=dJ aC h
   obtain ⟨ai,h⟩:=cY.1 h
   have eS:i.k= .str:=by cases aG:i.k<;>rw [aG] at ai<;>first|rfl|cases ai
   exact c6.mk h.2 (by simp only [bq,dp.str eS,←e,←az,den,aa.plain];rfl) h.1 (by simp only [den,aa.plain,U];rfl)
 · exact h.elim
theorem D1 {n:Nat} {v:aT} (h:r1 v n k) {a:Operand→aa} {x:Operand} (e:(den bs v).plain=a x):c6 (bq P (bC bs L m) a (.extract x n)) bs k:=by
 unfold r1 at h
 split at h
 · rename_i l
   split at h
   · rename_i u hu
     obtain ⟨aJ,h⟩:=cY.1 h
     obtain ⟨w,h,hw⟩:=rV bs aJ h
     obtain ⟨az,bN⟩:=qM (bs:=bs) hu
     exact c6.mk h (by simp only [bq,←e,den,aa.plain];rfl) (by rw [uj];exact bN) (by rw [mg,az,hw])
   · exact h.elim
 · rename_i l
   split at h
   · rename_i y aE
     obtain ⟨aB,h⟩:=vZ h
     rw [v7] at h
     obtain ⟨az,bN⟩:=DX aE
     exact c6.mk h (by simp only [bq,←e,den,aa.plain];rfl) (by rw [uj,uj];exact bN) (by rw [mg,mg,az,tY,oU])
   · exact h.elim
 · exact h.elim
theorem D2 {bh:Option Operand} {k:Option Int→Prop} (h:wk fr bh k):∃p,k p∧∀d:Nat,kd (bh.map (bR (bc (bf bs fr)))) d=some (p.getD d):=by
 unfold wk at h
 split at h
 · exact ⟨_,h,fun d=>rfl⟩
 · obtain ⟨v,h,e⟩:=eA bs h
   split at h
   · exact ⟨_,h,fun d=>by simp only [Option.map_some,←e,den,aa.plain,kd,Option.getD_some]⟩
   · exact h.elim
theorem Lv (aC:eO P T=true) {t:Nat} {v:aT} {p q:Option Int} (h:zq T t v (p.getD 0) q k) {a:Operand→aa} {x:Operand} {bh ab:Option Operand} (e:den bs v=a x)
 (aB:∀d:Nat,kd (bh.map a) d=some (p.getD d)) (aS:∀d:Nat,kd (ab.map a) d=some (q.getD d)):c6 (bq P (bC bs L m) a (.slice t x bh ab none)) bs k:=by
 have rH:kd (bh.map a) 0=some (p.getD 0):=aB 0
 unfold zq at h
 split at h
 · rename_i l
   obtain ⟨i,dp,h⟩:=dJ aC h
   obtain ⟨ai,h⟩:=cY.1 h
   have eS:i.k= .str:=by cases aG:i.k<;>rw [aG] at ai<;>first|rfl|cases ai
   have o0:=aS l.length
   cases q with
   |some q=>
    refine c6.mk (side:=0≤p.getD 0∧p.getD 0≤q∧q≤l.length) (z:= .str ((l.drop (p.getD 0).toNat).take (q- p.getD 0).toNat)) h.2 ?_ h.1 (by simp only [den,aa.plain,sub])
    simp only [Option.getD_some] at o0
    simp only [bq,dp.str eS,←e,den,aa.plain,rH,o0]
   |none=>
    refine c6.mk (side:=0≤p.getD 0∧p.getD 0≤(l.length:Int)∧(l.length:Int)≤l.length) (z:= .str ((l.drop (p.getD 0).toNat).take ((l.length:Int)- p.getD 0).toNat)) h.2 ?_ ⟨h.1.1,h.1.2,Int.le_refl _⟩ (by simp only [den,aa.plain,sub])
    simp only [Option.getD_none] at o0
    simp only [bq,dp.str eS,←e,den,aa.plain,rH,o0]
 · rename_i o l
   obtain ⟨i,dp,h⟩:=dJ aC h
   unfold iW at h
   split at h
   · rename_i fA fZ
     obtain ⟨j,e5,h⟩:=dJ aC h
     obtain ⟨ct,jT,I,h⟩:=h
     obtain ⟨h5,hT,mD,o1⟩:=dp.bL fZ
     have o0:=aS l.length
     rw [jT] at o0
     refine c6.mk h (by simp only [bq,h5,←e,den,aa.plain,rH,o0]<;>rfl) ?_ ?_
     · exact ⟨hT,I.1,I.2.1,I.2.2.1,by rw [e5.cells];exact I.2.2.2⟩
     · simp only [den,aa.plain]
   · exact h.elim
 · rename_i b n c
   obtain ⟨i,dp,h⟩:=dJ aC h
   unfold iW at h
   split at h
   · rename_i fA fZ
     obtain ⟨j,e5,h⟩:=dJ aC h
     obtain ⟨⟨bZ,bo,gK⟩,I,J⟩:=h
     obtain ⟨h5,hT,mD,o1⟩:=dp.bL fZ
     have o0:=aS n
     have ba:bq P (bC bs L m) a (.slice t x bh ab none)=some (dG P fA=true∧0≤p.getD 0∧p.getD 0≤q.getD n∧q.getD n≤n,if p.getD 0<c then .ms ⟨bs.getD b 0,0+(p.getD 0).toNat*P.cellsOf fA,none⟩ (q.getD n- p.getD 0).toNat (c- (p.getD 0).toNat) else .eR):=by
      simp only [bq,h5,←e,den,aa.plain,rH,o0]
     by_cases ah:p.getD 0<c
     · exact c6.mk (I ah) ba ⟨hT,bZ,bo,gK⟩ (by rw [if_pos ah,e5.cells];simp only [den])
     · rw [if_neg ah] at ba
       exact c6.mk (J (by omega)) ba ⟨hT,bZ,bo,gK⟩ (by simp only [den,aa.plain])
   · exact h.elim
 · exact h.elim
theorem Lw (aC:eO P T=true) {t s:Nat} {v:aT} (h:zt T t v k) {a:Operand→aa} {x:Operand} (e:den bs v=a x):c6 (bq P (bC bs L m) a (.typeAssert x s t true)) bs k:=by
 unfold zt at h
 split at h
 · obtain ⟨i,dp,h⟩:=dJ aC h
   obtain ⟨ai,h⟩:=cY.1 h
   obtain ⟨ag,J⟩:=cY.1 h
   obtain ⟨aB,ak⟩:=n1 J
   obtain ⟨d,a7,um⟩:=dp.qK ai
   obtain rfl:=Nat.eq_of_beq_eq_true ag
   refine c6.mk (side:=True) ak ?_ trivial rfl
   simp only [bq,a7,←e,den,bl,aa.plain,bT.val,aB]
   cases d<;>first|(simp only [if_true];done)|exact absurd rfl (um _)
 · obtain ⟨i,dp,h⟩:=dJ aC h
   obtain ⟨ai,h⟩:=cY.1 h
   obtain ⟨ag,J⟩:=cY.1 h
   obtain rfl:=Nat.eq_of_beq_eq_true ag
   have pE:i.k= .int .i64∧i.z=[.i .i64]:=by
    split at ai
    · exact ⟨by assumption,by assumption⟩
    · cases ai
   obtain ⟨v,au,_,nc,_⟩:=dp.zero (by rw [pE.2];simp)
   have ba:v= .int .i64 0:=by
    rw [pE.1,pE.2] at nc
    cases v<;>simp [rY,oX,qI,iC.hx] at nc
    rw [nc.1,nc.2]
   refine c6.mk (side:=(P.info? _).bind (·.zero)=some (.int .i64 0)) J ?_ (by rw [au,ba]) rfl
   simp only [bq,dp.int pE.1,←e,den,bl,aa.plain,bT.val,if_true]
 · exact h.elim
theorem Lx (aC:eO P T=true) (g:Good bs L m) {t:Nat} {v:aT} (h:zv T L t v k) {a:Operand→aa} {x:Operand} (e:den bs v=a x) {args:Array Operand} {bd:Array TypeId} (aN:args.toList=[x]) (an:bd.toList=[t]):
 c6 (bq P (bC bs L m) a (.call ⟨.builtin .len,args,bd⟩)) bs k:=by
 have pL:args[0]?=some x:=by rw [←Array.getElem?_toList,aN];rfl
 have uo:bd[0]?=some t:=by rw [←Array.getElem?_toList,an];rfl
 unfold zv at h
 split at h
 · obtain ⟨i,dp,h⟩:=dJ aC h
   obtain ⟨ai,h⟩:=cY.1 h
   have eS:i.k= .str:=by cases aG:i.k<;>rw [aG] at ai<;>first|rfl|cases ai
   exact c6.mk h (by simp only [bq,pL,uo,dp.str eS,←e,den,aa.plain];rfl) trivial (by simp only [den,aa.plain])
 · obtain ⟨i,dp,h⟩:=dJ aC h
   obtain ⟨ai,h⟩:=cY.1 h
   obtain ⟨fA,eS⟩:∃fA,i.k= .bL fA:=by cases aG:i.k<;>rw [aG] at ai<;>first|exact ⟨_,rfl⟩|cases ai
   exact c6.mk h.q (by simp only [bq,pL,uo,(dp.bL eS).1,←e,den,aa.plain];rfl) trivial (by simp only [den,aa.plain])
 · obtain ⟨i,dp,h⟩:=dJ aC h
   obtain ⟨ai,h⟩:=cY.1 h
   obtain ⟨fA,eS⟩:∃fA,i.k= .bL fA:=by cases aG:i.k<;>rw [aG] at ai<;>first|exact ⟨_,rfl⟩|cases ai
   exact c6.mk h.2 (by simp only [bq,pL,uo,(dp.bL eS).1,←e,den];rfl) h.1 (by simp only [den,aa.plain])
 · obtain ⟨i,dp,h⟩:=dJ aC h
   obtain ⟨ai,h⟩:=cY.1 h
   obtain ⟨ke,fA,eS⟩:∃ke fA,i.k= .mp ke fA:=by cases aG:i.k<;>rw [aG] at ai<;>first|exact ⟨_,_,rfl⟩|cases ai
   exact c6.mk h (by simp only [bq,pL,uo,dp.mp eS,←e,den,aa.plain];rfl) trivial (by simp only [den,aa.plain])
 · obtain ⟨i,dp,h⟩:=dJ aC h
   obtain ⟨ai,h⟩:=cY.1 h
   obtain ⟨ke,fA,eS⟩:∃ke fA,i.k= .mp ke fA:=by cases aG:i.k<;>rw [aG] at ai<;>first|exact ⟨_,_,rfl⟩|cases ai
   split at h
   · rename_i b _ l av
     rw [iV] at av
     obtain ⟨n,aJ,h⟩:=h
     have hm:=nn g av
     exact c6.mk h (by simp only [bq,pL,uo,dp.mp eS,←e,den,hm,fb];rfl) trivial (by simp only [den,aa.plain,aJ])
   · exact h.elim
 · exact h.elim
set_option maxHeartbeats 2000000 in
theorem D3 (aC:eO P T=true) (g:Good bs L m) {w:Bool} {op:Op} (h:r2 T w fr L op k):c6 (bq P (bC bs L m) (bR (bc (bf bs fr))) op) bs k:=by
 unfold r2 at h
 split at h
 · obtain ⟨v,h,e⟩:=eA bs h
   exact c6.mk h (by simp only [bq]) trivial e.symm
 · obtain ⟨v,h,e⟩:=eA bs h
   exact c6.mk h (by simp only [bq]) trivial e.symm
 · obtain ⟨v,h,e⟩:=eA bs h
   obtain ⟨i,cx,h⟩:=dJ aC h
   exact DY cx g h e
 · obtain ⟨v,h,e⟩:=eA bs h
   exact Lm h e
 · obtain ⟨v,h,e⟩:=eA bs h
   obtain ⟨u,h,az⟩:=eA bs h
   have:=Lj (bs:=bs) aC h
   rw [e,az] at this
   simpa only [c6,bq] using this
 · obtain ⟨v,h,e⟩:=eA bs h
   exact Ln h e
 · obtain ⟨v,h,e⟩:=eA bs h
   exact Lq aC h e
 · obtain ⟨v,h,e⟩:=eA bs h
   exact D0 aC h e
 · obtain ⟨v,h,e⟩:=eA bs h
   obtain ⟨i,cx,h⟩:=dJ aC h
   obtain ⟨dr,fd,I,J,ak,aH,h⟩:=zA cx h
   exact Lr I J ak aH h e
 · obtain ⟨v,h,e⟩:=eA bs h
   obtain ⟨i,cx,h⟩:=dJ aC h
   obtain ⟨dr,fd,I,J,ak,aH,h⟩:=zA cx h
   obtain ⟨j,e5,h⟩:=dJ aC h
   exact Ls I J e5 h e
 · obtain ⟨v,h,e⟩:=eA bs h
   obtain ⟨u,h,az⟩:=eA bs h
   exact Lt aC h e az
 · obtain ⟨v,h,e⟩:=eA bs h
   obtain ⟨u,h,az⟩:=eA bs h
   exact Lu aC h e az
 · rw [lh] at h
   exact D1 h (by rw [bR,kp])
 · obtain ⟨v,h,e⟩:=eA bs h
   obtain ⟨p,h,aB⟩:=D2 (bs:=bs) h
   obtain ⟨q,h,aS⟩:=D2 (bs:=bs) h
   exact Lv aC h e aB aS
 · obtain ⟨v,h,e⟩:=eA bs h
   exact Lw aC h e
 · split at h
   · rename_i aN an
     obtain ⟨v,h,e⟩:=eA bs h
     exact Lx aC g h e aN an
   · exact h.elim
 · split at h
   · rename_i aN
     obtain ⟨v,h,e⟩:=eA bs h
     obtain ⟨u,h,az⟩:=eA bs h
     split at h
     · obtain ⟨ag,J⟩:=cY.1 h
       obtain rfl:=wi ag
       exact c6.mk (side:=True) J (by simp only [bq,aN,←e,←az,den,aa.plain,if_true]<;>rfl) trivial rfl
     · exact h.elim
   · exact h.elim
 · split at h
   · rename_i aN
     obtain ⟨v,h,e⟩:=eA bs h
     obtain ⟨u,h,az⟩:=eA bs h
     split at h
     · obtain ⟨ag,J⟩:=cY.1 h
       obtain rfl:=wi ag
       exact c6.mk (side:=True) J (by simp only [bq,aN,←e,←az,den,aa.plain,if_true]<;>rfl) trivial rfl
     · exact h.elim
   · exact h.elim
 · exact h.elim
end
end Go.b4
end
section
namespace Go.b4
open Go Go.bb
abbrev cg:=bM→List br→ae→Prop
structure fF where
 P:Program
 T:hc
 E:Nat
 w:List Nat
 st:List Nat
 uq:List Nat
 xs:List Nat
 cv:List Nat
 bs:List Nat
def has:List Nat→Nat→Bool
 |[],_=>false
 |x::r,n=>bif Nat.beq x n then true else has r n
def jF (d:Option Nat) (v:aT) (fr:bM) (k:bM→Prop):Prop:=
 match d with
 |some d=>k ((d,v)::fr)
 |none=>k fr
def r8:aT→Bool
 | .own _| .b _| .loc _ _| .ms _ _ _| .mp _| .iB _ _ _ _| .bL _ _ _ _| .fn _ _ _=>true
 |_=>false
def r9:List aT→(List aT→Prop)→Prop
 |[],k=>k []
 | .aI x::r,k=>mB x fun bD=>r9 r fun fz=>k (.aI bD::fz)
 |v::r,k=>bH (r8 v) (r9 r fun fz=>k (v::fz))
def qN:List aa→List aT
 |[]=>[]
 |x::r=>oT x::qN r
def zB (v:aT) (k:List aT→Prop):Prop:=
 match v with
 | .agg l=>r9 l k
 | .aI (.agg l)=>r9 (qN l) k
 | .aI x=>mB x fun bD=>k [.aI bD]
 |v=>bH (r8 v) (k [v])
def ur (x:Operand) (v:aT) (fr:bM) (k:bM→Prop):Prop:=
 match x with
 | .tmp t=>
   match v with
   | .own l=>k ((t, .aI (.slice false l))::fr)
   | .agg l=>qF l fun l'=>k ((t, .agg l')::fr)
   | .cM _=>False
   |_=>k fr
 |_=>k fr
def wq:List aT→(List aT→Prop)→Prop
 |[],k=>k []
 |v::r,k=>bH (oS v) (pK v fun fN=>wq r fun fz=>k (fN::fz))
def zC (v:aT) (k:aT→Prop):Prop:=
 match v with
 | .cM l=>wq l fun l'=>k (.cM l')
 |v=>bH (oS v) (pK v k)
def uu (l cs:List aT) (off n:Nat):List aT:=l.take off++cs++l.drop (off+n)
def toK:aT→(aa→Prop)→Prop
 | .aI x,k=>rW x k
 | .b c,k=>k (.bool c.val)
 | .agg l,k=>go l fun l'=>k (.agg l')
 |_,_=>False
where go:List aT→(List aa→Prop)→Prop
 |[],k=>k []
 | .aI x::r,k=>mB x fun bD=>go r fun fz=>k (bD::fz)
 | .b c::r,k=>go r fun fz=>k (.bool c.val::fz)
 |_,_=>False
def toLK:List aT→(List aa→Prop)→Prop
 |[],k=>k []
 |v::r,k=>toK v fun x=>toLK r fun fz=>k (x::fz)
def pM (T:hc) (cj:List (Nat×Nat)):List (Nat×aT)→List aT→(List aT→Prop)→Prop
 |[],cs,k=>k cs
 |(i,v)::r,cs,k=>
  match nth cj i with
  |some (off,t)=>cQ T t fun j=>zD v fun vs=>bH (Nat.beq vs.length j.n) (bH (Nat.ble (off+j.n) cs.length) (fD (uu cs vs off j.n) fun k9=>pM T cj r k9 k))
  |none=>False
where zD:aT→(List aT→Prop)→Prop
 | .agg l,k=>k l
 | .aI (.agg l),k=>fD (qN l) k
 | .aI x,k=>mB x fun bD=>k [.aI bD]
 | .cM _,_=>False
 | .off,_=>False
 |v,k=>k [v]
def qO (fr:bM):List (Nat×Operand)→(List (Nat×aT)→Prop)→Prop
 |[],k=>k []
 |(i,x)::r,k=>ei fr x fun v=>qO fr r fun fz=>k ((i,v)::fz)
def idxFrom:Nat→List (Nat×aT)→Bool
 |_,[]=>true
 |n,(i,_)::r=>bif Nat.beq n i then idxFrom (n+1) r else false
def nq:List (Nat×aT)→List aT
 |[]=>[]
 |(_,v)::r=>v::nq r
structure zE (w wu:Nat) (l l':List aa) (Q:List aa→Prop):Prop where
 h:((l.length+l'.length)*wu≤140737488355328∧l.length+l'.length≤140737488355328∧(∀x∈l,x.cells.length=w)∧∀x∈l',x.cells.length=w∧x.cells.all aa.one=true)∧Q (l++l')
structure o2 (a b:Prop):Prop where
 h:a∨b
theorem ap {R:Prop} {α:Type} (f:α→aa) (xs eH:List α) {w wu:Nat} {l l':List aa} {Q:List aa→Prop} (av:l=xs.map f) (lD:l'=eH.map f) (aM:∀a,(f a).cells.length=w∧(f a).cells.all aa.one=true)
 (h:(xs.length+eH.length)*wu≤140737488355328∧xs.length+eH.length≤140737488355328) (gU:Q ((xs++eH).map f)):o2 (zE w wu l l' Q) R:=by
 subst av;subst lD
 refine ⟨.inl ⟨⟨by simpa using h.1,by simpa using h.2,fun x ao=>?_,fun x ao=>?_⟩,by rw [←List.map_append];exact gU⟩⟩
 · obtain ⟨a,_,rfl⟩:=List.mem_map.1 ao;exact (aM a).1
 · obtain ⟨a,_,rfl⟩:=List.mem_map.1 ao;exact aM a
structure n2 (P:Program) (b0:List Nat) (f:FuncId) (vs:List aT) (fr:bM) (L:List br) (m:ae) (Q:aT→List br→ae→Prop):Prop where
 h:∃(σ:Type) (fP:σ→Prop) (y:σ→aT) (bK:σ→List br) (aq:σ→ae),(∀new,Good (b0++new) L m→∀K:aa→ae→Prop,(∀x,fP x→∀dz,Good (b0++new++dz) (bK x) (aq x)→K (den (b0++new++dz) (y x)) (bC (b0++new++dz) (bK x) (aq x)))→bp P f (bl (b0++new) vs) (bC (b0++new) L m) K)∧
  (∀x,(bif Nat.beq (bK x).length L.length then true else oW L.length fr)=true)∧∀x,fP x→Q (y x) (bK x) (aq x)
theorem n2.one {P:Program} {b0:List Nat} {f:FuncId} {vs:List aT} {fr:bM} {L:List br} {m:ae} {Q:aT→List br→ae→Prop} (y:aT) (bK:List br) (aq:ae)
 (I:∀new,Good (b0++new) L m→∀K:aa→ae→Prop,(∀dz,Good (b0++new++dz) bK aq→K (den (b0++new++dz) y) (bC (b0++new++dz) bK aq))→bp P f (bl (b0++new) vs) (bC (b0++new) L m) K)
 (J:(bif Nat.beq bK.length L.length then true else oW L.length fr)=true) (ak:Q y bK aq):n2 P b0 f vs fr L m Q:=
 ⟨Unit,fun _=>True,fun _=>y,fun _=>bK,fun _=>aq,fun new g K ad=>I new g K (ad () trivial),fun _=>J,fun _ _=>ak⟩
structure D4 (P:Program) (b0:List Nat) (f:FuncId) (vs:List aT) (L:List br) (m:ae) (Q:aT→Prop):Prop where
 h:∃y,(∀new,Good (b0++new) L m→∃c:aa,rC P f (bl (b0++new) vs) (bC (b0++new) L m) c∧c.plain=den (b0++new) y)∧Q y
structure hy (P:Program) (b0:List Nat) (dst:Option Nat) (op:Op) (fr:bM) (L:List br) (m:ae) (k:cg):Prop where
 h:∀new,Good (b0++new) L m→∀(n:Nat) (ops:Array Oper) (ty:TypeId) (pos:String) (af:Array Edge) (l:List Oper) (K:Fr→ae→Prop),ef n ⟨dst,op,ty,pos,af,none⟩=true→fy n ⟨dst,op,ty,pos,af,none⟩=true→
  (∀aY bK m' hX,b0 <+: hX→Good hX bK m'→k aY bK m'→bB P n ops l K (bf hX aY) (bC hX bK m'))→bB P n ops (⟨dst,op,ty,pos,af,none⟩::l) K (bf (b0++new) fr) (bC (b0++new) L m)
def uv (fr:bM) (L:List br) (o:br) (k:Nat→List br→Prop):Prop:=
 bH (oW L.length fr) (bH (lU L.length L) (k L.length (L++[o])))
def pN (c:fF):Option Nat→Bool
 |some d=>has c.w (1000000+d)
 |none=>false
def sa (c:fF) (bL:List Nat) (d:Nat):Bool:=bif has bL d then true else has c.w (1000000+d)
def hd (c:fF) (bL:List Nat) (dst:Option Nat) (op:Op) (fr:bM) (L:List br) (m:ae) (k:cg):Prop:=
 match op with
 | .assign (.tmp t)=>ko fr t fun v=>bH (oS v) (pK v fun u=>ur (.tmp t) v fr fun aY=>
   match v with
   | .own l=>jF dst (.own l) aY fun fr=>k fr L m
   |_=>jF dst u aY fun fr=>k fr L m)
 | .move (.tmp t)=>ko fr t fun v=>zC v fun u=>
   match v,dst with
   | .own l,some d=>
     match sa c bL d with
     |true=>k ((d, .own l)::(t,u)::fr) L m
     |false=>k ((d,u)::fr) L m
   |_,_=>jF dst u fr fun fr=>k fr L m
 | .extract (.tmp t) n=>ko fr t fun v=>
   match v,dst with
   | .cM l,some d=>
     match nth l n with
     |some (.own q)=>wq l fun l'=>
      match sa c bL d with
      |true=>k ((d, .own q)::(t, .cM l')::fr) L m
      |false=>k ((d, .aI (.slice false q))::fr) L m
     |some u=>bH (oS u) (pK u fun k4=>k ((d,k4)::fr) L m)
     |none=>False
   |v,some d=>r1 v n fun u=>k ((d,u)::fr) L m
   |_,none=>False
 | .load t x=>ei fr x fun v=>cQ c.T t fun i=>
   match dst with
   |some d=>
    match v with
    | .loc b off=>
      match nth L b with
      |some (.cells l)=>
       match nth l off with
       |some (.own q)=>
        match sa c bL d,i.k.hx with
        |true,false=>k ((d, .own q)::fr) (L.set b (.cells (l.set off (.aI (.slice false q))))) m
        |_,_=>oZ L i v fun u=>k ((d,u)::fr) L m
       |_=>oZ L i v fun u=>k ((d,u)::fr) L m
      |_=>oZ L i v fun u=>k ((d,u)::fr) L m
    | .aI _=>oZ L i v fun u=>k ((d,u)::fr) L m
    | .iB _ _ _ _=>
      match pN c dst with
      |true=>hy c.P c.bs dst op fr L m k
      |false=>oZ L i v fun u=>k ((d,u)::fr) L m
    |_=>hy c.P c.bs dst op fr L m k
   |none=>False
 | .store t a x=>ei fr a fun p=>
   match p with
   | .loc b off=>wa fr x fun v=>cQ c.T t fun i=>
     match nth L b with
     |some (.cells l)=>zB v fun cs=>bH (Nat.beq cs.length i.n) (bH (Nat.ble (off+i.n) l.length) (ur x v fr fun aY=>fD (uu l cs off i.n) fun l'=>fD (L.set b (.cells l')) fun bK=>k aY bK m))
     |_=>hy c.P c.bs dst op fr L m k
   |_=>hy c.P c.bs dst op fr L m k
 | .alloc t=>cQ c.T t fun i=>
   match i.z with
   |[]=>hy c.P c.bs dst op fr L m k
   |_=>fD (ju i.z) fun cs=>uv fr L (.cells cs) fun b bK=>fD bK fun bK=>jF dst (.loc b 0) fr fun fr=>k fr bK m
 | .box _ x=>wa fr x fun v=>zB v fun cs=>ur x v fr fun aY=>bH (mC L.length cs)<|uv aY L (.cells cs) fun b bK=>fD bK fun bK=>jF dst (.loc b 0) aY fun fr=>k fr bK m
 | .makeMap t none=>cQ c.T t fun i=>bH i.k.zu (uv fr L (.obj (.map [])) fun b bK=>fD bK fun bK=>jF dst (.mp b) fr fun fr=>k fr bK m)
 | .build t parts=>
   match pN c dst with
   |true=>hy c.P c.bs dst op fr L m k
   |false=>cQ c.T t fun i=>
    match i.k with
    | .st cj=>bH (match i.z with|[]=>false|_=>true) (fD (ju i.z) fun e0=>qO fr parts.toList fun ps=>pM c.T cj ps e0 fun cs=>jF dst (.agg cs) fr fun fr=>k fr L m)
    |_=>False
 | .buildSlice t n parts=>
   match dst with
   |some d=>match has bL d with
    |true=>hy c.P c.bs dst op fr L m k
    |false=>cQ c.T t fun i=>iW i fun e=>cQ c.T e fun j=>qO fr parts.toList fun ps=>bH (idxFrom 0 ps) (bH (Nat.beq ps.length n) (bH (Nat.ble (n*j.n) 16777216) (toLK (nq ps) fun l=>bH (l.all fun x=>Nat.beq x.cells.length j.n) (k ((d, .own l)::fr) L m))))
   |none=>False
 | .makeFunc (.func f) a wv=>qG fr a.toList fun x=>qG fr wv.toList fun y=>
   match dst with
   |some d=>k ((d, .fn f x y)::fr) L m
   |none=>False
 | .pick q x y=>ei fr q fun v=>
   match v with
   | .b (.lit true)=>ei fr x fun u=>jF dst u fr fun fr=>k fr L m
   | .b (.lit false)=>ei fr y fun u=>jF dst u fr fun fr=>k fr L m
   |_=>False
 | .call ⟨.builtin .append,args,bd⟩=>
   match args.toList,bd.toList,dst with
   |[.tmp s,y],[t,u],some d=>ko fr s fun v=>ei fr y fun w=>
    match v,w with
    | .own l, .aI (.slice _ l')=>cQ c.T t fun i=>iW i fun e=>cQ c.T e fun j=>bH (Nat.beq t u) (o2 (zE j.n j.y l l' fun q=>k ((d, .own q)::(s, .aI (.slice false l))::fr) L m) (hy c.P c.bs dst op fr L m k))
    |_,_=>hy c.P c.bs dst op fr L m k
   |[.const (.slice none 0 0),y],[t,u],some d=>ei fr y fun w=>
    match w with
    | .aI (.slice _ l')=>cQ c.T t fun i=>iW i fun e=>cQ c.T e fun j=>bH (Nat.beq t u) (o2 (zE j.n j.y [] l' fun q=>k ((d, .own q)::fr) L m) (hy c.P c.bs dst op fr L m k))
    |_=>hy c.P c.bs dst op fr L m k
   |_,_,_=>False
 | .call ⟨.value (.func f),args,_⟩=>
   match pN c dst with
   |true=>hy c.P c.bs dst op fr L m k
   |false=>qG fr args.toList fun vs=>n2 c.P c.bs f vs fr L m fun y bK m'=>jF dst y fr fun fr=>k fr bK m'
 | .call ⟨.value (.tmp t),args,_⟩=>ko fr t fun v=>
   match v with
   | .fn f a wv=>qG fr args.toList fun vs=>fD (a++vs++wv) fun vs=>n2 c.P c.bs f vs fr L m fun y bK m'=>jF dst y fr fun fr=>k fr bK m'
   |_=>hy c.P c.bs dst op fr L m k
 | .mapUpdate _ _ _ _| .insert _ _ _ _| .lookup _ _ _ _| .range _ _| .next _ _| .entry _| .makeSlice _ _ _| .call ⟨.builtin .delete,_,_⟩| .call ⟨.builtin .copy,_,_⟩=>hy c.P c.bs dst op fr L m k
 | .makeInterface _ _=>
   match pN c dst with
   |true=>hy c.P c.bs dst op fr L m k
   |false=>
    match dst with
    |some d=>r2 c.T (has c.w d) fr L op fun u=>k ((d,u)::fr) L m
    |none=>False
 |op=>
  match dst with
  |some d=>r2 c.T (has c.w d) fr L op fun u=>k ((d,u)::fr) L m
  |none=>False
def wx (c:fF) (dst:Option Nat) (op:Op) (fr:bM) (L:List br) (m:ae) (k:bM→Prop):Prop:=
 match dst with
 |none=>False
 |some d=>
  match op with
  | .call ⟨.value (.func f),args,_⟩=>qG fr args.toList fun vs=>D4 c.P c.bs f vs L m fun y=>k ((d,y)::fr)
  | .build t parts=>cQ c.T t fun i=>
    match i.k with
    | .st cj=>bH (match i.z with|[]=>false|_=>true) (fD (ju i.z) fun e0=>qO fr parts.toList fun ps=>pM c.T cj ps e0 fun cs=>qF cs fun cs=>k ((d, .agg cs)::fr))
    |_=>False
  | .buildSlice t n parts=>cQ c.T t fun i=>iW i fun e=>cQ c.T e fun j=>qO fr parts.toList fun ps=>bH (idxFrom 0 ps) (bH (Nat.beq ps.length n) (bH (Nat.ble (n*j.n) 16777216) (toLK (nq ps) fun l=>bH (l.all fun x=>Nat.beq x.cells.length j.n) (k ((d, .aI (.slice false l))::fr)))))
  | .pick q x y=>ei fr q fun v=>
    match v with
    | .b (.lit true)=>ei fr x fun u=>k ((d,u)::fr)
    | .b (.lit false)=>ei fr y fun u=>k ((d,u)::fr)
    |_=>False
  |op=>r2 c.T (has c.w d) fr L op fun u=>k ((d,u)::fr)
def nr:bM→Nat→aT→(bM→Prop)→Prop
 |[],_,_,k=>k []
 |(s,x)::r,t,v,k=>bif Nat.beq s t then k ((s,v)::r) else nr r t v fun fz=>k ((s,x)::fz)
def sb (ops:List Oper) (gd:Option (Nat×Bool)) (fr:bM) (on:bM→Prop) (off:bM→Prop):Prop:=
 match gd with
 |none=>on fr
 |some (j,b)=>
  match (nth ops j).bind (·.dst) with
  |some g=>ko fr g fun v=>
   match v with
   | .b (.lit z)=>
     match z,b with
     |true,true|false,false=>on fr
     |_,_=>off fr
   | .b q=>
     match b with
     |true=>q.ways (nr fr g (.b (.lit true)) on) (nr fr g (.b (.lit false)) off)
     |false=>q.ways (nr fr g (.b (.lit true)) off) (nr fr g (.b (.lit false)) on)
   | .off=>off fr
   |_=>False
  |none=>False
noncomputable def pO (c:fF) (ops:List Oper) (bL:List Nat) (l:List Oper):bM→List br→ae→cg→Prop:=
 List.rec (motive:=fun _=>bM→List br→ae→cg→Prop) (fun fr L m k=>k fr L m)
  (fun o _ aO fr L m k=>sb ops o.guard fr (fun fr=>hd c bL o.dst o.op fr L m fun fr L m=>aO fr L m k) (fun fr=>jF o.dst .off fr fun fr=>aO fr L m k)) l
theorem Ly (c:fF) (ops:List Oper) (bL:List Nat) (o:Oper) (r:List Oper) (fr:bM) (L:List br) (m:ae) (k:cg):pO c ops bL (o::r) fr L m k=sb ops o.guard fr (fun fr=>hd c bL o.dst o.op fr L m fun fr L m=>pO c ops bL r fr L m k) (fun fr=>jF o.dst .off fr fun fr=>pO c ops bL r fr L m k):=rfl
noncomputable def uw (c:fF) (ops:List Oper) (l:List Oper):bM→List br→ae→(bM→Prop)→Prop:=
 List.rec (motive:=fun _=>bM→List br→ae→(bM→Prop)→Prop) (fun fr _ _ k=>k fr)
  (fun o _ aO fr L m k=>sb ops o.guard fr (fun fr=>wx c o.dst o.op fr L m fun fr=>aO fr L m k) (fun fr=>jF o.dst .off fr fun fr=>aO fr L m k)) l
theorem Lz (c:fF) (ops:List Oper) (o:Oper) (r:List Oper) (fr:bM) (L:List br) (m:ae) (k:bM→Prop):uw c ops (o::r) fr L m k=sb ops o.guard fr (fun fr=>wx c o.dst o.op fr L m fun fr=>uw c ops r fr L m k) (fun fr=>jF o.dst .off fr fun fr=>uw c ops r fr L m k):=rfl
def o3:List Oper→List Nat
 |[]=>[]
 |o::r=>
  match o.op with
  | .call ⟨.builtin .append,args,_⟩=>
    match args.toList with
    | .tmp s::_=>s::o3 r
    |_=>o3 r
  |_=>o3 r
def LA:Op→Bool
 | .store _ _ _| .mapUpdate _ _ _ _| .makeSlice _ _ _| .makeMap _ _| .alloc _| .box _ _| .insert _ _ _ _| .entryStore _ _ _ _=>true
 | .call ⟨.builtin .append,_,_⟩| .call ⟨.builtin .copy,_,_⟩| .call ⟨.builtin .delete,_,_⟩=>true
 |_=>false
def qP (xs:List Nat) (id:Nat):List Oper→Nat→Nat
 |[],n=>n
 |o::r,n=>bif LA o.op then n else bif has xs (id*1000+n) then n else qP xs id r (n+1)
def sc (bL:List Nat):List Oper→List (Nat×Nat)
 |[]=>[]
 |o::r=>
  match o.dst,o.op,o.guard with
  |some d, .move (.tmp s),none=>bif has bL d then (d,s)::sc bL r else sc bL r
  |_,_,_=>sc bL r
def wy:List (Nat×Nat)→bM→(bM→Prop)→Prop
 |[],fr,k=>k fr
 |(d,s)::r,fr,k=>ko fr s fun v=>bH (oS v) (pK v fun u=>wy r ((d,v)::(s,u)::fr) k)
def zF:aT→Prop
 | .aI (.int cu n)=>cu.min≤n∧n≤cu.max
 | .aI (.slice _ l)=>l.length≤140737488355328∧vW l
 | .aI x=>tR x.plain
 | .own l=>l.length≤140737488355328∧vW l
 |_=>True
structure Told (fr:bM) (p:Prop):Prop where
 h:(∀t,zF (dU fr t))→p
noncomputable def pP (c:fF) (id:Nat) (ops:List Oper) (draw:Bool) (k:cg) (fr:bM) (L:List br) (m:ae):Prop:=
 match draw with
 |false=>pO c ops (o3 ops) ops fr L m k
 |true=>
  match has c.xs (id*1000+999) with
  |true=>False
  |false=>fD (ops.take (qP c.xs id ops 0)) fun h3=>fD (ops.drop (qP c.xs id ops 0)) fun jo=>uw c ops h3 fr L m fun fr=>wy (sc (o3 ops) h3) fr fun fr=>pO c ops (o3 ops) jo fr L m k
def qQ:bM→Nat→Option aT
 |[],_=>none
 |(s,x)::r,t=>bif Nat.beq s t then some x else qQ r t
def ir (E:Nat):aT→aT
 | .aI .nilIface=> .aI (.err E 0)
 | .aI (.iface u (.int .i64 e))=>
   match Nat.beq u E,decide (e=0) with
   |true,false=> .aI (.err E e)
   |_,_=> .aI (.iface u (.int .i64 e))
 |v=>v
def wz (E:Nat) (md:List (Nat×Nat)) (t:Nat) (v:aT):aT:=
 match v with
 | .b (.lit z)=>bif md.any (fun p=>Nat.beq p.1 t) then .b (.raw z) else .b (.lit z)
 | .b q=> .b (.raw q.val)
 | .own l=>bif md.any (fun p=>Nat.beq p.1 t) then .aI (.slice false l) else .own l
 | .aI (.agg l)=> .agg (qN l)
 |v=>bif md.any (fun p=>Nat.beq p.1 t) then ir E v else v
def qR:List aT→List aT
 |[]=>[]
 | .b q::r=> .b (.raw q.val)::qR r
 |v::r=>v::qR r
def ux:br→br
 | .cells l=> .cells (qR l)
 | .obj o=> .obj o
def mE:List br→List br
 |[]=>[]
 |o::r=>ux o::mE r
def lV (E:Nat) (md:List (Nat×Nat)):List Nat→bM→bM
 |[],_=>[]
 |t::r,fr=>
  match qQ fr t with
  |some v=>(t,wz E md t v)::lV E md r fr
  |none=>lV E md r fr
abbrev sd:=bM×List br×ae
def fits (c:fF) (md:List (Nat×Nat)) (ks:List Nat) (n:Nat) (fr:bM) (L:List br) (m:ae) (s:sd):Prop:=
 (lV c.E md ks fr,mE (L.take n),m)=s∧(oW n s.1&&lU n s.2.1&&Nat.ble n L.length&&Nat.ble c.bs.length n)=true
structure zG (c:fF) (F:cg→cg) (fr:bM) (L:List br) (m:ae):Prop where
 h:∃(σ:Type) (S:σ→sd) (fP:σ→Prop) (lR:σ→Nat) (md:List (Nat×Nat)) (ks:List Nat) (n:σ→Nat) (lj:σ),fits c md ks (n lj) fr L m (S lj)∧fP lj∧
  ∀x,fP x→fD (S x).1 fun fr=>fD (S x).2.1 fun L=>F (fun aY bK m'=>∃bD,fits c md ks (n bD) aY bK m' (S bD)∧fP bD∧lR bD<lR x) fr L (S x).2.2
theorem dE {c:fF} {F:cg→cg} {fr:bM} {L:List br} {m:ae} {σ:Type} (md:List (Nat×Nat)) (ks:List Nat) (n:Nat) (S:σ→sd) (fP:σ→Prop) (lR:σ→Nat) (lj:σ) (aA:fits c md ks n fr L m (S lj)) (aW:fP lj)
 (h:∀x,fP x→fD (S x).1 fun fr=>fD (S x).2.1 fun L=>F (fun aY bK m'=>∃bD,fits c md ks n aY bK m' (S bD)∧fP bD∧lR bD<lR x) fr L (S x).2.2):zG c F fr L m:=
 ⟨σ,S,fP,lR,md,ks,fun _=>n,lj,aA,aW,h⟩
structure wA (c:fF) (A:cg→cg) (B:cg) (fr:bM) (L:List br) (m:ae):Prop where
 h:∃pQ:cg,(∀fr L m,pQ fr L m→B fr L m∨∃md ks n s,fits c md ks n fr L m s∧B s.1 s.2.1 s.2.2)∧A pQ fr L m
theorem aU {c:fF} {A:cg→cg} {B:cg} {fr:bM} {L:List br} {m:ae} (h:A B fr L m):wA c A B fr L m:=⟨B,fun _ _ _ h=> .inl h,h⟩
theorem uy {c:fF} {A:cg→cg} {B:cg} {fr:bM} {L:List br} {m:ae} {σ:Type} (md:List (Nat×Nat)) (ks:List Nat) (n:Nat) (S:σ→sd) (fP:σ→Prop) (nM:∀x,fP x→fD (S x).1 fun fr=>fD (S x).2.1 fun L=>B fr L (S x).2.2)
 (cW:A (fun fr L m=>∃x,fits c md ks n fr L m (S x)∧fP x) fr L m):wA c A B fr L m:=
 ⟨_,fun fr L m ⟨x,h,aW⟩=> .inr ⟨md,ks,n,S x,h,by have:=nM x aW;rw [gJ,gJ] at this;exact this⟩,cW⟩
structure wB (A:cg→cg) (B:cg) (fr:bM) (L:List br) (m:ae):Prop where
 h:∃pQ:cg,(∀fr L m,pQ fr L m→∃md t e ks,(∃q,qQ fr t=some (.b q)∧q.val=e)∧B ((t, .b (.raw e))::lV 0 md ks fr) L m)∧A pQ fr L m
theorem dc {A:cg→cg} {B:cg} {fr:bM} {L:List br} {m:ae} (ks:List Nat) (t:Nat) (e:Bool) (cW:A (fun aY bK m'=>(∃q,qQ aY t=some (.b q)∧q.val=e)∧(lV 0 [] ks aY,bK,m')=(lV 0 [] ks fr,L,m)) fr L m)
 (nM:fD (lV 0 [] ks fr) fun fr=>B ((t, .b (.raw e))::fr) L m):wB A B fr L m:=
 ⟨_,fun aY bK m' ⟨I,J⟩=>⟨[],t,e,ks,I,by
   simp only [Prod.mk.injEq] at J
   obtain ⟨ay,az,cB⟩:=J
   rw [gJ] at nM
   rw [ay,az,cB]
   exact nM⟩,cW⟩
structure uz (c:fF) (A:cg) (fr:bM) (L:List br) (m:ae):Prop where
 h:∀new,Good (c.bs++new) L m→∀(n:Nat) (hf:Code) (Q:Exit→Fr→ae→Prop),(∀aY bK m' hX,c.bs <+: hX→Good hX bK m'→A aY bK m'→cV c.P n hf Q (bf hX aY) (bC hX bK m'))→cV c.P n hf Q (bf (c.bs++new) fr) (bC (c.bs++new) L m)
structure zH (c:fF) (id:Nat) (ops:Array Oper) (draw:Bool) (kn:cg) (fr:bM) (L:List br) (m:ae):Prop where
 h:∀new,Good (c.bs++new) L m→∀(n:Nat) (Q:Exit→Fr→ae→Prop),jS n ops []=true→(∀aY bK m' hX,c.bs <+: hX→Good hX bK m'→kn aY bK m'→Q .normal (bf hX aY) (bC hX bK m'))→cV c.P n (.region id ops draw) Q (bf (c.bs++new) fr) (bC (c.bs++new) L m)
def zI:Code→Bool
 | .region _ _ _=>true
 |_=>false
noncomputable def se (c:fF) (id:Nat) (ops:List Oper) (draw:Bool) (kn:cg) (fr:bM) (L:List br) (m:ae):Prop:=
 match has c.st id,has c.uq id with
 |true,false=>Told fr (pP c id ops draw kn fr L m)
 |false,false=>pP c id ops draw kn fr L m
 |true,true=>Told fr (wB (fun kn fr L m=>pP c id ops draw kn fr L m) kn fr L m)
 |false,true=>wB (fun kn fr L m=>pP c id ops draw kn fr L m) kn fr L m
noncomputable def kM (c:fF) (hf:Code):cg→(Nat→cg)→cg→cg:=
 @Code.rec (fun _=>cg→(Nat→cg)→cg→cg)
   (fun kn _ _ fr L m=>kn fr L m)
   (fun id ops draw kn _ _ fr L m=>
     match has c.cv id with
     |false=>se c id ops.toList draw kn fr L m
     |true=>o2 (uz c (fun fr L m=>se c id ops.toList draw kn fr L m) fr L m) (zH c id ops draw kn fr L m))
   (fun a _ D5 D6 kn kx kr fr L m=>
     match zI a with
     |true=>D5 (fun fr L m=>D6 kn kx kr fr L m) kx kr fr L m
     |false=>wA c (fun zJ fr L m=>D5 zJ kx kr fr L m) (fun fr L m=>D6 kn kx kr fr L m) fr L m)
   (fun q _ _ LB LC kn kx kr fr L m=>ei fr q fun v=>
     match v with
     | .b s=>s.ways (LB kn kx kr fr L m) (LC kn kx kr fr L m)
     |_=>False)
   (fun id _ aO kn kx kr fr L m=>aO kn (fun j fr L m=>match Nat.beq j id with|true=>kn fr L m|false=>kx j fr L m) kr fr L m)
   (fun _ aO _ kx kr fr L m=>zG c (fun zK fr L m=>aO zK kx kr fr L m) fr L m)
   (fun _ _ _ _ _ _ _ _ _ _ _ _=>False)
   (fun id _ kx _ fr L m=>kx id fr L m)
   (fun _ _ _ _ _ _ _ _=>False) (fun _ _ _ _ _ _ _=>False) (fun _ _ _ _ _ _ _=>False) (fun _ _ kr fr L m=>kr fr L m) (fun _ _ _ _ _ _ _=>False) hf
section
variable {c:fF} {kn:cg} {kx:Nat→cg} {kr:cg} {fr:bM} {L:List br} {m:ae}
theorem LD {id:Nat} {ops:Array Oper} {draw:Bool}:kM c (.region id ops draw) kn kx kr fr L m=(match has c.cv id with
 |false=>se c id ops.toList draw kn fr L m
 |true=>o2 (uz c (fun fr L m=>se c id ops.toList draw kn fr L m) fr L m) (zH c id ops draw kn fr L m)):=rfl
theorem LF {a b:Code}:kM c (.seq a b) kn kx kr fr L m=(match zI a with
 |true=>kM c a (fun fr L m=>kM c b kn kx kr fr L m) kx kr fr L m
 |false=>wA c (fun zJ fr L m=>kM c a zJ kx kr fr L m) (fun fr L m=>kM c b kn kx kr fr L m) fr L m):=rfl
theorem LG {q:Operand} {x y:Code}:kM c (.cond q x y) kn kx kr fr L m=ei fr q fun v=>
 match v with
 | .b s=>s.ways (kM c x kn kx kr fr L m) (kM c y kn kx kr fr L m)
 |_=>False:=rfl
theorem LH {id:Nat} {body:Code}:kM c (.block id body) kn kx kr fr L m=kM c body kn (fun j fr L m=>match Nat.beq j id with|true=>kn fr L m|false=>kx j fr L m) kr fr L m:=rfl
theorem LI {body:Code}:kM c (.loop body) kn kx kr fr L m=zG c (fun zK fr L m=>kM c body zK kx kr fr L m) fr L m:=rfl
end
def wC (T:hc) (fr:bM) (L:List br) (r:ResultVar) (k:aT→Prop):Prop:=
 match r with
 | .tmp t=>ko fr t k
 | .cell a t=>ko fr a fun v=>
   match v with
   | .loc b off=>
     match nth L b with
     |some (.cells l)=>cQ T t fun i=>
      match i.k.hx with
      |true=>bH (Nat.ble (off+i.n) l.length) (qF ((l.drop off).take i.n) fun l'=>k (.agg l'))
      |false=>
       match nth l off with
       |some v=>tZ v k
       |none=>False
     |_=>False
   |_=>False
def wD (T:hc) (fr:bM) (L:List br):List ResultVar→(List aT→Prop)→Prop
 |[],k=>k []
 |r::rs,k=>wC T fr L r fun v=>wD T fr L rs fun vs=>k (v::vs)
def wE:List ResultVar→List Nat
 |[]=>[]
 | .tmp t::r=>t::wE r
 | .cell _ _::r=>wE r
def wF (E:Nat) (bd:List Nat):bM→bM
 |[]=>[]
 |(t,v)::r=>(t,bif has bd t then ir E v else v)::wF E bd r
def zL (bs:List Nat):List aT→aa
 |[v]=>den bs v
 |[v,x]=> .tuple [den bs v,(den bs x).plain]
 |[v,x,y]=> .tuple [den bs v,(den bs x).plain,(den bs y).plain]
 |[v,x,y,z]=> .tuple [(den bs v).plain,(den bs x).plain,(den bs y).plain,(den bs z).plain]
 |_=> .tuple []
def uA:Nat→List aT→bM
 |_,[]=>[]
 |i,v::r=>(i,v)::uA (i+1) r
structure uB (c:fF) (K:aa→ae→Prop) (vs:List aT) (L:List br) (m:ae):Prop where
 h:∀new,Good (c.bs++new) L m→∃m',(∀b o,m' b=some o→bC (c.bs++new) L m b=some o)∧K (zL (c.bs++new) vs) m'
def zM (c:fF) (e:Bool) (rs:List ResultVar) (K:aa→ae→Prop):cg:=fun fr L m=>
 match e with
 |true=>fD (wF c.E (wE rs) fr) fun fr=>wD c.T fr L rs fun vs=>uB c K vs L m
 |false=>wD c.T fr L rs fun vs=>uB c K vs L m
end Go.b4
end
section
namespace Go.b4
open Go Go.bb
def kN (bD x:aa):Prop:=bD=x∨∀w lim v os,aF w lim v x os→aF w lim v bD []
theorem kN.pl {bD x:aa} (h:bD=x.plain):kN bD x:= .inr fun _ _ _ _ aw=>by rw [h];exact aw.plain
def gb (aY fr:Fr):Prop:=∀t bD,aY.get t=some bD→∃x,fr.get t=some x∧kN bD x
theorem gb.refl (fr:Fr):gb fr fr:=fun _ x h=>⟨x,h, .inl rfl⟩
theorem gb.cons {aY fr:Fr} (h:gb aY fr) (t:Nat) {bD x:aa} (ao:kN bD x):gb ((t,bD)::aY) ((t,x)::fr):=by
 intro s y aE
 simp only [Fr.get] at aE ⊢
 by_cases e:t=s
 · rw [if_pos e] at aE ⊢
   obtain rfl:bD=y:=by simpa using aE
   exact ⟨x,rfl,ao⟩
 · rw [if_neg e] at aE ⊢
   exact h s y aE
section
variable {P:Program} {n:Nat} {F:Nat→Prop} {lim:Nat→Nat} {w:World} {fr aY:Fr} {m:ae} {ca:Act} {bn:List Nat} {K:Fr→ae→Prop} {ops:Array Oper} {l:List Oper}
theorem aV.less (h:bb.aV F lim w n fr m ca bn) (aj:gb aY fr):bb.aV F lim w n aY m ca bn:=by
 obtain ⟨os,b3,bu,h⟩:=h
 classical
 refine ⟨fun t=>if aY.get t=fr.get t then os t else [],b3,bu,h.size,h.defers,fun t x ao=>?_,h.mem,fun t x ao=>?_,h.dn,h.fs,h.free,h.fresh⟩
 · by_cases he:aY.get t=fr.get t
   · simp only [he,if_true]
     exact h.dv t x (he▸ao)
   · simp only [if_neg he]
     obtain ⟨y,aE,I⟩:=aj t x ao
     rcases I with rfl|I
     · exact (he (ao.trans aE.symm)).elim
     · obtain ⟨J,ak⟩:=h.dv t y aE
       exact ⟨J,I _ _ _ _ ak⟩
 · by_cases he:aY.get t=fr.get t
   · simp only [he,if_true]
     exact h.ea t x (he▸ao)
   · simp [if_neg he]
theorem bB.less (aj:gb aY fr) (h:bB P n ops l K aY m):bB P n ops l K fr m:=fun F lim w ca Q st aS=>h F lim w ca Q (aV.less st aj) aS
theorem cV.less {c:Code} {Q:Exit→Fr→ae→Prop} (aj:gb aY fr) (h:cV P n c Q aY m):cV P n c Q fr m:=fun F lim w ca st=>h F lim w ca (aV.less st aj)
theorem bB.LJ {dst:Option Nat} {op:Op} {ty:TypeId} {pos:String} {af:Array Edge} {gd:Option (Nat×Bool)} (au:ha ops fr gd=some true) (h:bB P n ops (⟨dst,op,ty,pos,af,none⟩::l) K fr m):bB P n ops (⟨dst,op,ty,pos,af,gd⟩::l) K fr m:=by
 intro F lim w ca Q st aS
 have:=h F lim w ca Q st aS
 unfold wpList at this ⊢
 rw [if_pos (by simp [Region.wanted])] at this
 rw [if_pos (qy (o:=⟨dst,op,ty,pos,af,gd⟩) st au)]
 exact this
theorem bB.LK {dst:Option Nat} {op:Op} {ty:TypeId} {pos:String} {af:Array Edge} {gd:Option (Nat×Bool)} (au:ha ops fr gd=some false) (ai:ef n ⟨dst,op,ty,pos,af,gd⟩=true)
 (h:bB P n ops l K (dX fr dst (.lazy false .aP)) m):bB P n ops (⟨dst,op,ty,pos,af,gd⟩::l) K fr m:=by
 intro F lim w ca Q st aS
 unfold wpList
 rw [if_neg (by rw [qy (o:=⟨dst,op,ty,pos,af,gd⟩) st au];simp)]
 cases dst with
 |some d=>
  refine bB.from h aS ?_ (.refl _ _ _)
  exact st.set (jr ai rfl) (.k2 _)
 |none=>
  refine bB.from h aS ?_ (.refl _ _ _)
  exact st
theorem bB.val {dst:Option Nat} {op:Op} {ty:TypeId} {pos:String} {af:Array Edge} {stl ss:List Nat} {side:Prop} {m':ae} {x:aa} (ai:ef n ⟨dst,op,ty,pos,af,none⟩=true) (aJ:fy n ⟨dst,op,ty,pos,af,none⟩=true)
 (aN:ec P m (bc fr) stl dst op= .val side ss m' x) (aj:side) (h:bB P n ops l K (dX (fr.strip ss) dst x) m'):bB P n ops (⟨dst,op,ty,pos,af,none⟩::l) K fr m:=
 tw (stl:=stl) ai aJ (by simp only [mr,aN];exact ⟨aj,h⟩)
theorem bB.nK {dst:Option Nat} {op:Op} {ty:TypeId} {pos:String} {af:Array Edge} {stl ss:List Nat} {side:Prop} {m':ae} (ai:ef n ⟨dst,op,ty,pos,af,none⟩=true) (aJ:fy n ⟨dst,op,ty,pos,af,none⟩=true)
 (aN:ec P m (bc fr) stl dst op= .nK side ss m') (aj:side) (h:bB P n ops l K (dX (fr.strip ss) dst .aP) m'):bB P n ops (⟨dst,op,ty,pos,af,none⟩::l) K fr m:=
 tw (stl:=stl) ai aJ (by simp only [mr,aN];exact ⟨aj,h⟩)
theorem bB.new {dst:Option Nat} {op:Op} {ty:TypeId} {pos:String} {af:Array Edge} {stl ss:List Nat} {side:Prop} {mk:Nat→aa} {o:e2} (ai:ef n ⟨dst,op,ty,pos,af,none⟩=true) (aJ:fy n ⟨dst,op,ty,pos,af,none⟩=true)
 (aN:ec P m (bc fr) stl dst op= .new side ss mk o) (aj:side) (h:∀b,m b=none→bB P n ops l K (dX (fr.strip ss) dst (mk b)) (m.bX b (some o))):bB P n ops (⟨dst,op,ty,pos,af,none⟩::l) K fr m:=
 tw (stl:=stl) ai aJ (by simp only [mr,aN];exact ⟨aj,h⟩)
theorem bB.bq {d:Nat} {op:Op} {ty:TypeId} {pos:String} {af:Array Edge} {side:Prop} {x:aa} (ai:ef n ⟨some d,op,ty,pos,af,none⟩=true) (aS:bb.bq P m (bR (bc fr)) op=some (side,x)) (aj:side)
 (h:bB P n ops l K (fr.put d x) m):bB P n ops (⟨some d,op,ty,pos,af,none⟩::l) K fr m:=
 bB.quiet (o:=⟨some d,op,ty,pos,af,none⟩) rfl rfl ai (by rw [←td];exact aS) aj h
end
section
variable {bs:List Nat} {fr:bM} {L:List br} {m:ae}
theorem zN {x:Operand} {v:aT} {k:bM→Prop} (h:ur x v fr k) (ba:∀t,x= .tmp t→dU fr t=v):∃aY,k aY∧gb (bf bs aY) ((bf bs fr).strip (mq x))∧∀y,gb (bf bs aY) y→gb (bf bs aY) y:=by
 cases x with
 |tmp t=>
  obtain rfl:=ba t rfl
  have aw:=kp bs fr t
  have hle:(den bs (dU fr t)).plain=den bs (dU fr t)→gb (bf bs fr) ((bf bs fr).strip [t]):=fun e s bD ao=>by
   simp only [Fr.strip,Fr.put,Fr.get,aw]
   by_cases az:t=s
   · subst az
     rw [if_pos rfl]
     refine ⟨_,rfl, .inl ?_⟩
     simp only [bc,ao,Option.getD_some] at aw
     rw [aw,e]
   · rw [if_neg az];exact ⟨_,ao, .inl rfl⟩
  simp only [ur] at h
  cases ba:dU fr t with
  |own l=>
   rw [ba] at h aw
   exact ⟨_,h,by simp only [bf,Fr.strip,mq,Fr.put,aw,den,aa.plain];exact gb.refl _,fun _ h=>h⟩
  |agg l=>
   rw [ba] at h aw
   obtain ⟨u,h,hu⟩:=rU bs h
   exact ⟨_,h,by simp only [bf,Fr.strip,mq,Fr.put,aw,den,aa.plain,hu];exact gb.refl _,fun _ h=>h⟩
  |cM l=>rw [ba] at h;exact h.elim
  |aI x=>rw [ba] at h hle;exact ⟨_,h,hle (by simp only [den,tY]),fun _ h=>h⟩
  |b x=>rw [ba] at h hle;exact ⟨_,h,hle (by simp only [den,aa.plain]),fun _ h=>h⟩
  |loc i o=>rw [ba] at h hle;exact ⟨_,h,hle (by simp only [den,aa.plain]),fun _ h=>h⟩
  |ms i a b=>rw [ba] at h hle;exact ⟨_,h,hle (by simp only [den,aa.plain]),fun _ h=>h⟩
  |mp i=>rw [ba] at h hle;exact ⟨_,h,hle (by simp only [den,aa.plain]),fun _ h=>h⟩
  |iB i a b c=>rw [ba] at h hle;exact ⟨_,h,hle (by simp only [den,aa.plain]),fun _ h=>h⟩
  |bL i a b c=>rw [ba] at h hle;exact ⟨_,h,hle (by simp only [den,aa.plain]),fun _ h=>h⟩
  |fn f a c=>rw [ba] at h hle;exact ⟨_,h,hle (by simp only [den,aa.plain]),fun _ h=>h⟩
  |off=>rw [ba] at h hle;exact ⟨_,h,hle (by simp only [den,aa.plain]),fun _ h=>h⟩
 |const v=>exact ⟨_,h,gb.refl _,fun _ h=>h⟩
 |global g=>exact ⟨_,h,gb.refl _,fun _ h=>h⟩
 |func f=>exact ⟨_,h,gb.refl _,fun _ h=>h⟩
theorem D7 {x:Operand} {k:aT→Prop} (h:wa fr x k):∃v,k v∧den bs v=fl (bc (bf bs fr)) x∧∀t,x= .tmp t→dU fr t=v:=by
 cases x with
 |tmp t=>
  rw [wa,lh] at h
  exact ⟨_,h,by rw [fl,kp],fun _ e=>by cases e;rfl⟩
 |const v=>
  obtain ⟨u,I,e⟩:=DN bs h
  exact ⟨u,I,e,fun _ e=>by cases e⟩
 |global g=>exact ⟨_,h,by simp only [den,aa.plain,fl],fun _ e=>by cases e⟩
 |func f=>exact ⟨_,h,by simp only [den,bl,fl],fun _ e=>by cases e⟩
theorem D8 {v:aT} (h:r8 v=true):(den bs v).one=true:=by
 cases v<;>first|(simp only [den,aa.one];done)|(simp [r8] at h;done)
theorem LL {x:aa} {k:aa→Prop} (h:mB x k):x.one=true:=by
 cases x with
 |agg l=>exact h.elim
 |tuple l=>exact h.elim
 |lazy g x=>exact h.elim
 |aP=>exact h.elim
 |_=>rfl
theorem wG:∀{l:List aT} {k:List aT→Prop},r9 l k→∃u,k u∧bl bs u=bl bs l∧(bl bs l).all aa.one=true
 |[],_,h=>⟨_,h,rfl,by simp only [bl,List.all_nil]⟩
 |v::r,k,h=>by
  have h8:∀(h:bH (r8 v) (r9 r fun fz=>k (v::fz))),∃u,k u∧bl bs u=bl bs (v::r)∧(bl bs (v::r)).all aa.one=true:=fun h=>by
   obtain ⟨I,h⟩:=cY.1 h
   obtain ⟨u,h,e,aN⟩:=wG h
   exact ⟨_,h,by simp only [bl,e],by simp only [bl,List.all_cons,D8 I,aN,Bool.and_true]⟩
  cases v with
  |aI x=>
   have I:=LL h
   obtain ⟨cD,h⟩:=n1 h
   obtain ⟨u,h,e,aN⟩:=wG h
   exact ⟨_,h,by simp only [bl,e],by simp only [bl,den,cD,List.all_cons,I,aN,Bool.and_true]⟩
  |own l=>exact h8 h
  |b l=>exact h8 h
  |loc i o=>exact h8 h
  |ms i n c=>exact h8 h
  |mp i=>exact h8 h
  |iB i a w j=>exact h8 h
  |bL i a w j=>exact h8 h
  |agg l=>exact h8 h
  |cM l=>exact h8 h
  |fn f a c=>exact h8 h
  |off=>exact h8 h
theorem wH (bs:List Nat):∀(l:List aa),bl bs (qN l)=aa.ey l
 |[]=>by simp only [qN,bl,aa.ey]
 |x::r=>by simp only [qN,bl,oU,aa.ey,wH bs r]
theorem LM {x:aa} (h:x.one=true):x.ds=true∧x.cells=[x]:=by cases x<;>first|exact ⟨rfl,rfl⟩|cases h
theorem D9 {v:aT} {k:List aT→Prop} (h:zB v k):∃u,k u∧bl bs u=(den bs v).cells∧(den bs v).ds=true∧(den bs v).cells.all aa.one=true:=by
 have h8:∀(h:bH (r8 v) (k [v])),∃u,k u∧bl bs u=(den bs v).cells∧(den bs v).ds=true∧(den bs v).cells.all aa.one=true:=fun h=>by
  obtain ⟨I,h⟩:=cY.1 h
  have J:=D8 (bs:=bs) I
  obtain ⟨ak,aH⟩:=LM J
  exact ⟨_,h,by rw [aH];simp only [bl],ak,by rw [aH];simp only [List.all_cons,List.all_nil,J,Bool.and_true]⟩
 cases v with
 |agg l=>
  obtain ⟨u,h,e,aN⟩:=wG (bs:=bs) h
  exact ⟨_,h,by simp only [den,aa.cells,e],by simp only [den,aa.ds],by simp only [den,aa.cells,aN]⟩
 |aI x=>
  cases x with
  |agg l=>
   obtain ⟨u,h,e,aN⟩:=wG (bs:=bs) h
   rw [wH] at e aN
   exact ⟨_,h,by simp only [den,aa.plain,aa.cells,e],by simp only [den,aa.plain,aa.ds],by simp only [den,aa.plain,aa.cells,aN]⟩
  |tuple l=>exact h.elim
  |lazy g l=>exact h.elim
  |aP=>exact h.elim
  |slice o l=>cases o with
   |true=>exact h.elim
   |false=>exact ⟨_,h,by simp only [bl,den,aa.plain,aa.cells],by simp only [den,aa.plain,aa.ds],by simp only [den,aa.plain,aa.cells,List.all_cons,aa.one,List.all_nil,Bool.and_true]⟩
  |_=>exact ⟨_,h,by simp only [bl,den,aa.plain,aa.cells],by simp only [den,aa.plain,aa.ds],by simp only [den,aa.plain,aa.cells,List.all_cons,aa.one,List.all_nil,Bool.and_true]⟩
 |own l=>exact h8 h
 |b l=>exact h8 h
 |loc i o=>exact h8 h
 |ms i n c=>exact h8 h
 |mp i=>exact h8 h
 |iB i a w j=>exact h8 h
 |bL i a w j=>exact h8 h
 |cM l=>exact h8 h
 |fn f a c=>exact h8 h
 |off=>exact h8 h
theorem zO:∀{l:List aT} {k:List aT→Prop},wq l k→∃u,k u∧bl bs u=aa.ey (bl bs l)
 |[],_,h=>⟨_,h,by simp only [bl,aa.ey]⟩
 |v::r,k,h=>by
  obtain ⟨aJ,h⟩:=cY.1 h
  obtain ⟨fN,I,ay⟩:=rV bs aJ h
  obtain ⟨fz,J,az⟩:=zO I
  exact ⟨_,J,by simp only [bl,aa.ey,ay,az]⟩
theorem LN {v:aT} {k:aT→Prop} (h:zC v k):∃u,k u∧den bs u=(den bs v).plain:=by
 unfold zC at h
 split at h
 · obtain ⟨l',I,e⟩:=zO (bs:=bs) h
   exact ⟨_,I,by simp only [den,aa.plain,e]⟩
 · obtain ⟨aJ,I⟩:=cY.1 h
   exact rV bs aJ I
theorem Ea (l cs:List aT) (off n:Nat):bl bs (uu l cs off n)=(bl bs l).take off++bl bs cs++(bl bs l).drop (off+n):=by
 simp only [uu,lg,List.map_append,List.map_take,List.map_drop]
theorem LO {z:Z} {v:Value} (h:qI v z=true):den bs z.qJ=hS v:=by
 unfold qI at h
 split at h
 · simp only [Bool.and_eq_true,decide_eq_true_eq] at h
   obtain ⟨rfl,rfl⟩:=h
   simp only [Z.qJ,den,aa.plain,hS]
 · simp only [decide_eq_true_eq] at h
   simp only [Z.qJ,den,aa.plain,hS,h]
 · rename_i b
   cases b
   · simp only [Z.qJ,den,bT.val,hS]
   · cases h
 all_goals first|(cases h;done)|simp only [Z.qJ,den,aa.plain,hS]
theorem uC:∀{l:List Value} {z:List Z},oX l z=true→bl bs (ju z)=l.map hS
 |[],[],_=>by simp only [ju,bl,List.map_nil]
 |v::r,z::s,h=>by
  simp only [oX,Bool.and_eq_true] at h
  simp only [ju,bl,List.map_cons,LO h.1,uC h.2]
 |[],_::_,h=>by cases h
 |_::_,[],h=>by cases h
theorem fu.gQ {P:Program} {t:Nat} {i:gl} (cx:fu P t i) (au:i.z≠[]):∃z,bb.gQ P t=some z∧z.cells=bl bs (ju i.z)∧z.ds=true∧(ju i.z).length=i.n:=by
 obtain ⟨v,I,J,ak,aH⟩:=cx.zero au
 have av:∀z:List Z,(ju z).length=z.length:=fun z=>by
  induction z with
  |nil=>rfl
  |cons a r aO=>simp only [ju,List.length_cons,aO]
 refine ⟨jj v,by simp only [bb.gQ,I,J,if_true],?_,?_,by rw [av,aH]⟩
 · unfold rY at ak
   split at ak
   · simp only [Bool.and_eq_true] at ak
     rw [uC ak.2];rfl
   · rename_i ba
     simp only [Bool.and_eq_true] at ak
     have uD:(hS v).cells=[hS v]:=by
      unfold hS
      split<;>rfl
     have tM:jj v=hS v:=by
      cases v with
      |agg cs=>exact absurd rfl (ba cs)
      |iface t u=>
       cases np:i.z with
       |nil=>exact absurd np au
       |cons a r=>rw [np] at ak;simp [oX,qI] at ak
      |_=>rfl
     rw [uC ak.2,tM,uD]
     rfl
 · unfold rY at ak
   split at ak
   · rfl
   · rename_i ba
     simp only [Bool.and_eq_true] at ak
     have aQ:=ak.2
     cases np:i.z with
     |nil=>exact absurd np au
     |cons a r=>
      rw [np] at aQ
      simp only [oX,Bool.and_eq_true] at aQ
      have bw:=aQ.1
      unfold qI at bw
      split at bw<;>first|rfl|cases bw
end
end Go.b4
end
