/-
  The executor, part 1: values that tell places of memory by number, states, what they read as.
-/
import Derived.Test.YtnahenbiipdlkaaGreatDoorWxz
section
namespace Go.cz
open Go Go.bg
inductive bD where
 |lit (b:Bool)
 |lt (a b:Int)
 |le (a b:Int)
 |rG (a b:Int)
 |eqs (a b:List UInt8)
 |zK (a b:Bool)
 |not (c:bD)
 |raw (b:Bool)
def bD.val:bD→Bool
 | .lit b=>b
 | .lt a b=>decide (a<b)
 | .le a b=>decide (a≤b)
 | .rG a b=>a==b
 | .eqs a b=>a==b
 | .zK a b=>a==b
 | .not c=>!c.val
 | .raw b=>b
def bD.ways:bD→Prop→Prop→Prop
 | .lit true,t,_=>t
 | .lit false,_,f=>f
 | .lt a b,t,f=>(a<b→t)∧(b≤a→f)
 | .le a b,t,f=>(a≤b→t)∧(b<a→f)
 | .rG a b,t,f=>(a=b→t)∧(a≠b→f)
 | .eqs a b,t,f=>(a=b→t)∧(a≠b→f)
 | .zK a b,t,f=>(a=b→t)∧(a≠b→f)
 | .not c,t,f=>c.ways f t
 | .raw b,t,f=>(b=true→t)∧(b=false→f)
theorem bD.xJ:∀(c:bD) {t f:Prop},c.ways t f→(c.val=true→t)∧(c.val=false→f)
 | .lit true,_,_,h=>⟨fun _=>h,fun e=>by cases e⟩
 | .lit false,_,_,h=>⟨(fun e=>by cases e),fun _=>h⟩
 | .lt a b,_,_,h=>⟨fun e=>h.1 (of_decide_eq_true e),fun e=>h.2 (Int.not_lt.1 (of_decide_eq_false e))⟩
 | .le a b,_,_,h=>⟨fun e=>h.1 (of_decide_eq_true e),fun e=>h.2 (Int.not_le.1 (of_decide_eq_false e))⟩
 | .rG a b,_,_,h=>⟨fun e=>h.1 (eq_of_beq e),fun e=>h.2 (ne_of_beq_false e)⟩
 | .eqs a b,_,_,h=>⟨fun e=>h.1 (eq_of_beq e),fun e=>h.2 (ne_of_beq_false e)⟩
 | .zK a b,_,_,h=>⟨fun e=>h.1 (eq_of_beq e),fun e=>h.2 (ne_of_beq_false e)⟩
 | .not c,_,_,h=>⟨fun e=>(xJ c h).2 (dz e),fun e=>(xJ c h).1 (du e)⟩
 | .raw b,_,_,h=>h
inductive a7 where
 |aI (x:ab)
 |own (l:List ab)
 |b (c:bD)
 |loc (i off:Nat)
 |ms (i n cap:Nat)
 |mp (i:Nat)
 |jv (i:Nat) (k:Int) (w j:Nat)
 |b9 (i o n cap:Nat)
 |agg (l:List a7)
 |da (l:List a7)
 |fn (f:FuncId) (a c:List a7)
 |off
instance:Inhabited a7:=⟨.off⟩
mutual
def den (bs:List Nat):a7→ab
 | .aI x=>x.plain
 | .own l=> .slice true l
 | .b c=> .bool c.val
 | .loc i off=> .ptr ⟨bs.getD i 0,off,none⟩
 | .ms i n cap=> .ms ⟨bs.getD i 0,0,none⟩ n cap
 | .mp i=> .map (bs.getD i 0)
 | .jv i k w j=> .ptr ⟨bs.getD i 0,0+k.toNat*w+j,none⟩
 | .b9 i o n cap=> .ms ⟨bs.getD i 0,o,none⟩ n cap
 | .agg l=> .agg (bE bs l)
 | .da l=> .tuple (bE bs l)
 | .fn f a c=> .func (.func f) (bE bs a) (bE bs c)
 | .off=> .lazy false .aV
def bE (bs:List Nat):List a7→List ab
 |[]=>[]
 |v::r=>den bs v::bE bs r
end
theorem mx (bs:List Nat) (l:List a7):bE bs l=l.map (den bs):=by
 induction l with
 |nil=>simp only [bE,List.map_nil]
 |cons v r aO=>simp only [bE,List.map_cons,aO]
theorem lO (bs:List Nat) (l:List a7):(bE bs l).length=l.length:=by rw [mx,List.length_map]
mutual
theorem xK:∀(x:ab),x.plain.plain=x.plain
 | .agg l=>by simp only [ab.plain,C3 l]
 | .tuple l=>by simp only [ab.plain,C3 l]
 | .lazy g x=>by simp only [ab.plain,xK x]
 | .slice _ _=>by simp only [ab.plain]
 | .bool _| .int _ _| .str _| .ptr _| .fT| .ref _| .ms _ _ _| .map _| .jm| .func _ _ _| .jU| .gb| .iface _ _| .nilIface| .err _ _| .opt _| .aV=>by simp only [ab.plain]
theorem C3:∀(l:List ab),ab.fD (ab.fD l)=ab.fD l
 |[]=>by simp only [ab.fD]
 |x::r=>by simp only [ab.fD,xK x,C3 r]
end
abbrev ck:=List (Nat×a7)
def bt (bs:List Nat):ck→Fr
 |[]=>[]
 |(t,v)::r=>(t,den bs v)::bt bs r
def eh:ck→Nat→a7
 |[],_=> .aI .aV
 |(s,x)::r,t=>bif Nat.beq s t then x else eh r t
def lk:ck→Nat→(a7→Prop)→Prop
 |[],_,k=>k (.aI .aV)
 |(s,x)::r,t,k=>bif Nat.beq s t then k x else lk r t k
theorem my:∀(fr:ck) (t:Nat) (k:a7→Prop),lk fr t k=k (eh fr t)
 |[],_,_=>rfl
 |(s,x)::r,t,k=>by
  simp only [lk,eh]
  cases Nat.beq s t
  · exact my r t k
  · rfl
theorem ll (bs:List Nat):∀(fr:ck) (t:Nat),br (bt bs fr) t=den bs (eh fr t)
 |[],t=>by simp only [bt,br,Fr.get,Option.getD_none,eh,den,ab.plain]
 |(s,x)::r,t=>by
  have aO:=ll bs r t
  simp only [br] at aO
  simp only [bt,br,Fr.get,eh]
  by_cases h:s=t
  · subst h;simp
  · have:Nat.beq s t=false:=by
     cases ah:Nat.beq s t with
     |false=>rfl
     |true=>exact absurd (Nat.eq_of_beq_eq_true ah) h
    simp only [h,if_false,this,cond_false,aO]
def b1 (b:Bool) (p:Prop):Prop:=
 match b with
 |true=>p
 |false=>False
theorem ec {b:Bool} {p:Prop}:b1 b p↔b=true∧p:=by cases b<;>simp [b1]
def gY {α:Type}:List α→(List α→Prop)→Prop
 |[],k=>k []
 |x::r,k=>gY r (fun gU=>k (x::gU))
theorem hR {α:Type}:∀(l:List α) (k:List α→Prop),gY l k=k l
 |[],_=>rfl
 |x::r,k=>by rw [gY,hR r]
def nth {α:Type}:List α→Nat→Option α
 |[],_=>none
 |x::_,0=>some x
 |_::r,i+1=>nth r i
theorem jN {α:Type}:∀(l:List α) (i:Nat),nth l i=l[i]?
 |[],_=>by simp [nth]
 |x::_,0=>by simp [nth]
 |_::r,i+1=>by simp [nth,jN r i]
def xL:a7→(a7→Prop)→Prop
 | .own l,k=>k (.aI (.slice false l))
 | .aI x,k=>k (.aI x)
 | .b c,k=>k (.b c)
 | .loc i o,k=>k (.loc i o)
 | .ms i n c,k=>k (.ms i n c)
 | .mp i,k=>k (.mp i)
 | .jv i a w j,k=>k (.jv i a w j)
 | .b9 i o n c,k=>k (.b9 i o n c)
 | .fn f a c,k=>k (.fn f a c)
 | .agg _,_| .da _,_| .off,_=>False
theorem ob (bs:List Nat):∀{v:a7} {k:a7→Prop},xL v k→∃u,k u∧den bs u=(den bs v).plain
 | .own l,_,h=>⟨_,h,by simp only [den,ab.plain]⟩
 | .aI x,_,h=>⟨_,h,by simp only [den,xK]⟩
 | .b _,_,h| .loc _ _,_,h| .ms _ _ _,_,h| .mp _,_,h| .jv _ _ _ _,_,h| .b9 _ _ _ _,_,h| .fn _ _ _,_,h=>⟨_,h,by simp only [den,ab.plain]⟩
 | .agg _,_,h| .da _,_,h| .off,_,h=>h.elim
def sV:List a7→(List a7→Prop)→Prop
 |[],k=>k []
 |v::r,k=>xL v (fun hD=>sV r (fun gU=>k (hD::gU)))
theorem uV (bs:List Nat):∀{l:List a7} {k:List a7→Prop},sV l k→∃u,k u∧bE bs u=ab.fD (bE bs l)
 |[],_,h=>⟨_,h,by simp only [bE,ab.fD]⟩
 |v::r,k,h=>by
  obtain ⟨hD,J,aF⟩:=ob bs h
  obtain ⟨gU,aa,az⟩:=uV bs J
  exact ⟨_,aa,by simp only [bE,ab.fD,aF,az]⟩
def rH:a7→(a7→Prop)→Prop
 | .agg l,k=>sV l (fun l'=>k (.agg l'))
 | .off,k=>k .off
 | .da l,k=>k (.da l)
 |v,k=>xL v k
def qz:a7→Bool
 | .da _=>false
 |_=>true
theorem uW (bs:List Nat) {v:a7} {k:a7→Prop} (aM:qz v=true) (h:rH v k):∃u,k u∧den bs u=(den bs v).plain:=by
 cases v with
 |agg l=>
  obtain ⟨u,J,e⟩:=uV bs h
  exact ⟨_,J,by simp only [den,ab.plain,e]⟩
 |off=>exact ⟨_,h,by simp only [den,ab.plain]⟩
 |da l=>simp [qz] at aM
 |aI x=>exact ob bs h
 |own l=>exact ob bs h
 |b l=>exact ob bs h
 |loc i o=>exact ob bs h
 |ms i n c=>exact ob bs h
 |mp i=>exact ob bs h
 |jv i a w j=>exact ob bs h
 |b9 i a w j=>exact ob bs h
 |fn f a c=>exact ob bs h
def oc:ab→(ab→Prop)→Prop
 | .bool b,k=>k (.bool b)
 | .int dL n,k=>k (.int dL n)
 | .str s,k=>k (.str s)
 | .ptr a,k=>k (.ptr a)
 | .fT,k=>k .fT
 | .ref l,k=>k (.ref l)
 | .slice false l,k=>k (.slice false l)
 | .ms a n c,k=>k (.ms a n c)
 | .map b,k=>k (.map b)
 | .jm,k=>k .jm
 | .func f a c,k=>k (.func f a c)
 | .jU,k=>k .jU
 | .gb,k=>k .gb
 | .iface t v,k=>k (.iface t v)
 | .nilIface,k=>k .nilIface
 | .err t e,k=>k (.err t e)
 | .opt b,k=>k (.opt b)
 |_,_=>False
theorem pL {x:ab} {k:ab→Prop} (h:oc x k):x.plain=x∧k x:=by
 cases x with
 |slice o l=>cases o with
  |true=>exact h.elim
  |false=>exact ⟨by simp only [ab.plain],h⟩
 |agg l=>exact h.elim
 |tuple l=>exact h.elim
 |lazy g x=>exact h.elim
 |aV=>exact h.elim
 |_=>exact ⟨by simp only [ab.plain],h⟩
def zL:List ab→(List ab→Prop)→Prop
 |[],k=>k []
 |x::r,k=>oc x (fun bH=>zL r (fun gU=>k (bH::gU)))
theorem C4:∀{l:List ab} {k:List ab→Prop},zL l k→ab.fD l=l∧k l
 |[],_,h=>⟨by simp only [ab.fD],h⟩
 |x::r,k,h=>by
  obtain ⟨aF,J⟩:=pL h
  obtain ⟨az,aa⟩:=C4 J
  exact ⟨by simp only [ab.fD,aF,az],aa⟩
def uX:ab→(ab→Prop)→Prop
 | .agg l,k=>zL l (fun l'=>k (.agg l'))
 |x,k=>oc x k
theorem zM {x:ab} {k:ab→Prop} (h:uX x k):x.plain=x∧k x:=by
 cases x with
 |agg l=>
  obtain ⟨e,J⟩:=C4 h
  exact ⟨by simp only [ab.plain,e],J⟩
 |_=>exact pL h
def C5:ab→(List ab→Prop)→Prop
 | .agg l,k=>gY l k
 |x,k=>oc x (fun bH=>k [bH])
theorem PU {x:ab} {k:List ab→Prop} (h:C5 x k):k x.cells:=by
 cases x with
 |agg l=>rw [C5,hR] at h;exact h
 |slice o l=>exact (pL (x:= .slice o l) (k:=fun bH=>k [bH]) h).2
 |_=>first|exact (pL (k:=fun bH=>k [bH]) h).2|exact h|exact h.elim
def qA:ab→a7
 | .bool b=> .b (.raw b)
 |x=> .aI x
theorem qB (bs:List Nat) (x:ab):den bs (qA x)=x.plain:=by
 cases x<;>simp only [qA,den,bD.val,ab.plain]
def xM:ab→(a7→Prop)→Prop
 | .bool b,k=>k (.b (.raw b))
 |x,k=>k (.aI x)
theorem zN (x:ab) (k:a7→Prop):xM x k=k (qA x):=by
 cases x<;>rfl
def xN:Value→(a7→Prop)→Prop
 | .bool b,k=>k (.b (.lit b))
 | .int dL n,k=>k (.aI (.int dL n))
 | .string s,k=>gY s.data.toList (fun l=>k (.aI (.str l)))
 | .pointer none,k=>k (.aI .fT)
 | .slice none _ _,k=>k (.own [])
 | .map none,k=>k (.aI .jm)
 | .nilFunc,k=>k (.aI .jU)
 | .nilIface,k=>k (.aI .nilIface)
 |_,_=>False
theorem HV (bs:List Nat) {v:Value} {k:a7→Prop} (h:xN v k):∃u,k u∧den bs u=iU v:=by
 unfold xN at h
 split at h
 all_goals first|exact h.elim|exact ⟨_,h,by simp only [den,bD.val,iU,ab.plain]⟩|skip
 rw [hR] at h
 exact ⟨_,h,by simp only [den,iU,ab.plain]⟩
def C6:List Value→(List a7→Prop)→Prop
 |[],k=>k []
 |v::r,k=>xN v (fun hD=>C6 r (fun gU=>k (hD::gU)))
theorem HW (bs:List Nat):∀{l:List Value} {k:List a7→Prop},C6 l k→∃u,k u∧bE bs u=l.map iU
 |[],_,h=>⟨_,h,by simp only [bE,List.map_nil]⟩
 |v::r,k,h=>by
  obtain ⟨hD,J,aF⟩:=HV bs h
  obtain ⟨gU,aa,az⟩:=HW bs J
  exact ⟨_,aa,by simp only [bE,List.map_cons,aF,az]⟩
def zO:Value→(a7→Prop)→Prop
 | .agg cs,k=>C6 cs.toList (fun l=>k (.agg l))
 | .iface t (.int dL n),k=>k (.aI (.iface t (.int dL n)))
 |v,k=>xN v k
theorem HX (bs:List Nat) {v:Value} {k:a7→Prop} (h:zO v k):∃u,k u∧den bs u=jX v:=by
 unfold zO at h
 split at h
 · obtain ⟨u,J,e⟩:=HW bs h
   exact ⟨_,J,by simp only [den,jX,e]⟩
 · exact ⟨_,h,by simp only [den,jX,iU,ab.plain]⟩
 · obtain ⟨u,J,e⟩:=HV bs h
   refine ⟨u,J,e.trans ?_⟩
   rename_i bw ad
   cases v<;>first|rfl|(simp only [xN] at h)
def fu (fr:ck):Operand→(a7→Prop)→Prop
 | .tmp t,k=>lk fr t (fun v=>b1 (qz v) (rH v k))
 | .const v,k=>zO v k
 | .global g,k=>k (.aI (.ptr ⟨g,0,none⟩))
 | .func f,k=>k (.fn f [] [])
theorem fF (bs:List Nat) {fr:ck} {x:Operand} {k:a7→Prop} (h:fu fr x k):∃v,k v∧den bs v=cA (br (bt bs fr)) x:=by
 cases x with
 |tmp t=>
  rw [fu,my,ec] at h
  obtain ⟨v,J,e⟩:=uW bs h.1 h.2
  exact ⟨v,J,by rw [e,cA,ll]⟩
 |const v=>
  obtain ⟨u,J,e⟩:=HX bs h
  exact ⟨u,J,e⟩
 |global g=>exact ⟨_,h,by simp only [den,ab.plain,cA]⟩
 |func f=>exact ⟨_,h,by simp only [den,bE,cA]⟩
def zP (fr:ck):Operand→(a7→Prop)→Prop
 | .tmp t,k=>lk fr t k
 | .const v,k=>zO v k
 | .global g,k=>k (.aI (.ptr ⟨g,0,none⟩))
 | .func f,k=>k (.fn f [] [])
def sW (fr:ck):List Operand→(List a7→Prop)→Prop
 |[],k=>k []
 |x::r,k=>fu fr x (fun v=>sW fr r (fun gU=>k (v::gU)))
theorem uY (bs:List Nat) {fr:ck}:∀{l:List Operand} {k:List a7→Prop},sW fr l k→∃u,k u∧bE bs u=l.map (cA (br (bt bs fr)))
 |[],_,h=>⟨_,h,by simp only [bE,List.map_nil]⟩
 |x::r,k,h=>by
  obtain ⟨v,J,aF⟩:=fF bs h
  obtain ⟨gU,aa,az⟩:=uY bs J
  exact ⟨_,aa,by simp only [bE,List.map_cons,aF,az]⟩
inductive bT where
 |cells (l:List a7)
 |obj (o:gr)
def gz (bs:List Nat):bT→gr
 | .cells l=> .cells (bE bs l)
 | .obj o=>o
def iy (bs:List Nat) (L:List bT):List (Nat×gr):=bs.zip (L.map (gz bs))
def b7 (bs:List Nat) (L:List bT) (m:ae):ae:=m.aS (iy bs L)
structure Good (bs:List Nat) (L:List bT) (m:ae):Prop where
 lP:bs.Nodup
 len:bs.length=L.length
 fresh:∀b∈bs,m b=none
theorem qC {bs:List Nat} {L:List bT} (h:bs.length=L.length):(iy bs L).map Prod.fst=bs:=by
 rw [iy,List.map_fst_zip]
 simp [h]
theorem Good.nodup {bs:List Nat} {L:List bT} {m:ae} (g:Good bs L m):((iy bs L).map Prod.fst).Nodup:=by rw [qC g.len];exact g.lP
theorem C7 {bs:List Nat} {L:List bT} {i:Nat} {o:bT} (h:bs.length=L.length) (aL:L[i]?=some o):(iy bs L)[i]?=some (bs.getD i 0,gz bs o):=by
 have ad:i<L.length:=by
  rcases Nat.lt_or_ge i L.length with cN|cN
  · exact cN
  · rw [List.getElem?_eq_none cN] at aL;cases aL
 have ah:bs[i]?=some (bs.getD i 0):=by
  rw [List.getD_eq_getElem?_getD,List.getElem?_eq_getElem (by omega)];rfl
 simp only [iy,List.zip,List.getElem?_zipWith,ah,List.getElem?_map,aL,Option.map_some]
theorem oY {bs:List Nat} {L:List bT} {m:ae} (g:Good bs L m) {i:Nat} {o:bT} (aL:L[i]?=some o):b7 bs L m (bs.getD i 0)=some (gz bs o):=
 qu i g.nodup (C7 g.len aL)
theorem HY {bs:List Nat} {L:List bT} {i:Nat} {o:bT}:(iy bs L).set i (bs.getD i 0,gz bs o)=iy bs (L.set i o)∨bs.length≤i:=by
 rcases Nat.lt_or_ge i bs.length with h|h
 · left
   have ah:bs=bs.set i (bs.getD i 0):=by
    rw [List.getD_eq_getElem?_getD,List.getElem?_eq_getElem h];simp
   simp only [iy,List.map_set]
   conv=>rhs;rw [ah,←ah]
   apply List.ext_getElem?
   intro j
   simp only [List.zip,List.getElem?_set,List.getElem?_zipWith,List.length_zipWith,List.length_map]
   by_cases aD:i=j
   · subst aD
     rw [List.getD_eq_getElem?_getD,List.getElem?_eq_getElem h]
     by_cases av:i<L.length
     · have:i<min bs.length L.length:=by omega
       simp [av,this]
     · have:¬i<min bs.length L.length:=by omega
       simp [av,this]
   · simp [aD]
 · exact .inr h
theorem mem_set {bs:List Nat} {L:List bT} {m:ae} (g:Good bs L m) {i:Nat} {o fE:bT} (aL:L[i]?=some o):(b7 bs L m).cE (bs.getD i 0) (some (gz bs fE))=b7 bs (L.set i fE) m:=by
 rw [b7,CN i g.nodup (C7 g.len aL)]
 rcases HY (bs:=bs) (L:=L) (i:=i) (o:=fE) with h|h
 · rw [h];rfl
 · have sK:=g.len
   have:i<L.length:=by
    rcases Nat.lt_or_ge i L.length with cN|cN
    · exact cN
    · rw [List.getElem?_eq_none cN] at aL;cases aL
   omega
theorem Good.set {bs:List Nat} {L:List bT} {m:ae} (g:Good bs L m) (i:Nat) (o:bT):Good bs (L.set i o) m:=⟨g.lP,by rw [List.length_set];exact g.len,g.fresh⟩
def xO (n:Nat):a7→Bool
 | .loc i _| .ms i _ _| .mp i| .jv i _ _ _| .b9 i _ _ _=>Nat.ble (i+1) n
 | .agg _| .da _| .fn _ _ _=>false
 |_=>true
def od (n:Nat):List a7→Bool
 |[]=>true
 |v::r=>bif xO n v then od n r else false
def zQ (n:Nat):a7→Bool
 | .agg l| .da l=>od n l
 | .fn _ a c=>bif od n a then od n c else false
 |v=>xO n v
def qD (n:Nat):ck→Bool
 |[]=>true
 |(_,v)::r=>bif zQ n v then qD n r else false
def zR (n:Nat):bT→Bool
 | .cells l=>od n l
 | .obj _=>true
def nx (n:Nat):List bT→Bool
 |[]=>true
 |o::r=>bif zR n o then nx n r else false
theorem xP {bs x:List Nat} {i:Nat} (h:Nat.ble (i+1) bs.length=true):(bs++x).getD i 0=bs.getD i 0:=by
 have cN:i<bs.length:=Nat.le_of_ble_eq_true h
 rw [List.getD_eq_getElem?_getD,List.getD_eq_getElem?_getD,List.getElem?_append_left cN]
theorem HZ {bs x:List Nat} {v:a7} (h:xO bs.length v=true):den (bs++x) v=den bs v:=by
 cases v with
 |loc i o=>simp only [den,xP (x:=x) h]
 |ms i n c=>simp only [den,xP (x:=x) h]
 |mp i=>simp only [den,xP (x:=x) h]
 |jv i k w j=>simp only [den,xP (x:=x) h]
 |b9 i o n c=>simp only [den,xP (x:=x) h]
 |agg l=>cases h
 |da l=>cases h
 |fn f a c=>cases h
 |_=>simp only [den]
theorem sX {bs x:List Nat}:∀{l:List a7},od bs.length l=true→bE (bs++x) l=bE bs l
 |[],_=>by simp only [bE]
 |v::r,h=>by
  simp only [od] at h
  cases bw:xO bs.length v with
  |false=>rw [bw] at h;cases h
  |true=>rw [bw] at h;simp only [bE,HZ bw,sX (l:=r) h]
theorem PV {bs x:List Nat} {v:a7} (h:zQ bs.length v=true):den (bs++x) v=den bs v:=by
 cases v with
 |agg l=>simp only [den,sX (x:=x) (l:=l) h]
 |da l=>simp only [den,sX (x:=x) (l:=l) h]
 |fn f a c=>
  simp only [zQ] at h
  cases aT:od bs.length a with
  |false=>rw [aT] at h;cases h
  |true=>rw [aT] at h;simp only [den,sX (x:=x) aT,sX (x:=x) (l:=c) h]
 |_=>exact HZ h
theorem zS {bs x:List Nat}:∀{fr:ck},qD bs.length fr=true→bt (bs++x) fr=bt bs fr
 |[],_=>rfl
 |(t,v)::r,h=>by
  simp only [qD] at h
  cases bw:zQ bs.length v with
  |false=>rw [bw] at h;cases h
  |true=>rw [bw] at h;simp only [bt,PV bw,zS (fr:=r) h]
theorem C8 {bs x:List Nat}:∀{L:List bT},nx bs.length L=true→L.map (gz (bs++x))=L.map (gz bs)
 |[],_=>rfl
 |o::r,h=>by
  simp only [nx] at h
  cases bw:zR bs.length o with
  |false=>rw [bw] at h;cases h
  |true=>
   rw [bw] at h
   simp only [List.map_cons,C8 (L:=r) h]
   cases o with
   |cells l=>simp only [gz,sX (x:=x) (l:=l) bw]
   |obj o=>simp only [gz]
theorem PW {bs:List Nat} {L:List bT} {m:ae} (g:Good bs L m) (aw:nx bs.length L=true) {b:Nat} (ah:b7 bs L m b=none) (o:bT):
 Good (bs++[b]) (L++[o]) m∧b7 (bs++[b]) (L++[o]) m=(b7 bs L m).cE b (some (gz (bs++[b]) o)):=by
 have aZ:=Pm ah
 rw [qC g.len] at aZ
 have zl:Good (bs++[b]) (L++[o]) m:=by
  refine ⟨?_,by simp [g.len],?_⟩
  · rw [List.nodup_append]
    exact ⟨g.lP,by simp,fun a aT c ao=>by simp at ao;subst ao;exact fun e=>aZ.1 (e▸aT)⟩
  · intro c ao
    rcases List.mem_append.1 ao with h|h
    · exact g.fresh c h
    · simp at h;subst h;exact aZ.2
 refine ⟨zl,?_⟩
 have e:iy (bs++[b]) (L++[o])=iy bs L++[(b,gz (bs++[b]) o)]:=by
  simp only [iy,List.map_append,List.map_cons,List.map_nil,C8 (x:=[b]) aw]
  rw [List.zip_append (by simp [g.len])]
  rfl
 have aQ:(iy (bs++[b]) (L++[o])).Perm ((b,gz (bs++[b]) o)::iy bs L):=by
  rw [e];exact List.perm_append_comm
 rw [b7,Hz zl.nodup aQ]
 rfl
end Go.cz
end
section
namespace Go.cz
open Go Go.bg
inductive jw where
 |int (k:IntKind)
 |str
 |bool
 |b9 (e:Nat)
 |st (c6:List (Nat×Nat))
 |mp (k e:Nat)
 |ptr
 |ln
 |H0
inductive Z where
 |i (k:IntKind)
 |s
 |b
 |p
 |l
 |m
 |f
 |n
structure hx where
 k:jw
 n:Nat
 y:Nat
 z:List Z
abbrev h1:=List (Nat×hx)
def jw.iz:jw→Bool
 | .st _=>true
 |_=>false
def kindOk (P:Program) (d:TypeDesc):jw→Bool
 | .int k=>match d with| .int en=>decide (k=en)|_=>false
 | .str=>match d with| .string=>true|_=>false
 | .bool=>match d with| .bool=>true|_=>false
 | .b9 e=>match d with| .slice bR=>Nat.beq e bR&&eV P e&&Nat.ble 1 (P.cellsOf e)&&kJ P e|_=>false
 | .st c6=>match d with| .struct eG=>decide (eG.toList.map (fun f=>(f.offset,f.type))=c6)&&eG.toList.all (fun f=>eV P f.type&&!(Nat.beq (P.cellsOf f.type) 0))|_=>false
 | .mp k e=>match d with| .map en bR=>Nat.beq k en&&Nat.beq e bR|_=>false
 | .ptr=>match d with| .pointer _=>true|_=>false
 | .ln=>match d with| .interface _=>true|_=>false
 | .H0=>match d with| .interface _| .struct _| .array _ _=>false|_=>true
def sY:Value→Z→Bool
 | .int k n, .i en=>decide (k=en)&&decide (n=0)
 | .string s, .s=>decide (s.data.toList=[])
 | .bool b, .b=>!b
 | .pointer none, .p=>true
 | .slice none n c, .l=>Nat.beq n 0&&Nat.beq c 0
 | .map none, .m=>true
 | .nilFunc, .f=>true
 | .nilIface, .n=>true
 |_,_=>false
def qE:List Value→List Z→Bool
 |[],[]=>true
 |v::r,z::s=>sY v z&&qE r s
 |_,_=>false
def uZ (v:Value) (st:Bool) (z:List Z):Bool:=
 match v with
 | .agg cs=>st&&qE cs.toList z
 |v=>!st&&qE [v] z
def Z.sZ:Z→a7
 | .i k=> .aI (.int k 0)
 | .s=> .aI (.str [])
 | .b=> .b (.lit false)
 | .p=> .aI .fT
 | .l=> .own []
 | .m=> .aI .jm
 | .f=> .aI .jU
 | .n=> .aI .nilIface
def ka:List Z→List a7
 |[]=>[]
 |z::r=>z.sZ::ka r
def zT (P:Program) (t:Nat) (i:hx):Bool:=
 (match P.underlying t with|some d=>kindOk P d i.k&&(kF P t==i.k.iz)|none=>false)&&eV P t&&Nat.beq (P.cellsOf t) i.n&&Nat.beq (P.bytesOf t) i.y&&
 (match i.k with| .int _=>(P.info? t).map (·.comparable)==some true|_=>true)&&
 (match i.z with|[]=>true|z=>match (P.info? t).bind (·.zero) with|some v=>pk v&&uZ v i.k.iz z&&Nat.beq z.length i.n|none=>false)
def fO (P:Program) (T:h1):Bool:=T.all fun p=>zT P p.1 p.2
def dT:h1→Nat→(hx→Prop)→Prop
 |[],_,_=>False
 |(s,i)::r,t,k=>bif Nat.beq s t then k i else dT r t k
section
variable {P:Program} {T:h1}
theorem PX (h:fO P T=true) {t:Nat} {k:hx→Prop}:dT T t k→∃i,zT P t i=true∧k i:=by
 induction T with
 |nil=>exact fun h=>h.elim
 |cons p r aO=>
  obtain ⟨s,i⟩:=p
  simp only [fO,List.all_cons,Bool.and_eq_true] at h
  intro al
  simp only [dT] at al
  cases ah:Nat.beq s t with
  |true=>
   rw [ah] at al
   rw [Nat.eq_of_beq_eq_true ah] at h
   exact ⟨i,h.1,al⟩
  |false=>
   rw [ah] at al
   exact aO h.2 al
structure gM (P:Program) (t:Nat) (i:hx):Prop where
 u:∃d,P.underlying t=some d∧kindOk P d i.k=true
 xQ:kF P t=i.k.iz
 is:eV P t=true
 cells:P.cellsOf t=i.n
 bytes:P.bytesOf t=i.y
 cmp:∀k,i.k= .int k→(P.info? t).map (·.comparable)=some true
 zero:i.z≠[]→∃v,(P.info? t).bind (·.zero)=some v∧pk v=true∧uZ v i.k.iz i.z=true∧i.z.length=i.n
theorem gM.of {t:Nat} {i:hx} (h:zT P t i=true):gM P t i:=by
 simp only [zT,Bool.and_eq_true] at h
 obtain ⟨⟨⟨⟨⟨J,aa⟩,aj⟩,aG⟩,bu⟩,aR⟩:=h
 cases aY:P.underlying t with
 |none=>rw [aY] at J;cases J
 |some d=>
  rw [aY] at J
  simp only [Bool.and_eq_true,beq_iff_eq] at J
  refine ⟨⟨d,aY,J.1⟩,J.2,aa,Nat.eq_of_beq_eq_true aj,Nat.eq_of_beq_eq_true aG,fun k al=>?_,fun ak=>?_⟩
  · rw [al] at bu;simpa using bu
  · cases oZ:i.z with
    |nil=>exact absurd oZ ak
    |cons z r=>
     rw [oZ] at aR
     simp only at aR
     cases ad:(P.info? t).bind (·.zero) with
     |none=>rw [ad] at aR;cases aR
     |some v=>
      rw [ad] at aR
      simp only [Bool.and_eq_true] at aR
      exact ⟨v,rfl,aR.1.1,aR.1.2,Nat.eq_of_beq_eq_true aR.2⟩
theorem gM.int {t:Nat} {i:hx} (h:gM P t i) {k:IntKind} (al:i.k= .int k):P.underlying t=some (.int k):=by
 obtain ⟨d,J,aa⟩:=h.u
 rw [al] at aa
 cases d<;>simp [kindOk] at aa
 rw [J,aa]
theorem gM.str {t:Nat} {i:hx} (h:gM P t i) (al:i.k= .str):P.underlying t=some .string:=by
 obtain ⟨d,J,aa⟩:=h.u
 rw [al] at aa
 cases d<;>simp [kindOk] at aa
 exact J
theorem gM.bool {t:Nat} {i:hx} (h:gM P t i) (al:i.k= .bool):P.underlying t=some .bool:=by
 obtain ⟨d,J,aa⟩:=h.u
 rw [al] at aa
 cases d<;>simp [kindOk] at aa
 exact J
theorem gM.b9 {t:Nat} {i:hx} (h:gM P t i) {e:Nat} (al:i.k= .b9 e):P.underlying t=some (.slice e)∧eV P e=true∧0<P.cellsOf e∧kJ P e=true:=by
 obtain ⟨d,J,aa⟩:=h.u
 rw [al] at aa
 cases d<;>simp [kindOk] at aa
 obtain ⟨⟨⟨aj,aG⟩,aR⟩,bu⟩:=aa
 obtain rfl:=aj
 exact ⟨J,aG,aR,bu⟩
theorem gM.st {t:Nat} {i:hx} (h:gM P t i) {c6:List (Nat×Nat)} (al:i.k= .st c6):∃eG,P.underlying t=some (.struct eG)∧eG.toList.map (fun f=>(f.offset,f.type))=c6∧∀f∈eG.toList,eV P f.type=true∧P.cellsOf f.type≠0:=by
 obtain ⟨d,J,aa⟩:=h.u
 rw [al] at aa
 cases d<;>simp only [kindOk] at aa<;>try (cases aa;done)
 simp only [Bool.and_eq_true,decide_eq_true_eq,List.all_eq_true,Bool.not_eq_true'] at aa
 refine ⟨_,J,aa.1,fun f aZ=>⟨(aa.2 f aZ).1,fun e=>?_⟩⟩
 have:=(aa.2 f aZ).2
 rw [e] at this
 cases this
theorem gM.mp {t:Nat} {i:hx} (h:gM P t i) {k e:Nat} (al:i.k= .mp k e):P.underlying t=some (.map k e):=by
 obtain ⟨d,J,aa⟩:=h.u
 rw [al] at aa
 cases d<;>simp [kindOk] at aa
 rw [J,aa.1,aa.2]
theorem gM.ln {t:Nat} {i:hx} (h:gM P t i) (al:i.k= .ln):∃ms,P.underlying t=some (.interface ms):=by
 obtain ⟨d,J,aa⟩:=h.u
 rw [al] at aa
 cases d<;>simp [kindOk] at aa
 exact ⟨_,J⟩
theorem gM.ptr {t:Nat} {i:hx} (h:gM P t i) (al:i.k= .ptr):∃ms,P.underlying t=some (.pointer ms):=by
 obtain ⟨d,J,aa⟩:=h.u
 rw [al] at aa
 cases d<;>simp [kindOk] at aa
 exact ⟨_,J⟩
def jw.s0:jw→Bool
 | .ln=>false
 |_=>true
theorem gM.s0 {t:Nat} {i:hx} (h:gM P t i) (al:i.k.s0=true):∃d,P.underlying t=some d∧∀ms,d≠ .interface ms:=by
 obtain ⟨d,J,aa⟩:=h.u
 refine ⟨d,J,fun ms e=>?_⟩
 subst e
 cases ad:i.k<;>rw [ad] at aa al<;>simp [kindOk,jw.s0] at aa al
end
def u0 (w:Bool) (dL:IntKind) (r:Int) (k:a7→Prop):Prop:=
 match w,dL with
 |false, .i64=>(-9223372036854775808≤r∧r≤9223372036854775807)∧k (.aI (.int .i64 r))
 |_,dL=>k (.aI (.int dL (dL.wrap r)))
theorem zU {w:Bool} {dL:IntKind} {r:Int} {k:a7→Prop} (h:u0 w dL r k):k (.aI (.int dL (dL.wrap r))):=by
 unfold u0 at h
 split at h
 · rw [wrap64 _ h.1.1 h.1.2];exact h.2
 · exact h
def xR:IntKind→IntKind→Bool
 | .i64, .i64| .u8, .u8| .i8, .i8| .i16, .i16| .i32, .i32| .u16, .u16| .u32, .u32| .u64, .u64=>true
 |_,_=>false
theorem zV {a b:IntKind} (h:xR a b=true):a=b:=by cases a<;>cases b<;>first|rfl|cases h
def H2 (w:Bool) (op:BinOp) (dL:IntKind) (a b:Int) (k:a7→Prop):Prop:=
 match op with
 | .add=>u0 w dL (a+b) k
 | .sub=>u0 w dL (a- b) k
 | .mul=>u0 w dL (a*b) k
 | .quo=>b≠0∧k (.aI (.int dL (dL.wrap (a.tdiv b))))
 | .rem=>(b≠0∧dL.min≤a.tmod b∧a.tmod b≤dL.max)∧k (.aI (.int dL (a.tmod b)))
 | .and=>k (.aI (.int dL (dL.wrap (BitVec.ofInt dL.bits a &&& BitVec.ofInt dL.bits b).toNat)))
 | .or=>k (.aI (.int dL (dL.wrap (BitVec.ofInt dL.bits a ||| BitVec.ofInt dL.bits b).toNat)))
 | .xor=>k (.aI (.int dL (dL.wrap (BitVec.ofInt dL.bits a ^^^ BitVec.ofInt dL.bits b).toNat)))
 | .eql=>k (.b (.rG a b))
 | .neq=>k (.b (.not (.rG a b)))
 | .lss=>k (.b (.lt a b))
 | .leq=>k (.b (.le a b))
 | .gtr=>k (.b (.lt b a))
 | .geq=>k (.b (.le b a))
 |_=>False
def H3 (op:BinOp) (dL:IntKind) (a b:Int) (k:a7→Prop):Prop:=
 match op with
 | .shl=>0≤b∧k (.aI (.int dL (dL.wrap (a*2^(min b.toNat dL.bits)))))
 | .shr=>(0≤b∧dL.min≤a.fdiv (2^(min b.toNat dL.bits))∧a.fdiv (2^(min b.toNat dL.bits))≤dL.max)∧k (.aI (.int dL (a.fdiv (2^(min b.toNat dL.bits)))))
 |_=>False
def H4:BinOp→Bool
 | .shl| .shr=>true
 |_=>false
def H5 (op:BinOp) (a b:List UInt8) (k:a7→Prop):Prop:=
 match op with
 | .add=>a.length+b.length≤140737488355328∧k (.aI (.str (a++b)))
 | .eql=>k (.b (.eqs a b))
 | .neq=>k (.b (.not (.eqs a b)))
 | .lss=>k (.b (.raw (Op.bytesLess a b)))
 | .leq=>k (.b (.raw (Op.bytesLess a b||a==b)))
 | .gtr=>k (.b (.not (.raw (Op.bytesLess a b||a==b))))
 | .geq=>k (.b (.not (.raw (Op.bytesLess a b))))
 |_=>False
def xS (op:BinOp) (c:bD) (k:a7→Prop):Prop:=
 match op with
 | .eql=>k (.b c)
 | .neq=>k (.b (.not c))
 |_=>False
def s3 (op:BinOp) (c:Bool) (k:a7→Prop):Prop:=
 match op with
 | .eql=>k (.b (.lit c))
 | .neq=>k (.b (.lit (!c)))
 |_=>False
def u1:Operand→Bool
 | .const _=>true
 |_=>false
def jw.xT:jw→Bool
 | .ln=>true
 |_=>false
def jw.zW:jw→Bool
 | .ptr=>true
 |_=>false
def jw.isBool:jw→Bool
 | .bool=>true
 |_=>false
def C9 (T:h1) (w:Bool) (op:BinOp) (t:Nat) (Da:Bool) (x y:a7) (k:a7→Prop):Prop:=
 match x,y with
 | .aI (.int dL a), .aI (.int qF b)=>
   match H4 op with
   |true=>H3 op dL a b k
   |false=>b1 (xR dL qF) (H2 w op dL a b k)
 | .aI (.str a), .aI (.str b)=>H5 op a b k
 | .b c, .b d=>dT T t fun i=>b1 i.k.isBool (xS op (.zK c.val d.val) k)
 | .aI .nilIface, .aI .nilIface=>dT T t fun i=>b1 i.k.xT (b1 Da (s3 op true k))
 | .aI (.err _ e), .aI .nilIface=>dT T t fun i=>b1 i.k.xT (b1 Da (xS op (.rG e 0) k))
 | .aI (.opt b), .aI .nilIface=>dT T t fun i=>b1 i.k.xT (b1 Da (xS op (.not (.raw b)) k))
 | .aI (.iface _ _), .aI .nilIface=>dT T t fun i=>b1 i.k.xT (s3 op false k)
 | .aI (.err iV e), .aI (.iface u (.int dL c))=>dT T t fun i=>b1 i.k.xT (dT T iV fun j=>b1 (match j.k with| .int .i64=>true|_=>false) (b1 (Nat.beq iV u) (b1 (xR .i64 dL) (c≠0∧xS op (.rG e c) k))))
 | .loc _ _, .aI .fT| .aI .fT, .loc _ _=>dT T t fun i=>b1 i.k.zW (s3 op false k)
 | .aI (.ref _), .aI .fT| .aI .fT, .aI (.ref _)=>dT T t fun i=>b1 i.k.zW (s3 op false k)
 | .aI (.ptr _), .aI .fT| .aI .fT, .aI (.ptr _)=>dT T t fun i=>b1 i.k.zW (s3 op false k)
 | .aI .fT, .aI .fT=>dT T t fun i=>b1 i.k.zW (s3 op true k)
 |_,_=>False
end Go.cz
end
section
namespace Go.cz
open Go Go.bg
structure Db (l:List ab) (n:Int) (Q:ab→Prop):Prop where
 h:0≤n∧n<l.length
 q:Q (l.getD n.toNat .aV)
theorem cX {α:Type} [Inhabited α] {f:α→ab} {xs:List α} {n:Int} {Q:ab→Prop} (h:0≤n∧n<xs.length) (h2:Q (f (I xs n))):Db (xs.map f) n Q:=
 ⟨by simpa using h,by rw [idx_eq f xs n h.1 h.2];exact h2⟩
theorem fc {α:Type} [Inhabited α] {f:α→ab} (g:α→ab) (e:∀a,f a=g a) {xs:List α} {n:Int} {Q:ab→Prop} (h:0≤n∧n<xs.length) (h2:Q (g (I xs n))):Db (xs.map f) n Q:=
 cX h (by rw [e];exact h2)
structure H6 (l:List ab) (Q:Int→Prop):Prop where
 q:Q l.length
theorem bN {α:Type} {f:α→ab} {xs:List α} {Q:Int→Prop} (h2:Q xs.length):H6 (xs.map f) Q:=⟨by rw [List.length_map];exact h2⟩
structure PY (w:Nat) (l:List ab) (p:Int) (q:Option Int) (Q:List ab→Prop):Prop where
 q:∃cj:Int,q.getD l.length=cj∧(0≤p∧p≤cj∧cj≤l.length∧∀x∈l,x.cells.length=w)∧Q ((l.drop p.toNat).take (cj- p).toNat)
structure H7 (l:List ab) (Q:List UInt8→Prop):Prop where
 h:∀x∈l,∃k:Int,x= .int .u8 k
 q:Q (l.map bg.byteOf)
theorem pM {xs:List UInt8} {Q:List UInt8→Prop} (h2:Q xs):H7 (xs.map bC) Q:=
 ⟨fun x an=>by obtain ⟨a,_,rfl⟩:=List.mem_map.1 an;exact ⟨_,rfl⟩,by rw [MI];exact h2⟩
def Dc (v:a7) (k:a7→Prop):Prop:=
 match v with
 | .loc i o=>k (.loc i o)
 | .jv i a w j=>k (.jv i a w j)
 | .aI (.ref l)=>k (.aI (.ref l))
 | .aI (.ptr p)=>k (.aI (.ptr p))
 | .fn f a c=>k (.fn f a c)
 | .aI (.func (.func f) b c)=>k (.aI (.func (.func f) b c))
 |_=>False
structure PZ (l:List ab) (st:Bool) (n o:Nat) (Q:ab→Prop):Prop where
 h:(bif st then o+n≤l.length else o<l.length)∧Q (bif st then ab.agg ((l.drop o).take n) else l.getD o .aV)
def qG (L:List bT) (i:hx) (v:a7) (k:a7→Prop):Prop:=
 match v with
 | .aI (.ref l)=>
   match i.k.iz with
   |true=>b1 (Nat.ble i.n l.length) (zL (l.take i.n) (fun l'=>k (.aI (.agg l'))))
   |false=>
    match l with
    |y::_=>oc y (fun po=>xM po k)
    |[]=>False
 | .loc b off=>
   match nth L b with
   |some (.cells l)=>
    match i.k.iz with
    |true=>b1 (Nat.ble (off+i.n) l.length) (sV ((l.drop off).take i.n) (fun l'=>k (.agg l')))
    |false=>
     match nth l off with
     |some v=>xL v k
     |none=>False
   |_=>False
 | .jv b n w j=>
   match nth L b with
   |some (.obj (.cells l))=>PZ l i.k.iz i.n (0+n.toNat*w+j) fun x=>uX x fun bH=>xM bH k
   |_=>False
 |_=>False
def Dd (o:Nat) (v:a7) (k:a7→Prop):Prop:=
 match v with
 | .loc b off=>k (.loc b (off+o))
 | .jv b n w j=>k (.jv b n w (j+o))
 | .aI (.ref l)=>b1 (Nat.ble (o+1) l.length) (gY (l.drop o) (fun l'=>k (.aI (.ref l'))))
 | .aI (.ptr ⟨b,off,none⟩)=>k (.aI (.ptr ⟨b,off+o,none⟩))
 |_=>False
def De (o:Nat) (j:hx) (v:a7) (k:a7→Prop):Prop:=
 match v with
 | .agg l=>
   match j.k.iz with
   |true=>b1 (Nat.ble (o+j.n) l.length) (gY ((l.drop o).take j.n) (fun l'=>k (.agg l')))
   |false=>
    match nth l o with
    |some u=>k u
    |none=>False
 | .aI (.agg l)=>
   match j.k.iz with
   |true=>b1 (Nat.ble (o+j.n) l.length) (gY ((l.drop o).take j.n) (fun l'=>k (.aI (.agg l'))))
   |false=>
    match nth l o with
    |some y=>oc y (fun po=>xM po k)
    |none=>False
 |_=>False
def xU (i:hx) (f:Nat) (k:Nat→Nat→Prop):Prop:=
 match i.k with
 | .st c6=>
   match nth c6 f with
   |some (o,t)=>k o t
   |none=>False
 |_=>False
def jO (i:hx) (k:Nat→Prop):Prop:=
 match i.k with
 | .b9 e=>k e
 |_=>False
def Df (T:h1) (t:Nat) (v:a7) (n:a7) (k:a7→Prop):Prop:=
 match v,n with
 | .aI (.slice _ l), .aI (.int _ n)=>dT T t fun i=>jO i fun e=>dT T e fun j=>Db l n fun x=>C5 x fun cs=>b1 (Nat.beq cs.length j.n) (k (.aI (.ref cs)))
 | .ms b len _, .aI (.int _ n)=>dT T t fun i=>jO i fun e=>dT T e fun j=>(0≤n∧n<len)∧k (.jv b n j.n 0)
 |_,_=>False
def jw.isStr:jw→Bool
 | .str=>true
 |_=>false
def Dg (T:h1) (t:Nat) (v:a7) (n:a7) (k:a7→Prop):Prop:=
 match v,n with
 | .aI (.str l), .aI (.int _ n)=>dT T t fun i=>b1 i.k.isStr ((0≤n∧n<l.length)∧k (.aI (.int .u8 (I l n).toNat)))
 |_,_=>False
def u2 (v:a7) (n:Nat) (k:a7→Prop):Prop:=
 match v with
 | .da l=>
   match nth l n with
   |some u=>b1 (qz u) (rH u k)
   |none=>False
 | .aI (.tuple l)=>
   match nth l n with
   |some y=>uX y (fun po=>xM po k)
   |none=>False
 |_=>False
def zX (fr:ck) (x:Option Operand) (k:Option Int→Prop):Prop:=
 match x with
 |none=>k none
 |some y=>fu fr y fun v=>
  match v with
  | .aI (.int _ n)=>k (some n)
  |_=>False
def Dh (T:h1) (t:Nat) (v:a7) (p:Int) (q:Option Int) (k:a7→Prop):Prop:=
 match v with
 | .aI (.str l)=>dT T t fun i=>b1 i.k.isStr (
   match q with
   |some q=>(0≤p∧p≤q∧q≤l.length)∧k (.aI (.str (sub l p q)))
   |none=>(0≤p∧p≤l.length)∧k (.aI (.str (sub l p l.length))))
 | .aI (.slice _ l)=>dT T t fun i=>jO i fun e=>dT T e fun j=>PY j.n l p q fun l'=>k (.aI (.slice false l'))
 | .ms b n c=>dT T t fun i=>jO i fun e=>dT T e fun j=>(0≤p∧p≤q.getD n∧q.getD n≤n)∧(p<c→k (.b9 b (0+p.toNat*j.n) (q.getD n- p).toNat (c- p.toNat)))∧(c≤p→k (.aI .gb))
 |_=>False
def Di (a b:IntKind) (n:Int) (k:a7→Prop):Prop:=
 match a,b with
 | .i64, .i64=>(-9223372036854775808≤n∧n≤9223372036854775807)∧k (.aI (.int .i64 n))
 | .u8, .i64=>(-9223372036854775808≤n∧n≤9223372036854775807)∧k (.aI (.int .i64 n))
 |_, .u8=>k (.aI (.int .u8 (ji n).toNat))
 |_,b=>k (.aI (.int b (b.wrap n)))
def Dj (T:h1) (s d:Nat) (v:a7) (k:a7→Prop):Prop:=
 match v with
 | .aI (.int dL n)=>dT T s fun _=>dT T d fun j=>
   match j.k with
   | .int qF=>Di dL qF n k
   |_=>False
 | .aI (.str l)=>dT T s fun _=>dT T d fun j=>b1 j.k.isStr (k (.aI (.str l)))
 | .aI (.slice _ l)=>dT T s fun i=>dT T d fun j=>b1 j.k.isStr (jO i fun e=>dT T e fun h=>b1 (match h.k with| .int .u8=>true|_=>false) (H7 l fun x=>k (.aI (.str x))))
 |_=>False
def Dk (T:h1) (t:Nat) (v:a7) (k:a7→Prop):Prop:=
 match v with
 | .aI (.iface u x)=>dT T t fun i=>b1 i.k.s0 (b1 (Nat.beq u t) (oc x fun bH=>k (.da [.aI bH, .b (.lit true)])))
 | .aI (.err u e)=>dT T t fun i=>b1 (match i.k,i.z with| .int .i64,[.i .i64]=>true|_,_=>false) (b1 (Nat.beq u t) (k (.da [.aI (.int .i64 e), .b (.not (.rG e 0))])))
 |_=>False
def zY (T:h1) (t:Nat) (v:a7) (k:a7→Prop):Prop:=
 match v with
 | .aI x=>dT T t fun i=>b1 i.k.s0 (uX x fun bH=>k (.aI (.iface t bH)))
 |_=>False
def jw.Dl:jw→Bool
 | .mp _ _=>true
 |_=>false
def jw.za:jw→Bool
 | .b9 _=>true
 |_=>false
def Dm (T:h1) (L:List bT) (t:Nat) (v:a7) (k:a7→Prop):Prop:=
 match v with
 | .aI (.str l)=>dT T t fun i=>b1 i.k.isStr (k (.aI (.int .i64 l.length)))
 | .aI (.slice _ l)=>dT T t fun i=>b1 i.k.za (H6 l fun n=>k (.aI (.int .i64 n)))
 | .ms _ n _=>dT T t fun i=>b1 i.k.za (n≤9223372036854775807∧k (.aI (.int .i64 n)))
 | .aI .jm=>dT T t fun i=>b1 i.k.Dl (k (.aI (.int .i64 0)))
 | .mp b=>dT T t fun i=>b1 i.k.Dl (
   match nth L b with
   |some (.obj (.map l))=>∃n:Nat,l.length=n∧k (.aI (.int .i64 n))
   |_=>False)
 |_=>False
def Dn (w:Bool) (op:UnOp) (v:a7) (k:a7→Prop):Prop:=
 match op,v with
 | .not, .b (.lit c)=>k (.b (.lit (!c)))
 | .not, .b (.not c)=>k (.b c)
 | .not, .b c=>k (.b (.not c))
 | .neg, .aI (.int dL n)=>u0 w dL (-n) k
 |_,_=>False
def u3 (T:h1) (w:Bool) (fr:ck) (L:List bT) (op:Op) (k:a7→Prop):Prop:=
 match op with
 | .move x=>fu fr x k
 | .assign x=>fu fr x k
 | .load t x=>fu fr x fun v=>dT T t fun i=>qG L i v k
 | .nilCheck x=>fu fr x fun v=>Dc v k
 | .binOp op t x y _=>fu fr x fun a=>fu fr y fun b=>C9 T w op t (u1 x||u1 y) a b k
 | .unOp op _ x=>fu fr x fun a=>Dn w op a k
 | .convert s d x=>fu fr x fun a=>Dj T s d a k
 | .makeInterface t x=>fu fr x fun a=>zY T t a k
 | .fieldAddr s x f=>fu fr x fun a=>dT T s fun i=>xU i f fun o _=>Dd o a k
 | .field s x f=>fu fr x fun a=>dT T s fun i=>xU i f fun o t=>dT T t fun j=>De o j a k
 | .indexAddr t x i=>fu fr x fun a=>fu fr i fun n=>Df T t a n k
 | .index t x i=>fu fr x fun a=>fu fr i fun n=>Dg T t a n k
 | .extract (.tmp x) n=>lk fr x fun a=>u2 a n k
 | .slice t x ba ad none=>fu fr x fun a=>zX fr ba fun p=>zX fr ad fun q=>Dh T t a (p.getD 0) q k
 | .typeAssert x _ t true=>fu fr x fun a=>Dk T t a k
 | .call ⟨.builtin .len,args,di⟩=>
   match args.toList,di.toList with
   |[x],[t]=>fu fr x fun a=>Dm T L t a k
   |_,_=>False
 | .call ⟨.builtin .max,args,_⟩=>
   match args.toList with
   |[x,y]=>fu fr x fun a=>fu fr y fun b=>
    match a,b with
    | .aI (.int dL p), .aI (.int qF q)=>b1 (xR dL qF) (k (.aI (.int dL (if q>p then q else p))))
    |_,_=>False
   |_=>False
 | .call ⟨.builtin .min,args,_⟩=>
   match args.toList with
   |[x,y]=>fu fr x fun a=>fu fr y fun b=>
    match a,b with
    | .aI (.int dL p), .aI (.int qF q)=>b1 (xR dL qF) (k (.aI (.int dL (if q<p then q else p))))
    |_,_=>False
   |_=>False
 |_=>False
section
variable {P:Program} {T:h1} {bs:List Nat} {fr:ck} {L:List bT} {m:ae}
theorem e1 (aP:fO P T=true) {t:Nat} {k:hx→Prop} (h:dT T t k):∃i,gM P t i∧k i:=by
 obtain ⟨i,J,aa⟩:=PX aP h
 exact ⟨i,gM.of J,aa⟩
theorem zZ {op:BinOp} {c:bD} {k:a7→Prop} (h:xS op c k):(op= .eql∧k (.b c))∨(op= .neq∧k (.b (.not c))):=by
 cases op<;>first|exact .inl ⟨rfl,h⟩|exact .inr ⟨rfl,h⟩|exact h.elim
theorem Dp {op:BinOp} {c:Bool} {k:a7→Prop} (h:s3 op c k):(op= .eql∧k (.b (.lit c)))∨(op= .neq∧k (.b (.lit (!c)))):=by
 cases op<;>first|exact .inl ⟨rfl,h⟩|exact .inr ⟨rfl,h⟩|exact h.elim
theorem iX {bs:List Nat} {o:Option (Prop×ab)} {side:Prop} {u:a7} {k:a7→Prop} (al:k u) (aU:o=some (side,den bs u)) (aw:side):∃side z u,o=some (side,z)∧side∧z=den bs u∧k u:=⟨_,_,_,aU,aw,rfl,al⟩
theorem u4 {x y:Operand}:(u1 x||u1 y)=true→((x matches .const _)||(y matches .const _))=true:=by
 intro h
 cases x<;>cases y<;>first|rfl|cases h
set_option maxHeartbeats 2000000 in
theorem P0 (aP:fO P T=true) {w:Bool} {op:BinOp} {t:Nat} {x y:Operand} {a b:a7} {k:a7→Prop} (h:C9 T w op t (u1 x||u1 y) a b k):
 ∃side z u,ng P op t x y (den bs a) (den bs b)=some (side,z)∧side∧z=den bs u∧k u:=by
 unfold C9 at h
 split at h
 ·
  rename_i dL a qF b
  split at h
  · cases op<;>simp only [H3,H4] at*<;>first|exact h.elim|(cases ‹false=true›;done)|skip
    · exact iX h.2 rfl h.1
    · exact iX h.2 rfl h.1
  · obtain ⟨e,aa⟩:=ec.1 h
    obtain rfl:=zV e
    clear h e
    cases op<;>simp only [H2] at aa<;>first|exact aa.elim|skip
    · exact iX (zU aa) (by simp only [ng,oK,den,ab.plain,if_true,bD.val]) True.intro
    · exact iX (zU aa) (by simp only [ng,oK,den,ab.plain,if_true,bD.val]) True.intro
    · exact iX (zU aa) (by simp only [ng,oK,den,ab.plain,if_true,bD.val]) True.intro
    · exact iX aa.2 (by simp only [ng,oK,den,ab.plain,if_true,bD.val]) aa.1
    · exact iX aa.2 (by simp only [ng,oK,den,ab.plain,if_true,bD.val]) aa.1
    all_goals exact iX aa (by simp only [ng,oK,den,ab.plain,if_true,bD.val]) True.intro
 · cases op<;>simp only [H5] at h<;>first|exact h.elim|skip
   · exact iX h.2 (by simp only [ng,oK,den,ab.plain,if_true,bD.val]) h.1
   all_goals exact iX h (by simp only [ng,oK,den,ab.plain,if_true,bD.val]) True.intro
 · obtain ⟨i,ds,h⟩:=e1 aP h
   obtain ⟨e,h⟩:=ec.1 h
   have al:i.k= .bool:=by cases ad:i.k<;>rw [ad] at e<;>first|rfl|cases e
   rcases zZ h with ⟨rfl,h⟩|⟨rfl,h⟩
   · exact iX h rfl (ds.bool al)
   · exact iX h rfl (ds.bool al)
 all_goals try exact h.elim
 all_goals
  obtain ⟨i,ds,h⟩:=e1 aP h
  obtain ⟨e,h⟩:=ec.1 h
 · have al:i.k= .ln:=by cases ad:i.k<;>rw [ad] at e<;>first|rfl|cases e
   obtain ⟨ms,hu⟩:=ds.ln al
   obtain ⟨az,h⟩:=ec.1 h
   rcases Dp h with ⟨rfl,h⟩|⟨rfl,h⟩
   · exact iX h rfl ⟨by rw [hu],u4 az⟩
   · exact iX h rfl ⟨by rw [hu],u4 az⟩
 · have al:i.k= .ln:=by cases ad:i.k<;>rw [ad] at e<;>first|rfl|cases e
   obtain ⟨ms,hu⟩:=ds.ln al
   obtain ⟨az,h⟩:=ec.1 h
   rcases zZ h with ⟨rfl,h⟩|⟨rfl,h⟩
   · exact iX h rfl ⟨by rw [hu],u4 az⟩
   · exact iX h rfl ⟨by rw [hu],u4 az⟩
 · have al:i.k= .ln:=by cases ad:i.k<;>rw [ad] at e<;>first|rfl|cases e
   obtain ⟨ms,hu⟩:=ds.ln al
   obtain ⟨az,h⟩:=ec.1 h
   rcases zZ h with ⟨rfl,h⟩|⟨rfl,h⟩
   · exact iX h rfl ⟨by rw [hu],u4 az⟩
   · exact ⟨_,_,_,(rfl:ng P .neq t x y (den bs (.aI (.opt _))) (den bs (.aI .nilIface))=some (_, .bool _)),⟨by rw [hu],u4 az⟩,by simp only [den,bD.val,Bool.not_not],h⟩
 · have al:i.k= .ln:=by cases ad:i.k<;>rw [ad] at e<;>first|rfl|cases e
   obtain ⟨ms,hu⟩:=ds.ln al
   rcases Dp h with ⟨rfl,h⟩|⟨rfl,h⟩
   · exact iX h rfl (by rw [hu])
   · exact iX h rfl (by rw [hu])
 · have al:i.k= .ln:=by cases ad:i.k<;>rw [ad] at e<;>first|rfl|cases e
   obtain ⟨ms,hu⟩:=ds.ln al
   obtain ⟨j,gw,h⟩:=e1 aP h
   obtain ⟨az,h⟩:=ec.1 h
   obtain ⟨cS,h⟩:=ec.1 h
   obtain ⟨eO,aR⟩:=ec.1 h
   have aD:j.k= .int .i64:=by
    split at az
    · assumption
    · cases az
   obtain rfl:=Nat.eq_of_beq_eq_true cS
   obtain rfl:=zV eO
   rcases zZ aR.2 with ⟨rfl,cN⟩|⟨rfl,cN⟩
   · exact iX cN rfl ⟨by rw [hu],rfl,gw.int aD,gw.cmp _ aD,rfl,aR.1⟩
   · exact iX cN rfl ⟨by rw [hu],rfl,gw.int aD,gw.cmp _ aD,rfl,aR.1⟩
 all_goals
  have al:i.k= .ptr:=by cases ad:i.k<;>rw [ad] at e<;>first|rfl|cases e
  obtain ⟨ms,hu⟩:=ds.ptr al
  rcases Dp h with ⟨rfl,h⟩|⟨rfl,h⟩
  · exact iX h rfl (by rw [hu])
  · exact iX h rfl (by rw [hu])
end
end Go.cz
end
section
namespace Go.cz
open Go Go.bg
section
variable {P:Program} {T:h1} {bs:List Nat} {fr:ck} {L:List bT} {m:ae} {k:a7→Prop}
def ei (o:Option (Prop×ab)) (bs:List Nat) (k:a7→Prop):Prop:=∃side z u,o=some (side,z)∧side∧z=den bs u∧k u
theorem ei.mk {o:Option (Prop×ab)} {side:Prop} {z:ab} {u:a7} (al:k u) (aU:o=some (side,z)) (aw:side) (ak:z=den bs u):ei o bs k:=⟨_,_,_,aU,aw,ak,al⟩
theorem Dq (l:List a7) (n:Nat):bE bs (l.drop n)=(bE bs l).drop n:=by rw [mx,mx,List.map_drop]
theorem Dr (l:List a7) (n:Nat):bE bs (l.take n)=(bE bs l).take n:=by rw [mx,mx,List.map_take]
theorem s4 {l:List a7} {n:Nat} {v:a7} (h:nth l n=some v):(bE bs l).getD n .aV=den bs v∧n<(bE bs l).length:=by
 rw [jN] at h
 have cl:n<l.length:=by
  rcases Nat.lt_or_ge n l.length with cN|cN
  · exact cN
  · rw [List.getElem?_eq_none cN] at h;cases h
 rw [mx]
 exact ⟨by rw [List.getD_eq_getElem?_getD,List.getElem?_map,h];rfl,by simpa using cl⟩
theorem H8 {l:List ab} {n:Nat} {v:ab} (h:nth l n=some v):l.getD n .aV=v∧n<l.length:=by
 rw [jN] at h
 have cl:n<l.length:=by
  rcases Nat.lt_or_ge n l.length with cN|cN
  · exact cN
  · rw [List.getElem?_eq_none cN] at h;cases h
 exact ⟨by rw [List.getD_eq_getElem?_getD,h];rfl,cl⟩
theorem P1 (l:List ab) (n:Nat):ab.fD (l.take n)=(ab.fD l).take n:=by rw [ab.iG,ab.iG,List.map_take]
theorem P2 (l:List ab) (n:Nat):ab.fD (l.drop n)=(ab.fD l).drop n:=by rw [ab.iG,ab.iG,List.map_drop]
theorem xV (l:List ab):(ab.fD l).length=l.length:=by rw [ab.iG,List.length_map]
theorem u5 {t:Nat} {i:hx} (ds:gM P t i) (h:i.k.iz=true) (l:List ab) (off:Nat):apart P t l off= .agg ((l.drop off).take i.n):=by
 rw [apart,ds.xQ,h,ds.cells];rfl
theorem u6 {t:Nat} {i:hx} (ds:gM P t i) (h:i.k.iz=false) (l:List ab) (off:Nat):apart P t l off=l.getD off .aV:=by
 rw [apart,ds.xQ,h];rfl
theorem u7 {t:Nat} {i:hx} (ds:gM P t i) (h:i.k.iz=true) {l:List ab} {off:Nat} (av:off+i.n≤l.length):jY P t l off:=
 O8 ds.is (ds.xQ.trans h) (by rw [ds.cells];exact av)
theorem u9 {t:Nat} {i:hx} (ds:gM P t i) (h:i.k.iz=false) {l:List ab} {off:Nat} (av:off<l.length):jY P t l off:=
 Hv ds.is (ds.xQ.trans h) av
theorem H9 {t:Nat} {i:hx} (ds:gM P t i) (g:Good bs L m) {v:a7} (h:qG L i v k) {a:Operand→ab} {x:Operand} (e:den bs v=a x):ei (bS P (b7 bs L m) a (.load t x)) bs k:=by
 unfold qG at h
 split at h
 · rename_i l
   have aF:a x= .ref l:=by rw [←e];simp only [den,ab.plain]
   have aU:bS P (b7 bs L m) a (.load t x)=some (jY P t l 0,apart P t l 0):=by simp only [bS,aF]
   cases b4:i.k.iz with
   |true=>
    rw [b4] at h
    obtain ⟨ah,h⟩:=ec.1 h
    obtain ⟨aQ,h⟩:=C4 h
    exact ei.mk h aU (u7 ds b4 (by have:=Nat.le_of_ble_eq_true ah;omega)) (by rw [u5 ds b4];simp only [den,ab.plain,aQ,List.drop_zero])
   |false=>
    rw [b4] at h
    cases l with
    |nil=>exact h.elim
    |cons y r=>
     obtain ⟨aQ,h⟩:=pL h
     rw [zN] at h
     exact ei.mk h aU (u9 ds b4 (by simp)) (by rw [u6 ds b4,qB,aQ];simp only [List.getD_cons_zero])
 · rename_i b off
   split at h
   · rename_i l aL
     rw [jN] at aL
     have aF:a x= .ptr ⟨bs.getD b 0,off,none⟩:=by rw [←e];simp only [den]
     have hm:=oY g aL
     have aU:bS P (b7 bs L m) a (.load t x)=some (jY P t (bE bs l) off,(apart P t (bE bs l) off).plain):=by simp only [bS,aF,hm,gz]
     cases b4:i.k.iz with
     |true=>
      rw [b4] at h
      obtain ⟨ah,h⟩:=ec.1 h
      obtain ⟨u,h,hu⟩:=uV bs h
      exact ei.mk h aU (u7 ds b4 (by rw [lO];exact Nat.le_of_ble_eq_true ah)) (by rw [u5 ds b4];simp only [den,ab.plain,hu,Dr,Dq])
     |false=>
      rw [b4] at h
      simp only at h
      split at h
      · rename_i v bw
        obtain ⟨u,h,hu⟩:=ob bs h
        obtain ⟨az,cl⟩:=s4 (bs:=bs) bw
        exact ei.mk h aU (u9 ds b4 cl) (by rw [u6 ds b4,az,hu])
      · exact h.elim
   · exact h.elim
 · rename_i b n w j
   split at h
   · rename_i l aL
     rw [jN] at aL
     have aF:a x= .ptr ⟨bs.getD b 0,0+n.toNat*w+j,none⟩:=by rw [←e];simp only [den]
     have hm:=oY g aL
     have aU:bS P (b7 bs L m) a (.load t x)=some (jY P t l (0+n.toNat*w+j),(apart P t l (0+n.toNat*w+j)).plain):=by simp only [bS,aF,hm,gz]
     obtain ⟨J,h⟩:=h
     obtain ⟨aQ,h⟩:=zM h
     rw [zN] at h
     cases b4:i.k.iz with
     |true=>
      rw [b4] at J h aQ
      exact ei.mk h aU (u7 ds b4 J) (by rw [u5 ds b4,qB];rfl)
     |false=>
      rw [b4] at J h aQ
      exact ei.mk h aU (u9 ds b4 J) (by rw [u6 ds b4,qB];rfl)
   · exact h.elim
 · exact h.elim
theorem P3 {v:a7} (h:Dc v k) {a:Operand→ab} {x:Operand} (e:den bs v=a x):ei (bS P (b7 bs L m) a (.nilCheck x)) bs k:=by
 unfold Dc at h
 split at h
 all_goals first|exact h.elim|exact ei.mk h (by simp only [bS,←e,den,ab.plain]<;>rfl) trivial (by simp only [den,ab.plain])
theorem P4 {w:Bool} {op:UnOp} {t:Nat} {v:a7} (h:Dn w op v k) {a:Operand→ab} {x:Operand} (e:den bs v=a x):ei (bS P (b7 bs L m) a (.unOp op t x)) bs k:=by
 unfold Dn at h
 split at h
 · exact ei.mk h (by simp only [bS,←e,den,bD.val]<;>rfl) trivial (by simp only [den,bD.val])
 · exact ei.mk h (by simp only [bS,←e,den,bD.val]<;>rfl) trivial (by simp only [den,bD.val,Bool.not_not])
 · exact ei.mk h (by simp only [bS,←e,den,bD.val]<;>rfl) trivial (by simp only [den,bD.val])
 · exact ei.mk (zU h) (by simp only [bS,←e,den,ab.plain]<;>rfl) trivial (by simp only [den,ab.plain,Int.zero_sub])
 · exact h.elim
theorem P5 (n:Int):(ji n).toNat=IntKind.u8.wrap n:=zF n
theorem P6 {a b:IntKind} {n:Int} (h:Di a b n k):∃z,k (.aI (.int b z))∧z=b.wrap n:=by
 unfold Di at h
 split at h
 · exact ⟨_,h.2,(wrap64 _ h.1.1 h.1.2).symm⟩
 · exact ⟨_,h.2,(wrap64 _ h.1.1 h.1.2).symm⟩
 · exact ⟨_,h,P5 n⟩
 · exact ⟨_,h,rfl⟩
theorem P7 (aP:fO P T=true) {s d:Nat} {v:a7} (h:Dj T s d v k) {a:Operand→ab} {x:Operand} (e:den bs v=a x):ei (bS P (b7 bs L m) a (.convert s d x)) bs k:=by
 unfold Dj at h
 split at h
 · obtain ⟨i,di,h⟩:=e1 aP h
   obtain ⟨j,xW,h⟩:=e1 aP h
   split at h
   · rename_i qF al
     obtain ⟨z,h,ak⟩:=P6 h
     exact ei.mk h (by simp only [bS,xW.int al,←e,den,ab.plain];rfl) di.is (by simp only [den,ab.plain,ak])
   · exact h.elim
 · obtain ⟨i,di,h⟩:=e1 aP h
   obtain ⟨j,xW,h⟩:=e1 aP h
   obtain ⟨al,h⟩:=ec.1 h
   have fm:j.k= .str:=by cases aD:j.k<;>rw [aD] at al<;>first|rfl|cases al
   exact ei.mk h (by simp only [bS,xW.str fm,←e,den,ab.plain];rfl) di.is (by simp only [den,ab.plain])
 · obtain ⟨i,di,h⟩:=e1 aP h
   obtain ⟨j,xW,h⟩:=e1 aP h
   obtain ⟨al,h⟩:=ec.1 h
   have fm:j.k= .str:=by cases aD:j.k<;>rw [aD] at al<;>first|rfl|cases al
   unfold jO at h
   split at h
   · rename_i gV fN
     obtain ⟨q,z1,h⟩:=e1 aP h
     obtain ⟨aU,h⟩:=ec.1 h
     have kN:q.k= .int .u8:=by
      split at aU
      · assumption
      · cases aU
     refine ei.mk h.2 (by simp only [bS,xW.str fm,←e,den,ab.plain];rfl) ?_ ?_
     · exact ⟨gV,(di.b9 fN).1,z1.int kN,h.1⟩
     · simp only [den,ab.plain]
   · exact h.elim
 · exact h.elim
theorem Ia (aP:fO P T=true) {t:Nat} {v:a7} (h:zY T t v k) {a:Operand→ab} {x:Operand} (e:den bs v=a x):ei (bS P (b7 bs L m) a (.makeInterface t x)) bs k:=by
 unfold zY at h
 split at h
 · rename_i y
   obtain ⟨i,ds,h⟩:=e1 aP h
   obtain ⟨al,h⟩:=ec.1 h
   obtain ⟨aQ,h⟩:=zM h
   obtain ⟨d,aY,xX⟩:=ds.s0 al
   refine ei.mk (side:=True) (z:= .iface t (a x)) h ?_ trivial (by rw [←e];simp only [den,ab.plain,aQ])
   cases d<;>first|exact absurd rfl (xX _)|simp only [bS,aY]
 · exact h.elim
theorem Ds {t:Nat} {i:hx} (ds:gM P t i) {f:Nat} {k:Nat→Nat→Prop} (h:xU i f k):∃eG fd,P.underlying t=some (.struct eG)∧eG[f]?=some fd∧eV P fd.type=true∧P.cellsOf fd.type≠0∧k fd.offset fd.type:=by
 unfold xU at h
 split at h
 · rename_i c6 al
   obtain ⟨eG,J,aa,aj⟩:=ds.st al
   split at h
   · rename_i o ty aM
     rw [jN,←aa,List.getElem?_map] at aM
     cases aZ:eG.toList[f]? with
     |none=>rw [aZ] at aM;cases aM
     |some fd=>
      rw [aZ] at aM
      simp only [Option.map_some,Option.some.injEq,Prod.mk.injEq] at aM
      obtain ⟨rfl,rfl⟩:=aM
      have hm:fd∈eG.toList:=List.mem_of_getElem? aZ
      exact ⟨eG,fd,J,by simpa using aZ,(aj _ hm).1,(aj _ hm).2,h⟩
   · exact h.elim
 · exact h.elim
theorem P8 {t f:Nat} {eG:Array Field} {fd:Field} (hu:P.underlying t=some (.struct eG)) (aZ:eG[f]?=some fd) (J:eV P fd.type=true) (aa:P.cellsOf fd.type≠0) {v:a7} (h:Dd fd.offset v k)
 {a:Operand→ab} {x:Operand} (e:den bs v=a x):ei (bS P (b7 bs L m) a (.fieldAddr t x f)) bs k:=by
 unfold Dd at h
 split at h
 · refine ei.mk h (by simp only [bS,hu,aZ,←e,den]<;>rfl) ?_ ?_
   · exact ⟨J,aa⟩
   · simp only [den]
 · refine ei.mk h (by simp only [bS,hu,aZ,←e,den]<;>rfl) ?_ ?_
   · exact ⟨J,aa⟩
   · simp only [den,Nat.add_assoc]
 · obtain ⟨ah,h⟩:=ec.1 h
   rw [hR] at h
   refine ei.mk h (by simp only [bS,hu,aZ,←e,den,ab.plain]<;>rfl) ?_ ?_
   · exact ⟨J,aa,Nat.le_of_ble_eq_true ah⟩
   · simp only [den,ab.plain]
 · refine ei.mk h (by simp only [bS,hu,aZ,←e,den,ab.plain]<;>rfl) ?_ ?_
   · exact ⟨J,aa⟩
   · simp only [den,ab.plain]
 · exact h.elim
theorem P9 {t f:Nat} {eG:Array Field} {fd:Field} (hu:P.underlying t=some (.struct eG)) (aZ:eG[f]?=some fd) {j:hx} (ds:gM P fd.type j) {v:a7} (h:De fd.offset j v k)
 {a:Operand→ab} {x:Operand} (e:den bs v=a x):ei (bS P (b7 bs L m) a (.field t x f)) bs k:=by
 unfold De at h
 split at h
 · rename_i l
   have aU:bS P (b7 bs L m) a (.field t x f)=some (jY P fd.type (bE bs l) fd.offset,apart P fd.type (bE bs l) fd.offset):=by simp only [bS,hu,aZ,←e,den]
   cases b4:j.k.iz with
   |true=>
    rw [b4] at h
    obtain ⟨ah,h⟩:=ec.1 h
    rw [hR] at h
    exact ei.mk h aU (u7 ds b4 (by rw [lO];exact Nat.le_of_ble_eq_true ah)) (by rw [u5 ds b4];simp only [den,Dr,Dq])
   |false=>
    rw [b4] at h
    simp only at h
    split at h
    · rename_i u Cv
      obtain ⟨az,cl⟩:=s4 (bs:=bs) Cv
      exact ei.mk h aU (u9 ds b4 cl) (by rw [u6 ds b4,az])
    · exact h.elim
 · rename_i l
   have aU:bS P (b7 bs L m) a (.field t x f)=some (jY P fd.type (ab.fD l) fd.offset,apart P fd.type (ab.fD l) fd.offset):=by simp only [bS,hu,aZ,←e,den,ab.plain]
   cases b4:j.k.iz with
   |true=>
    rw [b4] at h
    obtain ⟨ah,h⟩:=ec.1 h
    rw [hR] at h
    exact ei.mk h aU (u7 ds b4 (by rw [xV];exact Nat.le_of_ble_eq_true ah)) (by rw [u5 ds b4];simp only [den,ab.plain,P1,P2])
   |false=>
    rw [b4] at h
    simp only at h
    split at h
    · rename_i y aK
      obtain ⟨aQ,h⟩:=pL h
      rw [zN] at h
      obtain ⟨az,cl⟩:=H8 aK
      exact ei.mk h aU (u9 ds b4 (by rw [xV];exact cl)) (by rw [u6 ds b4,nV,az,qB])
    · exact h.elim
 · exact h.elim
theorem Qa (aP:fO P T=true) {t:Nat} {v n:a7} (h:Df T t v n k) {a:Operand→ab} {x y:Operand} (e:den bs v=a x) (az:den bs n=a y):ei (bS P (b7 bs L m) a (.indexAddr t x y)) bs k:=by
 unfold Df at h
 split at h
 · rename_i o l dL bB
   obtain ⟨i,e8,h⟩:=e1 aP h
   unfold jO at h
   split at h
   · rename_i gV fN
     obtain ⟨j,gw,h⟩:=e1 aP h
     obtain ⟨ad,h⟩:=h
     have h:=PU h
     obtain ⟨ah,h⟩:=ec.1 h
     obtain ⟨J,aa,aj,aG⟩:=e8.b9 fN
     refine ei.mk h (by simp only [bS,J,←e,←az,den,ab.plain];rfl) ?_ ?_
     · exact ⟨aa,by omega,ad.1,ad.2,by rw [gw.cells];exact Nat.eq_of_beq_eq_true ah⟩
     · simp only [den,ab.plain]
   · exact h.elim
 · rename_i b len cap dL bB
   obtain ⟨i,e8,h⟩:=e1 aP h
   unfold jO at h
   split at h
   · rename_i gV fN
     obtain ⟨j,gw,h⟩:=e1 aP h
     obtain ⟨J,aa,aj,aG⟩:=e8.b9 fN
     refine ei.mk h.2 (by simp only [bS,J,←e,←az,den,ab.plain];rfl) ?_ ?_
     · exact ⟨aa,h.1⟩
     · simp only [den,gw.cells,Nat.add_zero]
   · exact h.elim
 · exact h.elim
theorem Qb (aP:fO P T=true) {t:Nat} {v n:a7} (h:Dg T t v n k) {a:Operand→ab} {x y:Operand} (e:den bs v=a x) (az:den bs n=a y):ei (bS P (b7 bs L m) a (.index t x y)) bs k:=by
 unfold Dg at h
 split at h
 · obtain ⟨i,e8,h⟩:=e1 aP h
   obtain ⟨al,h⟩:=ec.1 h
   have fm:i.k= .str:=by cases aD:i.k<;>rw [aD] at al<;>first|rfl|cases al
   exact ei.mk h.2 (by simp only [bS,e8.str fm,←e,←az,den,ab.plain];rfl) h.1 (by simp only [den,ab.plain,I];rfl)
 · exact h.elim
theorem Ib {n:Nat} {v:a7} (h:u2 v n k) {a:Operand→ab} {x:Operand} (e:(den bs v).plain=a x):ei (bS P (b7 bs L m) a (.extract x n)) bs k:=by
 unfold u2 at h
 split at h
 · rename_i l
   split at h
   · rename_i u hu
     obtain ⟨aM,h⟩:=ec.1 h
     obtain ⟨w,h,hw⟩:=uW bs aM h
     obtain ⟨az,cl⟩:=s4 (bs:=bs) hu
     exact ei.mk h (by simp only [bS,←e,den,ab.plain];rfl) (by rw [xV];exact cl) (by rw [nV,az,hw])
   · exact h.elim
 · rename_i l
   split at h
   · rename_i y aK
     obtain ⟨aQ,h⟩:=zM h
     rw [zN] at h
     obtain ⟨az,cl⟩:=H8 aK
     exact ei.mk h (by simp only [bS,←e,den,ab.plain];rfl) (by rw [xV,xV];exact cl) (by rw [nV,nV,az,xK,qB])
   · exact h.elim
 · exact h.elim
theorem Ic {ba:Option Operand} {k:Option Int→Prop} (h:zX fr ba k):∃p,k p∧∀d:Nat,k7 (ba.map (cA (br (bt bs fr)))) d=some (p.getD d):=by
 unfold zX at h
 split at h
 · exact ⟨_,h,fun d=>rfl⟩
 · obtain ⟨v,h,e⟩:=fF bs h
   split at h
   · exact ⟨_,h,fun d=>by simp only [Option.map_some,←e,den,ab.plain,k7,Option.getD_some]⟩
   · exact h.elim
theorem Qc (aP:fO P T=true) {t:Nat} {v:a7} {p q:Option Int} (h:Dh T t v (p.getD 0) q k) {a:Operand→ab} {x:Operand} {ba ad:Option Operand} (e:den bs v=a x)
 (aQ:∀d:Nat,k7 (ba.map a) d=some (p.getD d)) (aU:∀d:Nat,k7 (ad.map a) d=some (q.getD d)):ei (bS P (b7 bs L m) a (.slice t x ba ad none)) bs k:=by
 have uJ:k7 (ba.map a) 0=some (p.getD 0):=aQ 0
 unfold Dh at h
 split at h
 · rename_i l
   obtain ⟨i,e8,h⟩:=e1 aP h
   obtain ⟨al,h⟩:=ec.1 h
   have fm:i.k= .str:=by cases aD:i.k<;>rw [aD] at al<;>first|rfl|cases al
   have qH:=aU l.length
   cases q with
   |some q=>
    refine ei.mk (side:=0≤p.getD 0∧p.getD 0≤q∧q≤l.length) (z:= .str ((l.drop (p.getD 0).toNat).take (q- p.getD 0).toNat)) h.2 ?_ h.1 (by simp only [den,ab.plain,sub])
    simp only [Option.getD_some] at qH
    simp only [bS,e8.str fm,←e,den,ab.plain,uJ,qH]
   |none=>
    refine ei.mk (side:=0≤p.getD 0∧p.getD 0≤(l.length:Int)∧(l.length:Int)≤l.length) (z:= .str ((l.drop (p.getD 0).toNat).take ((l.length:Int)- p.getD 0).toNat)) h.2 ?_ ⟨h.1.1,h.1.2,Int.le_refl _⟩ (by simp only [den,ab.plain,sub])
    simp only [Option.getD_none] at qH
    simp only [bS,e8.str fm,←e,den,ab.plain,uJ,qH]
 · rename_i o l
   obtain ⟨i,e8,h⟩:=e1 aP h
   unfold jO at h
   split at h
   · rename_i gV fN
     obtain ⟨j,gw,h⟩:=e1 aP h
     obtain ⟨cj,kN,J,h⟩:=h
     obtain ⟨jg,iW,oe,qI⟩:=e8.b9 fN
     have qH:=aU l.length
     rw [kN] at qH
     refine ei.mk h (by simp only [bS,jg,←e,den,ab.plain,uJ,qH]<;>rfl) ?_ ?_
     · exact ⟨iW,J.1,J.2.1,J.2.2.1,by rw [gw.cells];exact J.2.2.2⟩
     · simp only [den,ab.plain]
   · exact h.elim
 · rename_i b n c
   obtain ⟨i,e8,h⟩:=e1 aP h
   unfold jO at h
   split at h
   · rename_i gV fN
     obtain ⟨j,gw,h⟩:=e1 aP h
     obtain ⟨⟨cq,bl,gx⟩,J,aa⟩:=h
     obtain ⟨jg,iW,oe,qI⟩:=e8.b9 fN
     have qH:=aU n
     have bw:bS P (b7 bs L m) a (.slice t x ba ad none)=some (eV P gV=true∧0≤p.getD 0∧p.getD 0≤q.getD n∧q.getD n≤n,if p.getD 0<c then .ms ⟨bs.getD b 0,0+(p.getD 0).toNat*P.cellsOf gV,none⟩ (q.getD n- p.getD 0).toNat (c- (p.getD 0).toNat) else .gb):=by
      simp only [bS,jg,←e,den,ab.plain,uJ,qH]
     by_cases ao:p.getD 0<c
     · exact ei.mk (J ao) bw ⟨iW,cq,bl,gx⟩ (by rw [if_pos ao,gw.cells];simp only [den])
     · rw [if_neg ao] at bw
       exact ei.mk (aa (by omega)) bw ⟨iW,cq,bl,gx⟩ (by simp only [den,ab.plain])
   · exact h.elim
 · exact h.elim
theorem Qd (aP:fO P T=true) {t s:Nat} {v:a7} (h:Dk T t v k) {a:Operand→ab} {x:Operand} (e:den bs v=a x):ei (bS P (b7 bs L m) a (.typeAssert x s t true)) bs k:=by
 unfold Dk at h
 split at h
 · obtain ⟨i,e8,h⟩:=e1 aP h
   obtain ⟨al,h⟩:=ec.1 h
   obtain ⟨ah,aa⟩:=ec.1 h
   obtain ⟨aQ,aj⟩:=pL aa
   obtain ⟨d,aY,xX⟩:=e8.s0 al
   obtain rfl:=Nat.eq_of_beq_eq_true ah
   refine ei.mk (side:=True) aj ?_ trivial rfl
   simp only [bS,aY,←e,den,bE,ab.plain,bD.val,aQ]
   cases d<;>first|(simp only [if_true];done)|exact absurd rfl (xX _)
 · obtain ⟨i,e8,h⟩:=e1 aP h
   obtain ⟨al,h⟩:=ec.1 h
   obtain ⟨ah,aa⟩:=ec.1 h
   obtain rfl:=Nat.eq_of_beq_eq_true ah
   have py:i.k= .int .i64∧i.z=[.i .i64]:=by
    split at al
    · exact ⟨by assumption,by assumption⟩
    · cases al
   obtain ⟨v,ak,_,n3,_⟩:=e8.zero (by rw [py.2];simp)
   have bw:v= .int .i64 0:=by
    rw [py.1,py.2] at n3
    cases v<;>simp [uZ,qE,sY,jw.iz] at n3
    rw [n3.1,n3.2]
   refine ei.mk (side:=(P.info? _).bind (·.zero)=some (.int .i64 0)) aa ?_ (by rw [ak,bw]) rfl
   simp only [bS,e8.int py.1,←e,den,bE,ab.plain,bD.val,if_true]
 · exact h.elim
theorem Qe (aP:fO P T=true) (g:Good bs L m) {t:Nat} {v:a7} (h:Dm T L t v k) {a:Operand→ab} {x:Operand} (e:den bs v=a x) {args:Array Operand} {di:Array TypeId} (aT:args.toList=[x]) (aq:di.toList=[t]):
 ei (bS P (b7 bs L m) a (.call ⟨.builtin .len,args,di⟩)) bs k:=by
 have o0:args[0]?=some x:=by rw [←Array.getElem?_toList,aT];rfl
 have xY:di[0]?=some t:=by rw [←Array.getElem?_toList,aq];rfl
 unfold Dm at h
 split at h
 · obtain ⟨i,e8,h⟩:=e1 aP h
   obtain ⟨al,h⟩:=ec.1 h
   have fm:i.k= .str:=by cases aD:i.k<;>rw [aD] at al<;>first|rfl|cases al
   exact ei.mk h (by simp only [bS,o0,xY,e8.str fm,←e,den,ab.plain];rfl) trivial (by simp only [den,ab.plain])
 · obtain ⟨i,e8,h⟩:=e1 aP h
   obtain ⟨al,h⟩:=ec.1 h
   obtain ⟨gV,fm⟩:∃gV,i.k= .b9 gV:=by cases aD:i.k<;>rw [aD] at al<;>first|exact ⟨_,rfl⟩|cases al
   exact ei.mk h.q (by simp only [bS,o0,xY,(e8.b9 fm).1,←e,den,ab.plain];rfl) trivial (by simp only [den,ab.plain])
 · obtain ⟨i,e8,h⟩:=e1 aP h
   obtain ⟨al,h⟩:=ec.1 h
   obtain ⟨gV,fm⟩:∃gV,i.k= .b9 gV:=by cases aD:i.k<;>rw [aD] at al<;>first|exact ⟨_,rfl⟩|cases al
   exact ei.mk h.2 (by simp only [bS,o0,xY,(e8.b9 fm).1,←e,den];rfl) h.1 (by simp only [den,ab.plain])
 · obtain ⟨i,e8,h⟩:=e1 aP h
   obtain ⟨al,h⟩:=ec.1 h
   obtain ⟨ke,gV,fm⟩:∃ke gV,i.k= .mp ke gV:=by cases aD:i.k<;>rw [aD] at al<;>first|exact ⟨_,_,rfl⟩|cases al
   exact ei.mk h (by simp only [bS,o0,xY,e8.mp fm,←e,den,ab.plain];rfl) trivial (by simp only [den,ab.plain])
 · obtain ⟨i,e8,h⟩:=e1 aP h
   obtain ⟨al,h⟩:=ec.1 h
   obtain ⟨ke,gV,fm⟩:∃ke gV,i.k= .mp ke gV:=by cases aD:i.k<;>rw [aD] at al<;>first|exact ⟨_,_,rfl⟩|cases al
   split at h
   · rename_i b _ l av
     rw [jN] at av
     obtain ⟨n,aM,h⟩:=h
     have hm:=oY g av
     exact ei.mk h (by simp only [bS,o0,xY,e8.mp fm,←e,den,hm,gz];rfl) trivial (by simp only [den,ab.plain,aM])
   · exact h.elim
 · exact h.elim
set_option maxHeartbeats 2000000 in
theorem Ie (aP:fO P T=true) (g:Good bs L m) {w:Bool} {op:Op} (h:u3 T w fr L op k):ei (bS P (b7 bs L m) (cA (br (bt bs fr))) op) bs k:=by
 unfold u3 at h
 split at h
 · obtain ⟨v,h,e⟩:=fF bs h
   exact ei.mk h (by simp only [bS]) trivial e.symm
 · obtain ⟨v,h,e⟩:=fF bs h
   exact ei.mk h (by simp only [bS]) trivial e.symm
 · obtain ⟨v,h,e⟩:=fF bs h
   obtain ⟨i,ds,h⟩:=e1 aP h
   exact H9 ds g h e
 · obtain ⟨v,h,e⟩:=fF bs h
   exact P3 h e
 · obtain ⟨v,h,e⟩:=fF bs h
   obtain ⟨u,h,az⟩:=fF bs h
   have:=P0 (bs:=bs) aP h
   rw [e,az] at this
   simpa only [ei,bS] using this
 · obtain ⟨v,h,e⟩:=fF bs h
   exact P4 h e
 · obtain ⟨v,h,e⟩:=fF bs h
   exact P7 aP h e
 · obtain ⟨v,h,e⟩:=fF bs h
   exact Ia aP h e
 · obtain ⟨v,h,e⟩:=fF bs h
   obtain ⟨i,ds,h⟩:=e1 aP h
   obtain ⟨eG,fd,J,aa,aj,aG,h⟩:=Ds ds h
   exact P8 J aa aj aG h e
 · obtain ⟨v,h,e⟩:=fF bs h
   obtain ⟨i,ds,h⟩:=e1 aP h
   obtain ⟨eG,fd,J,aa,aj,aG,h⟩:=Ds ds h
   obtain ⟨j,gw,h⟩:=e1 aP h
   exact P9 J aa gw h e
 · obtain ⟨v,h,e⟩:=fF bs h
   obtain ⟨u,h,az⟩:=fF bs h
   exact Qa aP h e az
 · obtain ⟨v,h,e⟩:=fF bs h
   obtain ⟨u,h,az⟩:=fF bs h
   exact Qb aP h e az
 · rw [my] at h
   exact Ib h (by rw [cA,ll])
 · obtain ⟨v,h,e⟩:=fF bs h
   obtain ⟨p,h,aQ⟩:=Ic (bs:=bs) h
   obtain ⟨q,h,aU⟩:=Ic (bs:=bs) h
   exact Qc aP h e aQ aU
 · obtain ⟨v,h,e⟩:=fF bs h
   exact Qd aP h e
 · split at h
   · rename_i aT aq
     obtain ⟨v,h,e⟩:=fF bs h
     exact Qe aP g h e aT aq
   · exact h.elim
 · split at h
   · rename_i aT
     obtain ⟨v,h,e⟩:=fF bs h
     obtain ⟨u,h,az⟩:=fF bs h
     split at h
     · obtain ⟨ah,aa⟩:=ec.1 h
       obtain rfl:=zV ah
       exact ei.mk (side:=True) aa (by simp only [bS,aT,←e,←az,den,ab.plain,if_true]<;>rfl) trivial rfl
     · exact h.elim
   · exact h.elim
 · split at h
   · rename_i aT
     obtain ⟨v,h,e⟩:=fF bs h
     obtain ⟨u,h,az⟩:=fF bs h
     split at h
     · obtain ⟨ah,aa⟩:=ec.1 h
       obtain rfl:=zV ah
       exact ei.mk (side:=True) aa (by simp only [bS,aT,←e,←az,den,ab.plain,if_true]<;>rfl) trivial rfl
     · exact h.elim
   · exact h.elim
 · exact h.elim
end
end Go.cz
end
section
namespace Go.cz
open Go Go.bg
abbrev cY:=ck→List bT→ae→Prop
structure gW where
 P:Program
 T:h1
 E:Nat
 w:List Nat
 st:List Nat
 s5:List Nat
 xs:List Nat
 cv:List Nat
 bs:List Nat
def has:List Nat→Nat→Bool
 |[],_=>false
 |x::r,n=>bif Nat.beq x n then true else has r n
def ko (d:Option Nat) (v:a7) (fr:ck) (k:ck→Prop):Prop:=
 match d with
 |some d=>k ((d,v)::fr)
 |none=>k fr
def va:a7→Bool
 | .own _| .b _| .loc _ _| .ms _ _ _| .mp _| .jv _ _ _ _| .b9 _ _ _ _| .fn _ _ _=>true
 |_=>false
def vb:List a7→(List a7→Prop)→Prop
 |[],k=>k []
 | .aI x::r,k=>oc x fun bH=>vb r fun gU=>k (.aI bH::gU)
 |v::r,k=>b1 (va v) (vb r fun gU=>k (v::gU))
def s6:List ab→List a7
 |[]=>[]
 |x::r=>qA x::s6 r
def Dt (v:a7) (k:List a7→Prop):Prop:=
 match v with
 | .agg l=>vb l k
 | .aI (.agg l)=>vb (s6 l) k
 | .aI x=>oc x fun bH=>k [.aI bH]
 |v=>b1 (va v) (k [v])
def xZ (x:Operand) (v:a7) (fr:ck) (k:ck→Prop):Prop:=
 match x with
 | .tmp t=>
   match v with
   | .own l=>k ((t, .aI (.slice false l))::fr)
   | .agg l=>sV l fun l'=>k ((t, .agg l')::fr)
   | .da _=>False
   |_=>k fr
 |_=>k fr
def z6:List a7→(List a7→Prop)→Prop
 |[],k=>k []
 |v::r,k=>b1 (qz v) (rH v fun hD=>z6 r fun gU=>k (hD::gU))
def Du (v:a7) (k:a7→Prop):Prop:=
 match v with
 | .da l=>z6 l fun l'=>k (.da l')
 |v=>b1 (qz v) (rH v k)
def x0 (l cs:List a7) (off n:Nat):List a7:=l.take off++cs++l.drop (off+n)
def toK:a7→(ab→Prop)→Prop
 | .aI x,k=>uX x k
 | .b c,k=>k (.bool c.val)
 | .agg l,k=>go l fun l'=>k (.agg l')
 |_,_=>False
where go:List a7→(List ab→Prop)→Prop
 |[],k=>k []
 | .aI x::r,k=>oc x fun bH=>go r fun gU=>k (bH::gU)
 | .b c::r,k=>go r fun gU=>k (.bool c.val::gU)
 |_,_=>False
def toLK:List a7→(List ab→Prop)→Prop
 |[],k=>k []
 |v::r,k=>toK v fun x=>toLK r fun gU=>k (x::gU)
def rI (T:h1) (c6:List (Nat×Nat)):List (Nat×a7)→List a7→(List a7→Prop)→Prop
 |[],cs,k=>k cs
 |(i,v)::r,cs,k=>
  match nth c6 i with
  |some (off,t)=>dT T t fun j=>Dv v fun vs=>b1 (Nat.beq vs.length j.n) (b1 (Nat.ble (off+j.n) cs.length) (gY (x0 cs vs off j.n) fun mo=>rI T c6 r mo k))
  |none=>False
where Dv:a7→(List a7→Prop)→Prop
 | .agg l,k=>k l
 | .aI (.agg l),k=>gY (s6 l) k
 | .aI x,k=>oc x fun bH=>k [.aI bH]
 | .da _,_=>False
 | .off,_=>False
 |v,k=>k [v]
def s7 (fr:ck):List (Nat×Operand)→(List (Nat×a7)→Prop)→Prop
 |[],k=>k []
 |(i,x)::r,k=>fu fr x fun v=>s7 fr r fun gU=>k ((i,v)::gU)
def idxFrom:Nat→List (Nat×a7)→Bool
 |_,[]=>true
 |n,(i,_)::r=>bif Nat.beq n i then idxFrom (n+1) r else false
def o1:List (Nat×a7)→List a7
 |[]=>[]
 |(_,v)::r=>v::o1 r
structure Dw (w z7:Nat) (l l':List ab) (Q:List ab→Prop):Prop where
 h:((l.length+l'.length)*z7≤140737488355328∧l.length+l'.length≤140737488355328∧(∀x∈l,x.cells.length=w)∧∀x∈l',x.cells.length=w∧x.cells.all ab.one=true)∧Q (l++l')
structure qJ (a b:Prop):Prop where
 h:a∨b
theorem ap {R:Prop} {α:Type} (f:α→ab) (xs dn:List α) {w z7:Nat} {l l':List ab} {Q:List ab→Prop} (av:l=xs.map f) (nc:l'=dn.map f) (aZ:∀a,(f a).cells.length=w∧(f a).cells.all ab.one=true)
 (h:(xs.length+dn.length)*z7≤140737488355328∧xs.length+dn.length≤140737488355328) (h2:Q ((xs++dn).map f)):qJ (Dw w z7 l l' Q) R:=by
 subst av;subst nc
 refine ⟨.inl ⟨⟨by simpa using h.1,by simpa using h.2,fun x an=>?_,fun x an=>?_⟩,by rw [←List.map_append];exact h2⟩⟩
 · obtain ⟨a,_,rfl⟩:=List.mem_map.1 an;exact (aZ a).1
 · obtain ⟨a,_,rfl⟩:=List.mem_map.1 an;exact aZ a
structure pN (P:Program) (b0:List Nat) (f:FuncId) (vs:List a7) (fr:ck) (L:List bT) (m:ae) (Q:a7→List bT→ae→Prop):Prop where
 h:∃(σ:Type) (hg:σ→Prop) (y:σ→a7) (ch:σ→List bT) (ai:σ→ae),(∀new,Good (b0++new) L m→∀K:ab→ae→Prop,(∀x,hg x→∀e2,Good (b0++new++e2) (ch x) (ai x)→K (den (b0++new++e2) (y x)) (b7 (b0++new++e2) (ch x) (ai x)))→bh P f (bE (b0++new) vs) (b7 (b0++new) L m) K)∧
  (∀x,(bif Nat.beq (ch x).length L.length then true else qD L.length fr)=true)∧∀x,hg x→Q (y x) (ch x) (ai x)
theorem pN.one {P:Program} {b0:List Nat} {f:FuncId} {vs:List a7} {fr:ck} {L:List bT} {m:ae} {Q:a7→List bT→ae→Prop} (y:a7) (ch:List bT) (ai:ae)
 (J:∀new,Good (b0++new) L m→∀K:ab→ae→Prop,(∀e2,Good (b0++new++e2) ch ai→K (den (b0++new++e2) y) (b7 (b0++new++e2) ch ai))→bh P f (bE (b0++new) vs) (b7 (b0++new) L m) K)
 (aa:(bif Nat.beq ch.length L.length then true else qD L.length fr)=true) (aj:Q y ch ai):pN P b0 f vs fr L m Q:=
 ⟨Unit,fun _=>True,fun _=>y,fun _=>ch,fun _=>ai,fun new g K U=>J new g K (U () trivial),fun _=>aa,fun _ _=>aj⟩
structure Ig (P:Program) (b0:List Nat) (f:FuncId) (vs:List a7) (L:List bT) (m:ae) (Q:a7→Prop):Prop where
 h:∃y,(∀new,Good (b0++new) L m→∃c:ab,uF P f (bE (b0++new) vs) (b7 (b0++new) L m) c∧c.plain=den (b0++new) y)∧Q y
structure iA (P:Program) (b0:List Nat) (dst:Option Nat) (op:Op) (fr:ck) (L:List bT) (m:ae) (k:cY):Prop where
 h:∀new,Good (b0++new) L m→∀(n:Nat) (ops:Array Oper) (ty:TypeId) (pos:String) (af:Array Edge) (l:List Oper) (K:Fr→ae→Prop),fp n ⟨dst,op,ty,pos,af,none⟩=true→gS n ⟨dst,op,ty,pos,af,none⟩=true→
  (∀bf ch m' iY,b0 <+: iY→Good iY ch m'→k bf ch m'→b6 P n ops l K (bt iY bf) (b7 iY ch m'))→b6 P n ops (⟨dst,op,ty,pos,af,none⟩::l) K (bt (b0++new) fr) (b7 (b0++new) L m)
def x1 (fr:ck) (L:List bT) (o:bT) (k:Nat→List bT→Prop):Prop:=
 b1 (qD L.length fr) (b1 (nx L.length L) (k L.length (L++[o])))
def rJ (c:gW):Option Nat→Bool
 |some d=>has c.w (1000000+d)
 |none=>false
def vc (c:gW) (b9:List Nat) (d:Nat):Bool:=bif has b9 d then true else has c.w (1000000+d)
def ih (c:gW) (b9:List Nat) (dst:Option Nat) (op:Op) (fr:ck) (L:List bT) (m:ae) (k:cY):Prop:=
 match op with
 | .assign (.tmp t)=>lk fr t fun v=>b1 (qz v) (rH v fun u=>xZ (.tmp t) v fr fun bf=>
   match v with
   | .own l=>ko dst (.own l) bf fun fr=>k fr L m
   |_=>ko dst u bf fun fr=>k fr L m)
 | .move (.tmp t)=>lk fr t fun v=>Du v fun u=>
   match v,dst with
   | .own l,some d=>
     match vc c b9 d with
     |true=>k ((d, .own l)::(t,u)::fr) L m
     |false=>k ((d,u)::fr) L m
   |_,_=>ko dst u fr fun fr=>k fr L m
 | .extract (.tmp t) n=>lk fr t fun v=>
   match v,dst with
   | .da l,some d=>
     match nth l n with
     |some (.own q)=>z6 l fun l'=>
      match vc c b9 d with
      |true=>k ((d, .own q)::(t, .da l')::fr) L m
      |false=>k ((d, .aI (.slice false q))::fr) L m
     |some u=>b1 (qz u) (rH u fun mi=>k ((d,mi)::fr) L m)
     |none=>False
   |v,some d=>u2 v n fun u=>k ((d,u)::fr) L m
   |_,none=>False
 | .load t x=>fu fr x fun v=>dT c.T t fun i=>
   match dst with
   |some d=>
    match v with
    | .loc b off=>
      match nth L b with
      |some (.cells l)=>
       match nth l off with
       |some (.own q)=>
        match vc c b9 d,i.k.iz with
        |true,false=>k ((d, .own q)::fr) (L.set b (.cells (l.set off (.aI (.slice false q))))) m
        |_,_=>qG L i v fun u=>k ((d,u)::fr) L m
       |_=>qG L i v fun u=>k ((d,u)::fr) L m
      |_=>qG L i v fun u=>k ((d,u)::fr) L m
    | .aI _=>qG L i v fun u=>k ((d,u)::fr) L m
    | .jv _ _ _ _=>
      match rJ c dst with
      |true=>iA c.P c.bs dst op fr L m k
      |false=>qG L i v fun u=>k ((d,u)::fr) L m
    |_=>iA c.P c.bs dst op fr L m k
   |none=>False
 | .store t a x=>fu fr a fun p=>
   match p with
   | .loc b off=>zP fr x fun v=>dT c.T t fun i=>
     match nth L b with
     |some (.cells l)=>Dt v fun cs=>b1 (Nat.beq cs.length i.n) (b1 (Nat.ble (off+i.n) l.length) (xZ x v fr fun bf=>gY (x0 l cs off i.n) fun l'=>gY (L.set b (.cells l')) fun ch=>k bf ch m))
     |_=>iA c.P c.bs dst op fr L m k
   |_=>iA c.P c.bs dst op fr L m k
 | .alloc t=>dT c.T t fun i=>
   match i.z with
   |[]=>iA c.P c.bs dst op fr L m k
   |_=>gY (ka i.z) fun cs=>x1 fr L (.cells cs) fun b ch=>gY ch fun ch=>ko dst (.loc b 0) fr fun fr=>k fr ch m
 | .box _ x=>zP fr x fun v=>Dt v fun cs=>xZ x v fr fun bf=>b1 (od L.length cs)<|x1 bf L (.cells cs) fun b ch=>gY ch fun ch=>ko dst (.loc b 0) bf fun fr=>k fr ch m
 | .makeMap t none=>dT c.T t fun i=>b1 i.k.Dl (x1 fr L (.obj (.map [])) fun b ch=>gY ch fun ch=>ko dst (.mp b) fr fun fr=>k fr ch m)
 | .build t parts=>
   match rJ c dst with
   |true=>iA c.P c.bs dst op fr L m k
   |false=>dT c.T t fun i=>
    match i.k with
    | .st c6=>b1 (match i.z with|[]=>false|_=>true) (gY (ka i.z) fun dv=>s7 fr parts.toList fun ps=>rI c.T c6 ps dv fun cs=>ko dst (.agg cs) fr fun fr=>k fr L m)
    |_=>False
 | .buildSlice t n parts=>
   match dst with
   |some d=>match has b9 d with
    |true=>iA c.P c.bs dst op fr L m k
    |false=>dT c.T t fun i=>jO i fun e=>dT c.T e fun j=>s7 fr parts.toList fun ps=>b1 (idxFrom 0 ps) (b1 (Nat.beq ps.length n) (b1 (Nat.ble (n*j.n) 16777216) (toLK (o1 ps) fun l=>b1 (l.all fun x=>Nat.beq x.cells.length j.n) (k ((d, .own l)::fr) L m))))
   |none=>False
 | .makeFunc (.func f) a z8=>sW fr a.toList fun x=>sW fr z8.toList fun y=>
   match dst with
   |some d=>k ((d, .fn f x y)::fr) L m
   |none=>False
 | .pick q x y=>fu fr q fun v=>
   match v with
   | .b (.lit true)=>fu fr x fun u=>ko dst u fr fun fr=>k fr L m
   | .b (.lit false)=>fu fr y fun u=>ko dst u fr fun fr=>k fr L m
   |_=>False
 | .call ⟨.builtin .append,args,di⟩=>
   match args.toList,di.toList,dst with
   |[.tmp s,y],[t,u],some d=>lk fr s fun v=>fu fr y fun w=>
    match v,w with
    | .own l, .aI (.slice _ l')=>dT c.T t fun i=>jO i fun e=>dT c.T e fun j=>b1 (Nat.beq t u) (qJ (Dw j.n j.y l l' fun q=>k ((d, .own q)::(s, .aI (.slice false l))::fr) L m) (iA c.P c.bs dst op fr L m k))
    |_,_=>iA c.P c.bs dst op fr L m k
   |[.const (.slice none 0 0),y],[t,u],some d=>fu fr y fun w=>
    match w with
    | .aI (.slice _ l')=>dT c.T t fun i=>jO i fun e=>dT c.T e fun j=>b1 (Nat.beq t u) (qJ (Dw j.n j.y [] l' fun q=>k ((d, .own q)::fr) L m) (iA c.P c.bs dst op fr L m k))
    |_=>iA c.P c.bs dst op fr L m k
   |_,_,_=>False
 | .call ⟨.value (.func f),args,_⟩=>
   match rJ c dst with
   |true=>iA c.P c.bs dst op fr L m k
   |false=>sW fr args.toList fun vs=>pN c.P c.bs f vs fr L m fun y ch m'=>ko dst y fr fun fr=>k fr ch m'
 | .call ⟨.value (.tmp t),args,_⟩=>lk fr t fun v=>
   match v with
   | .fn f a z8=>sW fr args.toList fun vs=>gY (a++vs++z8) fun vs=>pN c.P c.bs f vs fr L m fun y ch m'=>ko dst y fr fun fr=>k fr ch m'
   |_=>iA c.P c.bs dst op fr L m k
 | .mapUpdate _ _ _ _| .insert _ _ _ _| .lookup _ _ _ _| .range _ _| .next _ _| .entry _| .makeSlice _ _ _| .call ⟨.builtin .delete,_,_⟩| .call ⟨.builtin .copy,_,_⟩=>iA c.P c.bs dst op fr L m k
 | .makeInterface _ _=>
   match rJ c dst with
   |true=>iA c.P c.bs dst op fr L m k
   |false=>
    match dst with
    |some d=>u3 c.T (has c.w d) fr L op fun u=>k ((d,u)::fr) L m
    |none=>False
 |op=>
  match dst with
  |some d=>u3 c.T (has c.w d) fr L op fun u=>k ((d,u)::fr) L m
  |none=>False
def Aa (c:gW) (dst:Option Nat) (op:Op) (fr:ck) (L:List bT) (m:ae) (k:ck→Prop):Prop:=
 match dst with
 |none=>False
 |some d=>
  match op with
  | .call ⟨.value (.func f),args,_⟩=>sW fr args.toList fun vs=>Ig c.P c.bs f vs L m fun y=>k ((d,y)::fr)
  | .build t parts=>dT c.T t fun i=>
    match i.k with
    | .st c6=>b1 (match i.z with|[]=>false|_=>true) (gY (ka i.z) fun dv=>s7 fr parts.toList fun ps=>rI c.T c6 ps dv fun cs=>sV cs fun cs=>k ((d, .agg cs)::fr))
    |_=>False
  | .buildSlice t n parts=>dT c.T t fun i=>jO i fun e=>dT c.T e fun j=>s7 fr parts.toList fun ps=>b1 (idxFrom 0 ps) (b1 (Nat.beq ps.length n) (b1 (Nat.ble (n*j.n) 16777216) (toLK (o1 ps) fun l=>b1 (l.all fun x=>Nat.beq x.cells.length j.n) (k ((d, .aI (.slice false l))::fr)))))
  | .pick q x y=>fu fr q fun v=>
    match v with
    | .b (.lit true)=>fu fr x fun u=>k ((d,u)::fr)
    | .b (.lit false)=>fu fr y fun u=>k ((d,u)::fr)
    |_=>False
  |op=>u3 c.T (has c.w d) fr L op fun u=>k ((d,u)::fr)
def o2:ck→Nat→a7→(ck→Prop)→Prop
 |[],_,_,k=>k []
 |(s,x)::r,t,v,k=>bif Nat.beq s t then k ((s,v)::r) else o2 r t v fun gU=>k ((s,x)::gU)
def vd (ops:List Oper) (gd:Option (Nat×Bool)) (fr:ck) (on:ck→Prop) (off:ck→Prop):Prop:=
 match gd with
 |none=>on fr
 |some (j,b)=>
  match (nth ops j).bind (·.dst) with
  |some g=>lk fr g fun v=>
   match v with
   | .b (.lit z)=>
     match z,b with
     |true,true|false,false=>on fr
     |_,_=>off fr
   | .b q=>
     match b with
     |true=>q.ways (o2 fr g (.b (.lit true)) on) (o2 fr g (.b (.lit false)) off)
     |false=>q.ways (o2 fr g (.b (.lit true)) off) (o2 fr g (.b (.lit false)) on)
   | .off=>off fr
   |_=>False
  |none=>False
noncomputable def rK (c:gW) (ops:List Oper) (b9:List Nat) (l:List Oper):ck→List bT→ae→cY→Prop:=
 List.rec (motive:=fun _=>ck→List bT→ae→cY→Prop) (fun fr L m k=>k fr L m)
  (fun o _ aO fr L m k=>vd ops o.guard fr (fun fr=>ih c b9 o.dst o.op fr L m fun fr L m=>aO fr L m k) (fun fr=>ko o.dst .off fr fun fr=>aO fr L m k)) l
theorem Qf (c:gW) (ops:List Oper) (b9:List Nat) (o:Oper) (r:List Oper) (fr:ck) (L:List bT) (m:ae) (k:cY):rK c ops b9 (o::r) fr L m k=vd ops o.guard fr (fun fr=>ih c b9 o.dst o.op fr L m fun fr L m=>rK c ops b9 r fr L m k) (fun fr=>ko o.dst .off fr fun fr=>rK c ops b9 r fr L m k):=rfl
noncomputable def x2 (c:gW) (ops:List Oper) (l:List Oper):ck→List bT→ae→(ck→Prop)→Prop:=
 List.rec (motive:=fun _=>ck→List bT→ae→(ck→Prop)→Prop) (fun fr _ _ k=>k fr)
  (fun o _ aO fr L m k=>vd ops o.guard fr (fun fr=>Aa c o.dst o.op fr L m fun fr=>aO fr L m k) (fun fr=>ko o.dst .off fr fun fr=>aO fr L m k)) l
theorem Qg (c:gW) (ops:List Oper) (o:Oper) (r:List Oper) (fr:ck) (L:List bT) (m:ae) (k:ck→Prop):x2 c ops (o::r) fr L m k=vd ops o.guard fr (fun fr=>Aa c o.dst o.op fr L m fun fr=>x2 c ops r fr L m k) (fun fr=>ko o.dst .off fr fun fr=>x2 c ops r fr L m k):=rfl
def qK:List Oper→List Nat
 |[]=>[]
 |o::r=>
  match o.op with
  | .call ⟨.builtin .append,args,_⟩=>
    match args.toList with
    | .tmp s::_=>s::qK r
    |_=>qK r
  |_=>qK r
def Qh:Op→Bool
 | .store _ _ _| .mapUpdate _ _ _ _| .makeSlice _ _ _| .makeMap _ _| .alloc _| .box _ _| .insert _ _ _ _| .entryStore _ _ _ _=>true
 | .call ⟨.builtin .append,_,_⟩| .call ⟨.builtin .copy,_,_⟩| .call ⟨.builtin .delete,_,_⟩=>true
 |_=>false
def s8 (xs:List Nat) (id:Nat):List Oper→Nat→Nat
 |[],n=>n
 |o::r,n=>bif Qh o.op then n else bif has xs (id*1000+n) then n else s8 xs id r (n+1)
def vg (b9:List Nat):List Oper→List (Nat×Nat)
 |[]=>[]
 |o::r=>
  match o.dst,o.op,o.guard with
  |some d, .move (.tmp s),none=>bif has b9 d then (d,s)::vg b9 r else vg b9 r
  |_,_,_=>vg b9 r
def Ab:List (Nat×Nat)→ck→(ck→Prop)→Prop
 |[],fr,k=>k fr
 |(d,s)::r,fr,k=>lk fr s fun v=>b1 (qz v) (rH v fun u=>Ab r ((d,v)::(s,u)::fr) k)
def Dx:a7→Prop
 | .aI (.int dL n)=>dL.min≤n∧n≤dL.max
 | .aI (.slice _ l)=>l.length≤140737488355328∧zJ l
 | .aI x=>xD x.plain
 | .own l=>l.length≤140737488355328∧zJ l
 |_=>True
structure Told (fr:ck) (p:Prop):Prop where
 h:(∀t,Dx (eh fr t))→p
noncomputable def rL (c:gW) (id:Nat) (ops:List Oper) (draw:Bool) (k:cY) (fr:ck) (L:List bT) (m:ae):Prop:=
 match draw with
 |false=>rK c ops (qK ops) ops fr L m k
 |true=>
  match has c.xs (id*1000+999) with
  |true=>False
  |false=>gY (ops.take (s8 c.xs id ops 0)) fun hC=>gY (ops.drop (s8 c.xs id ops 0)) fun hd=>x2 c ops hC fr L m fun fr=>Ab (vg (qK ops) hC) fr fun fr=>rK c ops (qK ops) hd fr L m k
def s9:ck→Nat→Option a7
 |[],_=>none
 |(s,x)::r,t=>bif Nat.beq s t then some x else s9 r t
def jn (E:Nat):a7→a7
 | .aI .nilIface=> .aI (.err E 0)
 | .aI (.iface u (.int .i64 e))=>
   match Nat.beq u E,decide (e=0) with
   |true,false=> .aI (.err E e)
   |_,_=> .aI (.iface u (.int .i64 e))
 |v=>v
def Ac (E:Nat) (md:List (Nat×Nat)) (t:Nat) (v:a7):a7:=
 match v with
 | .b (.lit z)=>bif md.any (fun p=>Nat.beq p.1 t) then .b (.raw z) else .b (.lit z)
 | .b q=> .b (.raw q.val)
 | .own l=>bif md.any (fun p=>Nat.beq p.1 t) then .aI (.slice false l) else .own l
 | .aI (.agg l)=> .agg (s6 l)
 |v=>bif md.any (fun p=>Nat.beq p.1 t) then jn E v else v
def ta:List a7→List a7
 |[]=>[]
 | .b q::r=> .b (.raw q.val)::ta r
 |v::r=>v::ta r
def x3:bT→bT
 | .cells l=> .cells (ta l)
 | .obj o=> .obj o
def og:List bT→List bT
 |[]=>[]
 |o::r=>x3 o::og r
def ny (E:Nat) (md:List (Nat×Nat)):List Nat→ck→ck
 |[],_=>[]
 |t::r,fr=>
  match s9 fr t with
  |some v=>(t,Ac E md t v)::ny E md r fr
  |none=>ny E md r fr
abbrev vh:=ck×List bT×ae
def fits (c:gW) (md:List (Nat×Nat)) (ks:List Nat) (n:Nat) (fr:ck) (L:List bT) (m:ae) (s:vh):Prop:=
 (ny c.E md ks fr,og (L.take n),m)=s∧(qD n s.1&&nx n s.2.1&&Nat.ble n L.length&&Nat.ble c.bs.length n)=true
structure Dy (c:gW) (F:cY→cY) (fr:ck) (L:List bT) (m:ae):Prop where
 h:∃(σ:Type) (S:σ→vh) (hg:σ→Prop) (nt:σ→Nat) (md:List (Nat×Nat)) (ks:List Nat) (n:σ→Nat) (lQ:σ),fits c md ks (n lQ) fr L m (S lQ)∧hg lQ∧
  ∀x,hg x→gY (S x).1 fun fr=>gY (S x).2.1 fun L=>F (fun bf ch m'=>∃bH,fits c md ks (n bH) bf ch m' (S bH)∧hg bH∧nt bH<nt x) fr L (S x).2.2
theorem cH {c:gW} {F:cY→cY} {fr:ck} {L:List bT} {m:ae} {σ:Type} (md:List (Nat×Nat)) (ks:List Nat) (n:Nat) (S:σ→vh) (hg:σ→Prop) (nt:σ→Nat) (lQ:σ) (aJ:fits c md ks n fr L m (S lQ)) (aE:hg lQ)
 (h:∀x,hg x→gY (S x).1 fun fr=>gY (S x).2.1 fun L=>F (fun bf ch m'=>∃bH,fits c md ks n bf ch m' (S bH)∧hg bH∧nt bH<nt x) fr L (S x).2.2):Dy c F fr L m:=
 ⟨σ,S,hg,nt,md,ks,fun _=>n,lQ,aJ,aE,h⟩
structure Ad (c:gW) (A:cY→cY) (B:cY) (fr:ck) (L:List bT) (m:ae):Prop where
 h:∃rM:cY,(∀fr L m,rM fr L m→B fr L m∨∃md ks n s,fits c md ks n fr L m s∧B s.1 s.2.1 s.2.2)∧A rM fr L m
theorem aB {c:gW} {A:cY→cY} {B:cY} {fr:ck} {L:List bT} {m:ae} (h:A B fr L m):Ad c A B fr L m:=⟨B,fun _ _ _ h=> .inl h,h⟩
theorem rN {c:gW} {A:cY→cY} {B:cY} {fr:ck} {L:List bT} {m:ae} {σ:Type} (md:List (Nat×Nat)) (ks:List Nat) (n:Nat) (S:σ→vh) (hg:σ→Prop) (df:∀x,hg x→gY (S x).1 fun fr=>gY (S x).2.1 fun L=>B fr L (S x).2.2)
 (dZ:A (fun fr L m=>∃x,fits c md ks n fr L m (S x)∧hg x) fr L m):Ad c A B fr L m:=
 ⟨_,fun fr L m ⟨x,h,aE⟩=> .inr ⟨md,ks,n,S x,h,by have:=df x aE;rw [hR,hR] at this;exact this⟩,dZ⟩
structure Ae (A:cY→cY) (B:cY) (fr:ck) (L:List bT) (m:ae):Prop where
 h:∃rM:cY,(∀fr L m,rM fr L m→∃md t e ks,(∃q,s9 fr t=some (.b q)∧q.val=e)∧B ((t, .b (.raw e))::ny 0 md ks fr) L m)∧A rM fr L m
theorem cf {A:cY→cY} {B:cY} {fr:ck} {L:List bT} {m:ae} (ks:List Nat) (t:Nat) (e:Bool) (dZ:A (fun bf ch m'=>(∃q,s9 bf t=some (.b q)∧q.val=e)∧(ny 0 [] ks bf,ch,m')=(ny 0 [] ks fr,L,m)) fr L m)
 (df:gY (ny 0 [] ks fr) fun fr=>B ((t, .b (.raw e))::fr) L m):Ae A B fr L m:=
 ⟨_,fun bf ch m' ⟨J,aa⟩=>⟨[],t,e,ks,J,by
   simp only [Prod.mk.injEq] at aa
   obtain ⟨aF,az,cS⟩:=aa
   rw [hR] at df
   rw [aF,az,cS]
   exact df⟩,dZ⟩
structure x4 (c:gW) (A:cY) (fr:ck) (L:List bT) (m:ae):Prop where
 h:∀new,Good (c.bs++new) L m→∀(n:Nat) (ij:Code) (Q:Exit→Fr→ae→Prop),(∀bf ch m' iY,c.bs <+: iY→Good iY ch m'→A bf ch m'→dS c.P n ij Q (bt iY bf) (b7 iY ch m'))→dS c.P n ij Q (bt (c.bs++new) fr) (b7 (c.bs++new) L m)
structure Dz (c:gW) (id:Nat) (ops:Array Oper) (draw:Bool) (kn:cY) (fr:ck) (L:List bT) (m:ae):Prop where
 h:∀new,Good (c.bs++new) L m→∀(n:Nat) (Q:Exit→Fr→ae→Prop),kM n ops []=true→(∀bf ch m' iY,c.bs <+: iY→Good iY ch m'→kn bf ch m'→Q .normal (bt iY bf) (b7 iY ch m'))→dS c.P n (.region id ops draw) Q (bt (c.bs++new) fr) (b7 (c.bs++new) L m)
def DA:Code→Bool
 | .region _ _ _=>true
 |_=>false
noncomputable def vi (c:gW) (id:Nat) (ops:List Oper) (draw:Bool) (kn:cY) (fr:ck) (L:List bT) (m:ae):Prop:=
 match has c.st id,has c.s5 id with
 |true,false=>Told fr (rL c id ops draw kn fr L m)
 |false,false=>rL c id ops draw kn fr L m
 |true,true=>Told fr (Ae (fun kn fr L m=>rL c id ops draw kn fr L m) kn fr L m)
 |false,true=>Ae (fun kn fr L m=>rL c id ops draw kn fr L m) kn fr L m
noncomputable def lR (c:gW) (ij:Code):cY→(Nat→cY)→cY→cY:=
 @Code.rec (fun _=>cY→(Nat→cY)→cY→cY)
   (fun kn _ _ fr L m=>kn fr L m)
   (fun id ops draw kn _ _ fr L m=>
     match has c.cv id with
     |false=>vi c id ops.toList draw kn fr L m
     |true=>qJ (x4 c (fun fr L m=>vi c id ops.toList draw kn fr L m) fr L m) (Dz c id ops draw kn fr L m))
   (fun a _ Ih Ii kn kx kr fr L m=>
     match DA a with
     |true=>Ih (fun fr L m=>Ii kn kx kr fr L m) kx kr fr L m
     |false=>Ad c (fun DB fr L m=>Ih DB kx kr fr L m) (fun fr L m=>Ii kn kx kr fr L m) fr L m)
   (fun q _ _ Qi Qj kn kx kr fr L m=>fu fr q fun v=>
     match v with
     | .b s=>s.ways (Qi kn kx kr fr L m) (Qj kn kx kr fr L m)
     |_=>False)
   (fun id _ aO kn kx kr fr L m=>aO kn (fun j fr L m=>match Nat.beq j id with|true=>kn fr L m|false=>kx j fr L m) kr fr L m)
   (fun _ aO _ kx kr fr L m=>Dy c (fun DC fr L m=>aO DC kx kr fr L m) fr L m)
   (fun _ _ _ _ _ _ _ _ _ _ _ _=>False)
   (fun id _ kx _ fr L m=>kx id fr L m)
   (fun _ _ _ _ _ _ _ _=>False) (fun _ _ _ _ _ _ _=>False) (fun _ _ _ _ _ _ _=>False) (fun _ _ kr fr L m=>kr fr L m) (fun _ _ _ _ _ _ _=>False) ij
section
variable {c:gW} {kn:cY} {kx:Nat→cY} {kr:cY} {fr:ck} {L:List bT} {m:ae}
theorem Qk {id:Nat} {ops:Array Oper} {draw:Bool}:lR c (.region id ops draw) kn kx kr fr L m=(match has c.cv id with
 |false=>vi c id ops.toList draw kn fr L m
 |true=>qJ (x4 c (fun fr L m=>vi c id ops.toList draw kn fr L m) fr L m) (Dz c id ops draw kn fr L m)):=rfl
theorem Ql {a b:Code}:lR c (.seq a b) kn kx kr fr L m=(match DA a with
 |true=>lR c a (fun fr L m=>lR c b kn kx kr fr L m) kx kr fr L m
 |false=>Ad c (fun DB fr L m=>lR c a DB kx kr fr L m) (fun fr L m=>lR c b kn kx kr fr L m) fr L m):=rfl
theorem Qm {q:Operand} {x y:Code}:lR c (.cond q x y) kn kx kr fr L m=fu fr q fun v=>
 match v with
 | .b s=>s.ways (lR c x kn kx kr fr L m) (lR c y kn kx kr fr L m)
 |_=>False:=rfl
theorem Qn {id:Nat} {body:Code}:lR c (.block id body) kn kx kr fr L m=lR c body kn (fun j fr L m=>match Nat.beq j id with|true=>kn fr L m|false=>kx j fr L m) kr fr L m:=rfl
theorem Qo {body:Code}:lR c (.loop body) kn kx kr fr L m=Dy c (fun DC fr L m=>lR c body DC kx kr fr L m) fr L m:=rfl
end
def Af (T:h1) (fr:ck) (L:List bT) (r:ResultVar) (k:a7→Prop):Prop:=
 match r with
 | .tmp t=>lk fr t k
 | .cell a t=>lk fr a fun v=>
   match v with
   | .loc b off=>
     match nth L b with
     |some (.cells l)=>dT T t fun i=>
      match i.k.iz with
      |true=>b1 (Nat.ble (off+i.n) l.length) (sV ((l.drop off).take i.n) fun l'=>k (.agg l'))
      |false=>
       match nth l off with
       |some v=>xL v k
       |none=>False
     |_=>False
   |_=>False
def Ag (T:h1) (fr:ck) (L:List bT):List ResultVar→(List a7→Prop)→Prop
 |[],k=>k []
 |r::rs,k=>Af T fr L r fun v=>Ag T fr L rs fun vs=>k (v::vs)
def Ah:List ResultVar→List Nat
 |[]=>[]
 | .tmp t::r=>t::Ah r
 | .cell _ _::r=>Ah r
def Ai (E:Nat) (di:List Nat):ck→ck
 |[]=>[]
 |(t,v)::r=>(t,bif has di t then jn E v else v)::Ai E di r
def DD (bs:List Nat):List a7→ab
 |[v]=>den bs v
 |[v,x]=> .tuple [den bs v,(den bs x).plain]
 |[v,x,y]=> .tuple [den bs v,(den bs x).plain,(den bs y).plain]
 |[v,x,y,z]=> .tuple [(den bs v).plain,(den bs x).plain,(den bs y).plain,(den bs z).plain]
 |_=> .tuple []
def x5:Nat→List a7→ck
 |_,[]=>[]
 |i,v::r=>(i,v)::x5 (i+1) r
structure x6 (c:gW) (K:ab→ae→Prop) (vs:List a7) (L:List bT) (m:ae):Prop where
 h:∀new,Good (c.bs++new) L m→∃m',(∀b o,m' b=some o→b7 (c.bs++new) L m b=some o)∧K (DD (c.bs++new) vs) m'
def DE (c:gW) (e:Bool) (rs:List ResultVar) (K:ab→ae→Prop):cY:=fun fr L m=>
 match e with
 |true=>gY (Ai c.E (Ah rs) fr) fun fr=>Ag c.T fr L rs fun vs=>x6 c K vs L m
 |false=>Ag c.T fr L rs fun vs=>x6 c K vs L m
end Go.cz
end
section
namespace Go.cz
open Go Go.bg
def lS (bH x:ab):Prop:=bH=x∨∀w lim v os,aN w lim v x os→aN w lim v bH []
theorem lS.pl {bH x:ab} (h:bH=x.plain):lS bH x:= .inr fun _ _ _ _ aA=>by rw [h];exact aA.plain
def hr (bf fr:Fr):Prop:=∀t bH,bf.get t=some bH→∃x,fr.get t=some x∧lS bH x
theorem hr.refl (fr:Fr):hr fr fr:=fun _ x h=>⟨x,h, .inl rfl⟩
theorem hr.cons {bf fr:Fr} (h:hr bf fr) (t:Nat) {bH x:ab} (an:lS bH x):hr ((t,bH)::bf) ((t,x)::fr):=by
 intro s y aK
 simp only [Fr.get] at aK ⊢
 by_cases e:t=s
 · rw [if_pos e] at aK ⊢
   obtain rfl:bH=y:=by simpa using aK
   exact ⟨x,rfl,an⟩
 · rw [if_neg e] at aK ⊢
   exact h s y aK
section
variable {P:Program} {n:Nat} {F:Nat→Prop} {lim:Nat→Nat} {w:World} {fr bf:Fr} {m:ae} {ca:Act} {bL:List Nat} {K:Fr→ae→Prop} {ops:Array Oper} {l:List Oper}
theorem bd.less (h:bg.bd F lim w n fr m ca bL) (aw:hr bf fr):bg.bd F lim w n bf m ca bL:=by
 obtain ⟨os,cI,bW,h⟩:=h
 classical
 refine ⟨fun t=>if bf.get t=fr.get t then os t else [],cI,bW,h.size,h.defers,fun t x an=>?_,h.mem,fun t x an=>?_,h.eF,h.gK,h.free,h.fresh⟩
 · by_cases he:bf.get t=fr.get t
   · simp only [he,if_true]
     exact h.eL t x (he▸an)
   · simp only [if_neg he]
     obtain ⟨y,aK,J⟩:=aw t x an
     rcases J with rfl|J
     · exact (he (an.trans aK.symm)).elim
     · obtain ⟨aa,aj⟩:=h.eL t y aK
       exact ⟨aa,J _ _ _ _ aj⟩
 · by_cases he:bf.get t=fr.get t
   · simp only [he,if_true]
     exact h.fj t x (he▸an)
   · simp [if_neg he]
theorem b6.less (aw:hr bf fr) (h:b6 P n ops l K bf m):b6 P n ops l K fr m:=fun F lim w ca Q st aU=>h F lim w ca Q (bd.less st aw) aU
theorem dS.less {c:Code} {Q:Exit→Fr→ae→Prop} (aw:hr bf fr) (h:dS P n c Q bf m):dS P n c Q fr m:=fun F lim w ca st=>h F lim w ca (bd.less st aw)
theorem b6.Qp {dst:Option Nat} {op:Op} {ty:TypeId} {pos:String} {af:Array Edge} {gd:Option (Nat×Bool)} (ak:h0 ops fr gd=some true) (h:b6 P n ops (⟨dst,op,ty,pos,af,none⟩::l) K fr m):b6 P n ops (⟨dst,op,ty,pos,af,gd⟩::l) K fr m:=by
 intro F lim w ca Q st aU
 have:=h F lim w ca Q st aU
 unfold wpList at this ⊢
 rw [if_pos (by simp [Region.wanted])] at this
 rw [if_pos (sP (o:=⟨dst,op,ty,pos,af,gd⟩) st ak)]
 exact this
theorem b6.Qq {dst:Option Nat} {op:Op} {ty:TypeId} {pos:String} {af:Array Edge} {gd:Option (Nat×Bool)} (ak:h0 ops fr gd=some false) (al:fp n ⟨dst,op,ty,pos,af,gd⟩=true)
 (h:b6 P n ops l K (fh fr dst (.lazy false .aV)) m):b6 P n ops (⟨dst,op,ty,pos,af,gd⟩::l) K fr m:=by
 intro F lim w ca Q st aU
 unfold wpList
 rw [if_neg (by rw [sP (o:=⟨dst,op,ty,pos,af,gd⟩) st ak];simp)]
 cases dst with
 |some d=>
  refine b6.from h aU ?_ (.refl _ _ _)
  exact st.set (j4 al rfl) (.mg _)
 |none=>
  refine b6.from h aU ?_ (.refl _ _ _)
  exact st
theorem b6.val {dst:Option Nat} {op:Op} {ty:TypeId} {pos:String} {af:Array Edge} {stl ss:List Nat} {side:Prop} {m':ae} {x:ab} (al:fp n ⟨dst,op,ty,pos,af,none⟩=true) (aM:gS n ⟨dst,op,ty,pos,af,none⟩=true)
 (aT:fl P m (br fr) stl dst op= .val side ss m' x) (aw:side) (h:b6 P n ops l K (fh (fr.strip ss) dst x) m'):b6 P n ops (⟨dst,op,ty,pos,af,none⟩::l) K fr m:=
 xh (stl:=stl) al aM (by simp only [n2,aT];exact ⟨aw,h⟩)
theorem b6.pq {dst:Option Nat} {op:Op} {ty:TypeId} {pos:String} {af:Array Edge} {stl ss:List Nat} {side:Prop} {m':ae} (al:fp n ⟨dst,op,ty,pos,af,none⟩=true) (aM:gS n ⟨dst,op,ty,pos,af,none⟩=true)
 (aT:fl P m (br fr) stl dst op= .pq side ss m') (aw:side) (h:b6 P n ops l K (fh (fr.strip ss) dst .aV) m'):b6 P n ops (⟨dst,op,ty,pos,af,none⟩::l) K fr m:=
 xh (stl:=stl) al aM (by simp only [n2,aT];exact ⟨aw,h⟩)
theorem b6.new {dst:Option Nat} {op:Op} {ty:TypeId} {pos:String} {af:Array Edge} {stl ss:List Nat} {side:Prop} {mk:Nat→ab} {o:gr} (al:fp n ⟨dst,op,ty,pos,af,none⟩=true) (aM:gS n ⟨dst,op,ty,pos,af,none⟩=true)
 (aT:fl P m (br fr) stl dst op= .new side ss mk o) (aw:side) (h:∀b,m b=none→b6 P n ops l K (fh (fr.strip ss) dst (mk b)) (m.cE b (some o))):b6 P n ops (⟨dst,op,ty,pos,af,none⟩::l) K fr m:=
 xh (stl:=stl) al aM (by simp only [n2,aT];exact ⟨aw,h⟩)
theorem b6.bS {d:Nat} {op:Op} {ty:TypeId} {pos:String} {af:Array Edge} {side:Prop} {x:ab} (al:fp n ⟨some d,op,ty,pos,af,none⟩=true) (aU:bg.bS P m (cA (br fr)) op=some (side,x)) (aw:side)
 (h:b6 P n ops l K (fr.put d x) m):b6 P n ops (⟨some d,op,ty,pos,af,none⟩::l) K fr m:=
 b6.quiet (o:=⟨some d,op,ty,pos,af,none⟩) rfl rfl al (by rw [←w4];exact aU) aw h
end
section
variable {bs:List Nat} {fr:ck} {L:List bT} {m:ae}
theorem DF {x:Operand} {v:a7} {k:ck→Prop} (h:xZ x v fr k) (bw:∀t,x= .tmp t→eh fr t=v):∃bf,k bf∧hr (bt bs bf) ((bt bs fr).strip (n1 x))∧∀y,hr (bt bs bf) y→hr (bt bs bf) y:=by
 cases x with
 |tmp t=>
  obtain rfl:=bw t rfl
  have aA:=ll bs fr t
  have hle:(den bs (eh fr t)).plain=den bs (eh fr t)→hr (bt bs fr) ((bt bs fr).strip [t]):=fun e s bH an=>by
   simp only [Fr.strip,Fr.put,Fr.get,aA]
   by_cases az:t=s
   · subst az
     rw [if_pos rfl]
     refine ⟨_,rfl, .inl ?_⟩
     simp only [br,an,Option.getD_some] at aA
     rw [aA,e]
   · rw [if_neg az];exact ⟨_,an, .inl rfl⟩
  simp only [xZ] at h
  cases bw:eh fr t with
  |own l=>
   rw [bw] at h aA
   exact ⟨_,h,by simp only [bt,Fr.strip,n1,Fr.put,aA,den,ab.plain];exact hr.refl _,fun _ h=>h⟩
  |agg l=>
   rw [bw] at h aA
   obtain ⟨u,h,hu⟩:=uV bs h
   exact ⟨_,h,by simp only [bt,Fr.strip,n1,Fr.put,aA,den,ab.plain,hu];exact hr.refl _,fun _ h=>h⟩
  |da l=>rw [bw] at h;exact h.elim
  |aI x=>rw [bw] at h hle;exact ⟨_,h,hle (by simp only [den,xK]),fun _ h=>h⟩
  |b x=>rw [bw] at h hle;exact ⟨_,h,hle (by simp only [den,ab.plain]),fun _ h=>h⟩
  |loc i o=>rw [bw] at h hle;exact ⟨_,h,hle (by simp only [den,ab.plain]),fun _ h=>h⟩
  |ms i a b=>rw [bw] at h hle;exact ⟨_,h,hle (by simp only [den,ab.plain]),fun _ h=>h⟩
  |mp i=>rw [bw] at h hle;exact ⟨_,h,hle (by simp only [den,ab.plain]),fun _ h=>h⟩
  |jv i a b c=>rw [bw] at h hle;exact ⟨_,h,hle (by simp only [den,ab.plain]),fun _ h=>h⟩
  |b9 i a b c=>rw [bw] at h hle;exact ⟨_,h,hle (by simp only [den,ab.plain]),fun _ h=>h⟩
  |fn f a c=>rw [bw] at h hle;exact ⟨_,h,hle (by simp only [den,ab.plain]),fun _ h=>h⟩
  |off=>rw [bw] at h hle;exact ⟨_,h,hle (by simp only [den,ab.plain]),fun _ h=>h⟩
 |const v=>exact ⟨_,h,hr.refl _,fun _ h=>h⟩
 |global g=>exact ⟨_,h,hr.refl _,fun _ h=>h⟩
 |func f=>exact ⟨_,h,hr.refl _,fun _ h=>h⟩
theorem Ij {x:Operand} {k:a7→Prop} (h:zP fr x k):∃v,k v∧den bs v=gF (br (bt bs fr)) x∧∀t,x= .tmp t→eh fr t=v:=by
 cases x with
 |tmp t=>
  rw [zP,my] at h
  exact ⟨_,h,by rw [gF,ll],fun _ e=>by cases e;rfl⟩
 |const v=>
  obtain ⟨u,J,e⟩:=HX bs h
  exact ⟨u,J,e,fun _ e=>by cases e⟩
 |global g=>exact ⟨_,h,by simp only [den,ab.plain,gF],fun _ e=>by cases e⟩
 |func f=>exact ⟨_,h,by simp only [den,bE,gF],fun _ e=>by cases e⟩
theorem Ik {v:a7} (h:va v=true):(den bs v).one=true:=by
 cases v<;>first|(simp only [den,ab.one];done)|(simp [va] at h;done)
theorem Qr {x:ab} {k:ab→Prop} (h:oc x k):x.one=true:=by
 cases x with
 |agg l=>exact h.elim
 |tuple l=>exact h.elim
 |lazy g x=>exact h.elim
 |aV=>exact h.elim
 |_=>rfl
theorem Aj:∀{l:List a7} {k:List a7→Prop},vb l k→∃u,k u∧bE bs u=bE bs l∧(bE bs l).all ab.one=true
 |[],_,h=>⟨_,h,rfl,by simp only [bE,List.all_nil]⟩
 |v::r,k,h=>by
  have jj:∀(h:b1 (va v) (vb r fun gU=>k (v::gU))),∃u,k u∧bE bs u=bE bs (v::r)∧(bE bs (v::r)).all ab.one=true:=fun h=>by
   obtain ⟨J,h⟩:=ec.1 h
   obtain ⟨u,h,e,aT⟩:=Aj h
   exact ⟨_,h,by simp only [bE,e],by simp only [bE,List.all_cons,Ik J,aT,Bool.and_true]⟩
  cases v with
  |aI x=>
   have J:=Qr h
   obtain ⟨bM,h⟩:=pL h
   obtain ⟨u,h,e,aT⟩:=Aj h
   exact ⟨_,h,by simp only [bE,e],by simp only [bE,den,bM,List.all_cons,J,aT,Bool.and_true]⟩
  |own l=>exact jj h
  |b l=>exact jj h
  |loc i o=>exact jj h
  |ms i n c=>exact jj h
  |mp i=>exact jj h
  |jv i a w j=>exact jj h
  |b9 i a w j=>exact jj h
  |agg l=>exact jj h
  |da l=>exact jj h
  |fn f a c=>exact jj h
  |off=>exact jj h
theorem Ak (bs:List Nat):∀(l:List ab),bE bs (s6 l)=ab.fD l
 |[]=>by simp only [s6,bE,ab.fD]
 |x::r=>by simp only [s6,bE,qB,ab.fD,Ak bs r]
theorem Qs {x:ab} (h:x.one=true):x.eH=true∧x.cells=[x]:=by cases x<;>first|exact ⟨rfl,rfl⟩|cases h
theorem Il {v:a7} {k:List a7→Prop} (h:Dt v k):∃u,k u∧bE bs u=(den bs v).cells∧(den bs v).eH=true∧(den bs v).cells.all ab.one=true:=by
 have jj:∀(h:b1 (va v) (k [v])),∃u,k u∧bE bs u=(den bs v).cells∧(den bs v).eH=true∧(den bs v).cells.all ab.one=true:=fun h=>by
  obtain ⟨J,h⟩:=ec.1 h
  have aa:=Ik (bs:=bs) J
  obtain ⟨aj,aG⟩:=Qs aa
  exact ⟨_,h,by rw [aG];simp only [bE],aj,by rw [aG];simp only [List.all_cons,List.all_nil,aa,Bool.and_true]⟩
 cases v with
 |agg l=>
  obtain ⟨u,h,e,aT⟩:=Aj (bs:=bs) h
  exact ⟨_,h,by simp only [den,ab.cells,e],by simp only [den,ab.eH],by simp only [den,ab.cells,aT]⟩
 |aI x=>
  cases x with
  |agg l=>
   obtain ⟨u,h,e,aT⟩:=Aj (bs:=bs) h
   rw [Ak] at e aT
   exact ⟨_,h,by simp only [den,ab.plain,ab.cells,e],by simp only [den,ab.plain,ab.eH],by simp only [den,ab.plain,ab.cells,aT]⟩
  |tuple l=>exact h.elim
  |lazy g l=>exact h.elim
  |aV=>exact h.elim
  |slice o l=>cases o with
   |true=>exact h.elim
   |false=>exact ⟨_,h,by simp only [bE,den,ab.plain,ab.cells],by simp only [den,ab.plain,ab.eH],by simp only [den,ab.plain,ab.cells,List.all_cons,ab.one,List.all_nil,Bool.and_true]⟩
  |_=>exact ⟨_,h,by simp only [bE,den,ab.plain,ab.cells],by simp only [den,ab.plain,ab.eH],by simp only [den,ab.plain,ab.cells,List.all_cons,ab.one,List.all_nil,Bool.and_true]⟩
 |own l=>exact jj h
 |b l=>exact jj h
 |loc i o=>exact jj h
 |ms i n c=>exact jj h
 |mp i=>exact jj h
 |jv i a w j=>exact jj h
 |b9 i a w j=>exact jj h
 |da l=>exact jj h
 |fn f a c=>exact jj h
 |off=>exact jj h
theorem DG:∀{l:List a7} {k:List a7→Prop},z6 l k→∃u,k u∧bE bs u=ab.fD (bE bs l)
 |[],_,h=>⟨_,h,by simp only [bE,ab.fD]⟩
 |v::r,k,h=>by
  obtain ⟨aM,h⟩:=ec.1 h
  obtain ⟨hD,J,aF⟩:=uW bs aM h
  obtain ⟨gU,aa,az⟩:=DG J
  exact ⟨_,aa,by simp only [bE,ab.fD,aF,az]⟩
theorem Qt {v:a7} {k:a7→Prop} (h:Du v k):∃u,k u∧den bs u=(den bs v).plain:=by
 unfold Du at h
 split at h
 · obtain ⟨l',J,e⟩:=DG (bs:=bs) h
   exact ⟨_,J,by simp only [den,ab.plain,e]⟩
 · obtain ⟨aM,J⟩:=ec.1 h
   exact uW bs aM J
theorem Im (l cs:List a7) (off n:Nat):bE bs (x0 l cs off n)=(bE bs l).take off++bE bs cs++(bE bs l).drop (off+n):=by
 simp only [x0,mx,List.map_append,List.map_take,List.map_drop]
theorem Qu {z:Z} {v:Value} (h:sY v z=true):den bs z.sZ=iU v:=by
 unfold sY at h
 split at h
 · simp only [Bool.and_eq_true,decide_eq_true_eq] at h
   obtain ⟨rfl,rfl⟩:=h
   simp only [Z.sZ,den,ab.plain,iU]
 · simp only [decide_eq_true_eq] at h
   simp only [Z.sZ,den,ab.plain,iU,h]
 · rename_i b
   cases b
   · simp only [Z.sZ,den,bD.val,iU]
   · cases h
 all_goals first|(cases h;done)|simp only [Z.sZ,den,ab.plain,iU]
theorem x7:∀{l:List Value} {z:List Z},qE l z=true→bE bs (ka z)=l.map iU
 |[],[],_=>by simp only [ka,bE,List.map_nil]
 |v::r,z::s,h=>by
  simp only [qE,Bool.and_eq_true] at h
  simp only [ka,bE,List.map_cons,Qu h.1,x7 h.2]
 |[],_::_,h=>by cases h
 |_::_,[],h=>by cases h
theorem gM.hY {P:Program} {t:Nat} {i:hx} (ds:gM P t i) (ak:i.z≠[]):∃z,bg.hY P t=some z∧z.cells=bE bs (ka i.z)∧z.eH=true∧(ka i.z).length=i.n:=by
 obtain ⟨v,J,aa,aj,aG⟩:=ds.zero ak
 have av:∀z:List Z,(ka z).length=z.length:=fun z=>by
  induction z with
  |nil=>rfl
  |cons a r aO=>simp only [ka,List.length_cons,aO]
 refine ⟨jX v,by simp only [bg.hY,J,aa,if_true],?_,?_,by rw [av,aG]⟩
 · unfold uZ at aj
   split at aj
   · simp only [Bool.and_eq_true] at aj
     rw [x7 aj.2];rfl
   · rename_i bw
     simp only [Bool.and_eq_true] at aj
     have x8:(iU v).cells=[iU v]:=by
      unfold iU
      split<;>rfl
     have xz:jX v=iU v:=by
      cases v with
      |agg cs=>exact absurd rfl (bw cs)
      |iface t u=>
       cases oZ:i.z with
       |nil=>exact absurd oZ ak
       |cons a r=>rw [oZ] at aj;simp [qE,sY] at aj
      |_=>rfl
     rw [x7 aj.2,xz,x8]
     rfl
 · unfold uZ at aj
   split at aj
   · rfl
   · rename_i bw
     simp only [Bool.and_eq_true] at aj
     have aR:=aj.2
     cases oZ:i.z with
     |nil=>exact absurd oZ ak
     |cons a r=>
      rw [oZ] at aR
      simp only [qE,Bool.and_eq_true] at aR
      have bu:=aR.1
      unfold sY at bu
      split at bu<;>first|rfl|cases bu
end
end Go.cz
end
