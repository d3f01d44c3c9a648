/-
  The executor, part 2: what is known of types; the operations that only read.
-/
import Derived.Test.YtnahenbiipdlkaaGreatDoorWyA
section
namespace Go.bV
open Go Go.ba
inductive jf where
 |int (k:IntKind)
 |str
 |bool
 |bT (e:Nat)
 |st (cL:List (Nat×Nat))
 |mp (k e:Nat)
 |ptr
 |kQ
 |ET
inductive Z where
 |i (k:IntKind)
 |s
 |b
 |p
 |l
 |m
 |f
 |n
structure gS where
 k:jf
 n:Nat
 y:Nat
 z:List Z
abbrev hl:=List (Nat×gS)
def jf.hR:jf→Bool
 | .st _=>true
 |_=>false
def kindOk (P:Program) (d:TypeDesc):jf→Bool
 | .int k=>match d with| .int ea=>decide (k=ea)|_=>false
 | .str=>match d with| .string=>true|_=>false
 | .bool=>match d with| .bool=>true|_=>false
 | .bT e=>match d with| .slice cD=>Nat.beq e cD&&dS P e&&Nat.ble 1 (P.cellsOf e)&&k2 P e|_=>false
 | .st cL=>match d with| .struct dU=>decide (dU.toList.map (fun f=>(f.offset,f.type))=cL)&&dU.toList.all (fun f=>dS P f.type&&!(Nat.beq (P.cellsOf f.type) 0))|_=>false
 | .mp k e=>match d with| .map ea cD=>Nat.beq k ea&&Nat.beq e cD|_=>false
 | .ptr=>match d with| .pointer _=>true|_=>false
 | .kQ=>match d with| .interface _=>true|_=>false
 | .ET=>match d with| .interface _| .struct _| .array _ _=>false|_=>true
def q8:Value→Z→Bool
 | .int k n, .i ea=>decide (k=ea)&&decide (n=0)
 | .string s, .s=>decide (s.data.toList=[])
 | .bool b, .b=>!b
 | .pointer none, .p=>true
 | .slice none n c, .l=>Nat.beq n 0&&Nat.beq c 0
 | .map none, .m=>true
 | .nilFunc, .f=>true
 | .nilIface, .n=>true
 |_,_=>false
def ph:List Value→List Z→Bool
 |[],[]=>true
 |v::r,z::s=>q8 v z&&ph r s
 |_,_=>false
def sD (v:Value) (st:Bool) (z:List Z):Bool:=
 match v with
 | .agg cs=>st&&ph cs.toList z
 |v=>!st&&ph [v] z
def Z.q9:Z→aR
 | .i k=> .aH (.int k 0)
 | .s=> .aH (.str [])
 | .b=> .b (.lit false)
 | .p=> .aH .eM
 | .l=> .own []
 | .m=> .aH .iW
 | .f=> .aH .jF
 | .n=> .aH .nilIface
def jQ:List Z→List aR
 |[]=>[]
 |z::r=>z.q9::jQ r
def xi (P:Program) (t:Nat) (i:gS):Bool:=
 (match P.underlying t with|some d=>kindOk P d i.k&&(jW P t==i.k.hR)|none=>false)&&dS P t&&Nat.beq (P.cellsOf t) i.n&&Nat.beq (P.bytesOf t) i.y&&
 (match i.k with| .int _=>(P.info? t).map (·.comparable)==some true|_=>true)&&
 (match i.z with|[]=>true|z=>match (P.info? t).bind (·.zero) with|some v=>oj v&&sD v i.k.hR z&&Nat.beq z.length i.n|none=>false)
def eX (P:Program) (T:hl):Bool:=T.all fun p=>xi P p.1 p.2
def da:hl→Nat→(gS→Prop)→Prop
 |[],_,_=>False
 |(s,i)::r,t,k=>bif Nat.beq s t then k i else da r t k
section
variable {P:Program} {T:hl}
theorem Nf (h:eX P T=true) {t:Nat} {k:gS→Prop}:da T t k→∃i,xi P t i=true∧k i:=by
 induction T with
 |nil=>exact fun h=>h.elim
 |cons p r aQ=>
  obtain ⟨s,i⟩:=p
  simp only [eX,List.all_cons,Bool.and_eq_true] at h
  intro ak
  simp only [da] at ak
  cases ag:Nat.beq s t with
  |true=>
   rw [ag] at ak
   rw [Nat.eq_of_beq_eq_true ag] at h
   exact ⟨i,h.1,ak⟩
  |false=>
   rw [ag] at ak
   exact aQ h.2 ak
structure fX (P:Program) (t:Nat) (i:gS):Prop where
 u:∃d,P.underlying t=some d∧kindOk P d i.k=true
 sE:jW P t=i.k.hR
 is:dS P t=true
 cells:P.cellsOf t=i.n
 bytes:P.bytesOf t=i.y
 cmp:∀k,i.k= .int k→(P.info? t).map (·.comparable)=some true
 zero:i.z≠[]→∃v,(P.info? t).bind (·.zero)=some v∧oj v=true∧sD v i.k.hR i.z=true∧i.z.length=i.n
theorem fX.of {t:Nat} {i:gS} (h:xi P t i=true):fX P t i:=by
 simp only [xi,Bool.and_eq_true] at h
 obtain ⟨⟨⟨⟨⟨J,aa⟩,ai⟩,aJ⟩,bG⟩,aY⟩:=h
 cases bo:P.underlying t with
 |none=>rw [bo] at J;cases J
 |some d=>
  rw [bo] at J
  simp only [Bool.and_eq_true,beq_iff_eq] at J
  refine ⟨⟨d,bo,J.1⟩,J.2,aa,Nat.eq_of_beq_eq_true ai,Nat.eq_of_beq_eq_true aJ,fun k ak=>?_,fun ao=>?_⟩
  · rw [ak] at bG;simpa using bG
  · cases nR:i.z with
    |nil=>exact absurd nR ao
    |cons z r=>
     rw [nR] at aY
     simp only at aY
     cases ad:(P.info? t).bind (·.zero) with
     |none=>rw [ad] at aY;cases aY
     |some v=>
      rw [ad] at aY
      simp only [Bool.and_eq_true] at aY
      exact ⟨v,rfl,aY.1.1,aY.1.2,Nat.eq_of_beq_eq_true aY.2⟩
theorem fX.int {t:Nat} {i:gS} (h:fX P t i) {k:IntKind} (ak:i.k= .int k):P.underlying t=some (.int k):=by
 obtain ⟨d,J,aa⟩:=h.u
 rw [ak] at aa
 cases d<;>simp [kindOk] at aa
 rw [J,aa]
theorem fX.str {t:Nat} {i:gS} (h:fX P t i) (ak:i.k= .str):P.underlying t=some .string:=by
 obtain ⟨d,J,aa⟩:=h.u
 rw [ak] at aa
 cases d<;>simp [kindOk] at aa
 exact J
theorem fX.bool {t:Nat} {i:gS} (h:fX P t i) (ak:i.k= .bool):P.underlying t=some .bool:=by
 obtain ⟨d,J,aa⟩:=h.u
 rw [ak] at aa
 cases d<;>simp [kindOk] at aa
 exact J
theorem fX.bT {t:Nat} {i:gS} (h:fX P t i) {e:Nat} (ak:i.k= .bT e):P.underlying t=some (.slice e)∧dS P e=true∧0<P.cellsOf e∧k2 P e=true:=by
 obtain ⟨d,J,aa⟩:=h.u
 rw [ak] at aa
 cases d<;>simp [kindOk] at aa
 obtain ⟨⟨⟨ai,aJ⟩,aY⟩,bG⟩:=aa
 obtain rfl:=ai
 exact ⟨J,aJ,aY,bG⟩
theorem fX.st {t:Nat} {i:gS} (h:fX P t i) {cL:List (Nat×Nat)} (ak:i.k= .st cL):∃dU,P.underlying t=some (.struct dU)∧dU.toList.map (fun f=>(f.offset,f.type))=cL∧∀f∈dU.toList,dS P f.type=true∧P.cellsOf f.type≠0:=by
 obtain ⟨d,J,aa⟩:=h.u
 rw [ak] at aa
 cases d<;>simp only [kindOk] at aa<;>try (cases aa;done)
 simp only [Bool.and_eq_true,decide_eq_true_eq,List.all_eq_true,Bool.not_eq_true'] at aa
 refine ⟨_,J,aa.1,fun f aN=>⟨(aa.2 f aN).1,fun e=>?_⟩⟩
 have:=(aa.2 f aN).2
 rw [e] at this
 cases this
theorem fX.mp {t:Nat} {i:gS} (h:fX P t i) {k e:Nat} (ak:i.k= .mp k e):P.underlying t=some (.map k e):=by
 obtain ⟨d,J,aa⟩:=h.u
 rw [ak] at aa
 cases d<;>simp [kindOk] at aa
 rw [J,aa.1,aa.2]
theorem fX.kQ {t:Nat} {i:gS} (h:fX P t i) (ak:i.k= .kQ):∃ms,P.underlying t=some (.interface ms):=by
 obtain ⟨d,J,aa⟩:=h.u
 rw [ak] at aa
 cases d<;>simp [kindOk] at aa
 exact ⟨_,J⟩
theorem fX.ptr {t:Nat} {i:gS} (h:fX P t i) (ak:i.k= .ptr):∃ms,P.underlying t=some (.pointer ms):=by
 obtain ⟨d,J,aa⟩:=h.u
 rw [ak] at aa
 cases d<;>simp [kindOk] at aa
 exact ⟨_,J⟩
def jf.ra:jf→Bool
 | .kQ=>false
 |_=>true
theorem fX.ra {t:Nat} {i:gS} (h:fX P t i) (ak:i.k.ra=true):∃d,P.underlying t=some d∧∀ms,d≠ .interface ms:=by
 obtain ⟨d,J,aa⟩:=h.u
 refine ⟨d,J,fun ms e=>?_⟩
 subst e
 cases ad:i.k<;>rw [ad] at aa ak<;>simp [kindOk,jf.ra] at aa ak
end
def sF (w:Bool) (dk:IntKind) (r:Int) (k:aR→Prop):Prop:=
 match w,dk with
 |false, .i64=>(-9223372036854775808≤r∧r≤9223372036854775807)∧k (.aH (.int .i64 r))
 |_,dk=>k (.aH (.int dk (dk.wrap r)))
theorem xj {w:Bool} {dk:IntKind} {r:Int} {k:aR→Prop} (h:sF w dk r k):k (.aH (.int dk (dk.wrap r))):=by
 unfold sF at h
 split at h
 · rw [wrap64 _ h.1.1 h.1.2];exact h.2
 · exact h
def vd:IntKind→IntKind→Bool
 | .i64, .i64| .u8, .u8| .i8, .i8| .i16, .i16| .i32, .i32| .u16, .u16| .u32, .u32| .u64, .u64=>true
 |_,_=>false
theorem xk {a b:IntKind} (h:vd a b=true):a=b:=by cases a<;>cases b<;>first|rfl|cases h
def EU (w:Bool) (op:BinOp) (dk:IntKind) (a b:Int) (k:aR→Prop):Prop:=
 match op with
 | .add=>sF w dk (a+b) k
 | .sub=>sF w dk (a- b) k
 | .mul=>sF w dk (a*b) k
 | .quo=>b≠0∧k (.aH (.int dk (dk.wrap (a.tdiv b))))
 | .rem=>(b≠0∧dk.min≤a.tmod b∧a.tmod b≤dk.max)∧k (.aH (.int dk (a.tmod b)))
 | .and=>k (.aH (.int dk (dk.wrap (BitVec.ofInt dk.bits a &&& BitVec.ofInt dk.bits b).toNat)))
 | .or=>k (.aH (.int dk (dk.wrap (BitVec.ofInt dk.bits a ||| BitVec.ofInt dk.bits b).toNat)))
 | .xor=>k (.aH (.int dk (dk.wrap (BitVec.ofInt dk.bits a ^^^ BitVec.ofInt dk.bits b).toNat)))
 | .eql=>k (.b (.p5 a b))
 | .neq=>k (.b (.not (.p5 a b)))
 | .lss=>k (.b (.lt a b))
 | .leq=>k (.b (.le a b))
 | .gtr=>k (.b (.lt b a))
 | .geq=>k (.b (.le b a))
 |_=>False
def EV (op:BinOp) (dk:IntKind) (a b:Int) (k:aR→Prop):Prop:=
 match op with
 | .shl=>0≤b∧k (.aH (.int dk (dk.wrap (a*2^(min b.toNat dk.bits)))))
 | .shr=>(0≤b∧dk.min≤a.fdiv (2^(min b.toNat dk.bits))∧a.fdiv (2^(min b.toNat dk.bits))≤dk.max)∧k (.aH (.int dk (a.fdiv (2^(min b.toNat dk.bits)))))
 |_=>False
def EW:BinOp→Bool
 | .shl| .shr=>true
 |_=>false
def EX (op:BinOp) (a b:List UInt8) (k:aR→Prop):Prop:=
 match op with
 | .add=>a.length+b.length≤140737488355328∧k (.aH (.str (a++b)))
 | .eql=>k (.b (.eqs a b))
 | .neq=>k (.b (.not (.eqs a b)))
 | .lss=>k (.b (.raw (Op.bytesLess a b)))
 | .leq=>k (.b (.raw (Op.bytesLess a b||a==b)))
 | .gtr=>k (.b (.not (.raw (Op.bytesLess a b||a==b))))
 | .geq=>k (.b (.not (.raw (Op.bytesLess a b))))
 |_=>False
def ve (op:BinOp) (c:bD) (k:aR→Prop):Prop:=
 match op with
 | .eql=>k (.b c)
 | .neq=>k (.b (.not c))
 |_=>False
def rb (op:BinOp) (c:Bool) (k:aR→Prop):Prop:=
 match op with
 | .eql=>k (.b (.lit c))
 | .neq=>k (.b (.lit (!c)))
 |_=>False
def sG:Operand→Bool
 | .const _=>true
 |_=>false
def jf.vf:jf→Bool
 | .kQ=>true
 |_=>false
def jf.xl:jf→Bool
 | .ptr=>true
 |_=>false
def jf.isBool:jf→Bool
 | .bool=>true
 |_=>false
def Ap (T:hl) (w:Bool) (op:BinOp) (t:Nat) (Aq:Bool) (x y:aR) (k:aR→Prop):Prop:=
 match x,y with
 | .aH (.int dk a), .aH (.int pj b)=>
   match EW op with
   |true=>EV op dk a b k
   |false=>b5 (vd dk pj) (EU w op dk a b k)
 | .aH (.str a), .aH (.str b)=>EX op a b k
 | .b c, .b d=>da T t fun i=>b5 i.k.isBool (ve op (.xa c.val d.val) k)
 | .aH .nilIface, .aH .nilIface=>da T t fun i=>b5 i.k.vf (b5 Aq (rb op true k))
 | .aH (.err _ e), .aH .nilIface=>da T t fun i=>b5 i.k.vf (b5 Aq (ve op (.p5 e 0) k))
 | .aH (.opt b), .aH .nilIface=>da T t fun i=>b5 i.k.vf (b5 Aq (ve op (.not (.raw b)) k))
 | .aH (.iface _ _), .aH .nilIface=>da T t fun i=>b5 i.k.vf (rb op false k)
 | .aH (.err iv e), .aH (.iface u (.int dk c))=>da T t fun i=>b5 i.k.vf (da T iv fun j=>b5 (match j.k with| .int .i64=>true|_=>false) (b5 (Nat.beq iv u) (b5 (vd .i64 dk) (c≠0∧ve op (.p5 e c) k))))
 | .loc _ _, .aH .eM| .aH .eM, .loc _ _=>da T t fun i=>b5 i.k.xl (rb op false k)
 | .aH (.ref _), .aH .eM| .aH .eM, .aH (.ref _)=>da T t fun i=>b5 i.k.xl (rb op false k)
 | .aH (.ptr _), .aH .eM| .aH .eM, .aH (.ptr _)=>da T t fun i=>b5 i.k.xl (rb op false k)
 | .aH .eM, .aH .eM=>da T t fun i=>b5 i.k.xl (rb op true k)
 |_,_=>False
end Go.bV
end
section
namespace Go.bV
open Go Go.ba
structure Ar (l:List U) (n:Int) (Q:U→Prop):Prop where
 h:0≤n∧n<l.length
 q:Q (l.getD n.toNat .aS)
theorem ck {α:Type} [Inhabited α] {f:α→U} {xs:List α} {n:Int} {Q:U→Prop} (h:0≤n∧n<xs.length) (e7:Q (f (I xs n))):Ar (xs.map f) n Q:=
 ⟨by simpa using h,by rw [idx_eq f xs n h.1 h.2];exact e7⟩
theorem gj {α:Type} [Inhabited α] {f:α→U} (g:α→U) (e:∀a,f a=g a) {xs:List α} {n:Int} {Q:U→Prop} (h:0≤n∧n<xs.length) (e7:Q (g (I xs n))):Ar (xs.map f) n Q:=
 ck h (by rw [e];exact e7)
structure EY (l:List U) (Q:Int→Prop):Prop where
 q:Q l.length
theorem br {α:Type} {f:α→U} {xs:List α} {Q:Int→Prop} (e7:Q xs.length):EY (xs.map f) Q:=⟨by rw [List.length_map];exact e7⟩
structure EZ (w:Nat) (l:List U) (p:Int) (q:Option Int) (Q:List U→Prop):Prop where
 q:∃cY:Int,q.getD l.length=cY∧(0≤p∧p≤cY∧cY≤l.length∧∀x∈l,x.cells.length=w)∧Q ((l.drop p.toNat).take (cY- p).toNat)
theorem xm {α:Type} {f:α→U} {xs:List α} {w:Nat} {p q:Int} {Q:List U→Prop} (aN:∀a,(f a).cells.length=w) (h:0≤p∧p≤q∧q≤xs.length) (e7:Q ((sub xs p q).map f)):EZ w (xs.map f) p (some q) Q:=
 ⟨q,rfl,⟨h.1,h.2.1,by simpa using h.2.2,fun x aq=>by obtain ⟨a,_,rfl⟩:=List.mem_map.1 aq;exact aN a⟩,by rw [←List.map_drop,←List.map_take];exact e7⟩
structure E0 (l:List U) (Q:List UInt8→Prop):Prop where
 h:∀x∈l,∃k:Int,x= .int .u8 k
 q:Q (l.map ba.byteOf)
theorem Ng {xs:List UInt8} {Q:List UInt8→Prop} (e7:Q xs):E0 (xs.map oY) Q:=
 ⟨fun x aq=>by obtain ⟨a,_,rfl⟩:=List.mem_map.1 aq;exact ⟨_,rfl⟩,by rw [JW];exact e7⟩
def As (v:aR) (k:aR→Prop):Prop:=
 match v with
 | .loc i o=>k (.loc i o)
 | .hj i a w j=>k (.hj i a w j)
 | .aH (.ref l)=>k (.aH (.ref l))
 | .aH (.ptr p)=>k (.aH (.ptr p))
 | .fn f a c=>k (.fn f a c)
 | .aH (.func (.func f) b c)=>k (.aH (.func (.func f) b c))
 |_=>False
structure E1 (l:List U) (st:Bool) (n o:Nat) (Q:U→Prop):Prop where
 h:(bif st then o+n≤l.length else o<l.length)∧Q (bif st then U.agg ((l.drop o).take n) else l.getD o .aS)
def pk (L:List bu) (i:gS) (v:aR) (k:aR→Prop):Prop:=
 match v with
 | .aH (.ref l)=>
   match i.k.hR with
   |true=>b5 (Nat.ble i.n l.length) (xb (l.take i.n) (fun bC=>k (.aH (.agg bC))))
   |false=>
    match l with
    |y::_=>mZ y (fun oo=>u7 oo k)
    |[]=>False
 | .loc b off=>
   match nth L b with
   |some (.cells l)=>
    match i.k.hR with
    |true=>b5 (Nat.ble (off+i.n) l.length) (q5 ((l.drop off).take i.n) (fun bC=>k (.agg bC)))
    |false=>
     match nth l off with
     |some v=>u6 v k
     |none=>False
   |_=>False
 | .hj b n w j=>
   match nth L b with
   |some (.obj (.cells l))=>E1 l i.k.hR i.n (0+n.toNat*w+j) fun x=>sC x fun bX=>u7 bX k
   |_=>False
 |_=>False
def Au (o:Nat) (v:aR) (k:aR→Prop):Prop:=
 match v with
 | .loc b off=>k (.loc b (off+o))
 | .hj b n w j=>k (.hj b n w (j+o))
 | .aH (.ref l)=>b5 (Nat.ble (o+1) l.length) (fP (l.drop o) (fun bC=>k (.aH (.ref bC))))
 | .aH (.ptr ⟨b,off,none⟩)=>k (.aH (.ptr ⟨b,off+o,none⟩))
 |_=>False
def Av (o:Nat) (j:gS) (v:aR) (k:aR→Prop):Prop:=
 match v with
 | .agg l=>
   match j.k.hR with
   |true=>b5 (Nat.ble (o+j.n) l.length) (fP ((l.drop o).take j.n) (fun bC=>k (.agg bC)))
   |false=>
    match nth l o with
    |some u=>k u
    |none=>False
 | .aH (.agg l)=>
   match j.k.hR with
   |true=>b5 (Nat.ble (o+j.n) l.length) (fP ((l.drop o).take j.n) (fun bC=>k (.aH (.agg bC))))
   |false=>
    match nth l o with
    |some y=>mZ y (fun oo=>u7 oo k)
    |none=>False
 |_=>False
def vg (i:gS) (f:Nat) (k:Nat→Nat→Prop):Prop:=
 match i.k with
 | .st cL=>
   match nth cL f with
   |some (o,t)=>k o t
   |none=>False
 |_=>False
def jv (i:gS) (k:Nat→Prop):Prop:=
 match i.k with
 | .bT e=>k e
 |_=>False
def Aw (T:hl) (t:Nat) (v:aR) (n:aR) (k:aR→Prop):Prop:=
 match v,n with
 | .aH (.slice _ l), .aH (.int _ n)=>da T t fun i=>jv i fun e=>da T e fun j=>Ar l n fun x=>Ak x fun cs=>b5 (Nat.beq cs.length j.n) (k (.aH (.ref cs)))
 | .ms b len _, .aH (.int _ n)=>da T t fun i=>jv i fun e=>da T e fun j=>(0≤n∧n<len)∧k (.hj b n j.n 0)
 |_,_=>False
def jf.isStr:jf→Bool
 | .str=>true
 |_=>false
def Ax (T:hl) (t:Nat) (v:aR) (n:aR) (k:aR→Prop):Prop:=
 match v,n with
 | .aH (.str l), .aH (.int _ n)=>da T t fun i=>b5 i.k.isStr ((0≤n∧n<l.length)∧k (.aH (.int .u8 (I l n).toNat)))
 |_,_=>False
def sH (v:aR) (n:Nat) (k:aR→Prop):Prop:=
 match v with
 | .dw l=>
   match nth l n with
   |some u=>b5 (pg u) (p6 u k)
   |none=>False
 | .aH (.tuple l)=>
   match nth l n with
   |some y=>sC y (fun oo=>u7 oo k)
   |none=>False
 |_=>False
def xn (fr:bJ) (x:Option Operand) (k:Option Int→Prop):Prop:=
 match x with
 |none=>k none
 |some y=>eD fr y fun v=>
  match v with
  | .aH (.int _ n)=>k (some n)
  |_=>False
def Ay (T:hl) (t:Nat) (v:aR) (p:Int) (q:Option Int) (k:aR→Prop):Prop:=
 match v with
 | .aH (.str l)=>da T t fun i=>b5 i.k.isStr (
   match q with
   |some q=>(0≤p∧p≤q∧q≤l.length)∧k (.aH (.str (sub l p q)))
   |none=>(0≤p∧p≤l.length)∧k (.aH (.str (sub l p l.length))))
 | .aH (.slice _ l)=>da T t fun i=>jv i fun e=>da T e fun j=>EZ j.n l p q fun bC=>k (.aH (.slice false bC))
 | .ms b n c=>da T t fun i=>jv i fun e=>da T e fun j=>(0≤p∧p≤q.getD n∧q.getD n≤n)∧(p<c→k (.bT b (0+p.toNat*j.n) (q.getD n- p).toNat (c- p.toNat)))∧(c≤p→k (.aH .fL))
 |_=>False
def Az (a b:IntKind) (n:Int) (k:aR→Prop):Prop:=
 match a,b with
 | .i64, .i64=>(-9223372036854775808≤n∧n≤9223372036854775807)∧k (.aH (.int .i64 n))
 | .u8, .i64=>(-9223372036854775808≤n∧n≤9223372036854775807)∧k (.aH (.int .i64 n))
 |_, .u8=>k (.aH (.int .u8 (qZ n).toNat))
 |_,b=>k (.aH (.int b (b.wrap n)))
def AA (T:hl) (s d:Nat) (v:aR) (k:aR→Prop):Prop:=
 match v with
 | .aH (.int dk n)=>da T s fun _=>da T d fun j=>
   match j.k with
   | .int pj=>Az dk pj n k
   |_=>False
 | .aH (.str l)=>da T s fun _=>da T d fun j=>b5 j.k.isStr (k (.aH (.str l)))
 | .aH (.slice _ l)=>da T s fun i=>da T d fun j=>b5 j.k.isStr (jv i fun e=>da T e fun h=>b5 (match h.k with| .int .u8=>true|_=>false) (E0 l fun x=>k (.aH (.str x))))
 |_=>False
def AB (T:hl) (t:Nat) (v:aR) (k:aR→Prop):Prop:=
 match v with
 | .aH (.iface u x)=>da T t fun i=>b5 i.k.ra (b5 (Nat.beq u t) (mZ x fun bX=>k (.dw [.aH bX, .b (.lit true)])))
 | .aH (.err u e)=>da T t fun i=>b5 (match i.k,i.z with| .int .i64,[.i .i64]=>true|_,_=>false) (b5 (Nat.beq u t) (k (.dw [.aH (.int .i64 e), .b (.not (.p5 e 0))])))
 |_=>False
def xo (T:hl) (t:Nat) (v:aR) (k:aR→Prop):Prop:=
 match v with
 | .aH x=>da T t fun i=>b5 i.k.ra (sC x fun bX=>k (.aH (.iface t bX)))
 |_=>False
def jf.AD:jf→Bool
 | .mp _ _=>true
 |_=>false
def jf.wG:jf→Bool
 | .bT _=>true
 |_=>false
def AE (T:hl) (L:List bu) (t:Nat) (v:aR) (k:aR→Prop):Prop:=
 match v with
 | .aH (.str l)=>da T t fun i=>b5 i.k.isStr (k (.aH (.int .i64 l.length)))
 | .aH (.slice _ l)=>da T t fun i=>b5 i.k.wG (EY l fun n=>k (.aH (.int .i64 n)))
 | .ms _ n _=>da T t fun i=>b5 i.k.wG (n≤9223372036854775807∧k (.aH (.int .i64 n)))
 | .aH .iW=>da T t fun i=>b5 i.k.AD (k (.aH (.int .i64 0)))
 | .mp b=>da T t fun i=>b5 i.k.AD (
   match nth L b with
   |some (.obj (.map l))=>∃n:Nat,l.length=n∧k (.aH (.int .i64 n))
   |_=>False)
 |_=>False
def AF (w:Bool) (op:UnOp) (v:aR) (k:aR→Prop):Prop:=
 match op,v with
 | .not, .b (.lit c)=>k (.b (.lit (!c)))
 | .not, .b (.not c)=>k (.b c)
 | .not, .b c=>k (.b (.not c))
 | .neg, .aH (.int dk n)=>sF w dk (-n) k
 |_,_=>False
def sI (T:hl) (w:Bool) (fr:bJ) (L:List bu) (op:Op) (k:aR→Prop):Prop:=
 match op with
 | .move x=>eD fr x k
 | .assign x=>eD fr x k
 | .load t x=>eD fr x fun v=>da T t fun i=>pk L i v k
 | .nilCheck x=>eD fr x fun v=>As v k
 | .binOp op t x y _=>eD fr x fun a=>eD fr y fun b=>Ap T w op t (sG x||sG y) a b k
 | .unOp op _ x=>eD fr x fun a=>AF w op a k
 | .convert s d x=>eD fr x fun a=>AA T s d a k
 | .makeInterface t x=>eD fr x fun a=>xo T t a k
 | .fieldAddr s x f=>eD fr x fun a=>da T s fun i=>vg i f fun o _=>Au o a k
 | .field s x f=>eD fr x fun a=>da T s fun i=>vg i f fun o t=>da T t fun j=>Av o j a k
 | .indexAddr t x i=>eD fr x fun a=>eD fr i fun n=>Aw T t a n k
 | .index t x i=>eD fr x fun a=>eD fr i fun n=>Ax T t a n k
 | .extract (.tmp x) n=>jP fr x fun a=>sH a n k
 | .slice t x bw ad none=>eD fr x fun a=>xn fr bw fun p=>xn fr ad fun q=>Ay T t a (p.getD 0) q k
 | .typeAssert x _ t true=>eD fr x fun a=>AB T t a k
 | .call ⟨.builtin .len,args,cT⟩=>
   match args.toList,cT.toList with
   |[x],[t]=>eD fr x fun a=>AE T L t a k
   |_,_=>False
 | .call ⟨.builtin .max,args,_⟩=>
   match args.toList with
   |[x,y]=>eD fr x fun a=>eD fr y fun b=>
    match a,b with
    | .aH (.int dk p), .aH (.int pj q)=>b5 (vd dk pj) (k (.aH (.int dk (if q>p then q else p))))
    |_,_=>False
   |_=>False
 | .call ⟨.builtin .min,args,_⟩=>
   match args.toList with
   |[x,y]=>eD fr x fun a=>eD fr y fun b=>
    match a,b with
    | .aH (.int dk p), .aH (.int pj q)=>b5 (vd dk pj) (k (.aH (.int dk (if q<p then q else p))))
    |_,_=>False
   |_=>False
 |_=>False
section
variable {P:Program} {T:hl} {bs:List Nat} {fr:bJ} {L:List bu} {m:ae}
theorem dT (aV:eX P T=true) {t:Nat} {k:gS→Prop} (h:da T t k):∃i,fX P t i∧k i:=by
 obtain ⟨i,J,aa⟩:=Nf aV h
 exact ⟨i,fX.of J,aa⟩
theorem xp {op:BinOp} {c:bD} {k:aR→Prop} (h:ve op c k):(op= .eql∧k (.b c))∨(op= .neq∧k (.b (.not c))):=by
 cases op<;>first|exact .inl ⟨rfl,h⟩|exact .inr ⟨rfl,h⟩|exact h.elim
theorem AG {op:BinOp} {c:Bool} {k:aR→Prop} (h:rb op c k):(op= .eql∧k (.b (.lit c)))∨(op= .neq∧k (.b (.lit (!c)))):=by
 cases op<;>first|exact .inl ⟨rfl,h⟩|exact .inr ⟨rfl,h⟩|exact h.elim
theorem iz {bs:List Nat} {o:Option (Prop×U)} {side:Prop} {u:aR} {k:aR→Prop} (ak:k u) (aO:o=some (side,den bs u)) (al:side):∃side z u,o=some (side,z)∧side∧z=den bs u∧k u:=⟨_,_,_,aO,al,rfl,ak⟩
theorem sJ {x y:Operand}:(sG x||sG y)=true→((x matches .const _)||(y matches .const _))=true:=by
 intro h
 cases x<;>cases y<;>first|rfl|cases h
set_option maxHeartbeats 2000000 in
theorem Nh (aV:eX P T=true) {w:Bool} {op:BinOp} {t:Nat} {x y:Operand} {a b:aR} {k:aR→Prop} (h:Ap T w op t (sG x||sG y) a b k):
 ∃side z u,ma P op t x y (den bs a) (den bs b)=some (side,z)∧side∧z=den bs u∧k u:=by
 unfold Ap at h
 split at h
 ·
  rename_i dk a pj b
  split at h
  · cases op<;>simp only [EV,EW] at*<;>first|exact h.elim|(cases ‹false=true›;done)|skip
    · exact iz h.2 rfl h.1
    · exact iz h.2 rfl h.1
  · obtain ⟨e,aa⟩:=dN.1 h
    obtain rfl:=xk e
    clear h e
    cases op<;>simp only [EU] at aa<;>first|exact aa.elim|skip
    · exact iz (xj aa) (by simp only [ma,nE,den,U.plain,if_true,bD.val]) True.intro
    · exact iz (xj aa) (by simp only [ma,nE,den,U.plain,if_true,bD.val]) True.intro
    · exact iz (xj aa) (by simp only [ma,nE,den,U.plain,if_true,bD.val]) True.intro
    · exact iz aa.2 (by simp only [ma,nE,den,U.plain,if_true,bD.val]) aa.1
    · exact iz aa.2 (by simp only [ma,nE,den,U.plain,if_true,bD.val]) aa.1
    all_goals exact iz aa (by simp only [ma,nE,den,U.plain,if_true,bD.val]) True.intro
 · cases op<;>simp only [EX] at h<;>first|exact h.elim|skip
   · exact iz h.2 (by simp only [ma,nE,den,U.plain,if_true,bD.val]) h.1
   all_goals exact iz h (by simp only [ma,nE,den,U.plain,if_true,bD.val]) True.intro
 · obtain ⟨i,cO,h⟩:=dT aV h
   obtain ⟨e,h⟩:=dN.1 h
   have ak:i.k= .bool:=by cases ad:i.k<;>rw [ad] at e<;>first|rfl|cases e
   rcases xp h with ⟨rfl,h⟩|⟨rfl,h⟩
   · exact iz h rfl (cO.bool ak)
   · exact iz h rfl (cO.bool ak)
 all_goals try exact h.elim
 all_goals
  obtain ⟨i,cO,h⟩:=dT aV h
  obtain ⟨e,h⟩:=dN.1 h
 · have ak:i.k= .kQ:=by cases ad:i.k<;>rw [ad] at e<;>first|rfl|cases e
   obtain ⟨ms,hu⟩:=cO.kQ ak
   obtain ⟨aC,h⟩:=dN.1 h
   rcases AG h with ⟨rfl,h⟩|⟨rfl,h⟩
   · exact iz h rfl ⟨by rw [hu],sJ aC⟩
   · exact iz h rfl ⟨by rw [hu],sJ aC⟩
 · have ak:i.k= .kQ:=by cases ad:i.k<;>rw [ad] at e<;>first|rfl|cases e
   obtain ⟨ms,hu⟩:=cO.kQ ak
   obtain ⟨aC,h⟩:=dN.1 h
   rcases xp h with ⟨rfl,h⟩|⟨rfl,h⟩
   · exact iz h rfl ⟨by rw [hu],sJ aC⟩
   · exact iz h rfl ⟨by rw [hu],sJ aC⟩
 · have ak:i.k= .kQ:=by cases ad:i.k<;>rw [ad] at e<;>first|rfl|cases e
   obtain ⟨ms,hu⟩:=cO.kQ ak
   obtain ⟨aC,h⟩:=dN.1 h
   rcases xp h with ⟨rfl,h⟩|⟨rfl,h⟩
   · exact iz h rfl ⟨by rw [hu],sJ aC⟩
   · exact ⟨_,_,_,(rfl:ma P .neq t x y (den bs (.aH (.opt _))) (den bs (.aH .nilIface))=some (_, .bool _)),⟨by rw [hu],sJ aC⟩,by simp only [den,bD.val,Bool.not_not],h⟩
 · have ak:i.k= .kQ:=by cases ad:i.k<;>rw [ad] at e<;>first|rfl|cases e
   obtain ⟨ms,hu⟩:=cO.kQ ak
   rcases AG h with ⟨rfl,h⟩|⟨rfl,h⟩
   · exact iz h rfl (by rw [hu])
   · exact iz h rfl (by rw [hu])
 · have ak:i.k= .kQ:=by cases ad:i.k<;>rw [ad] at e<;>first|rfl|cases e
   obtain ⟨ms,hu⟩:=cO.kQ ak
   obtain ⟨j,e8,h⟩:=dT aV h
   obtain ⟨aC,h⟩:=dN.1 h
   obtain ⟨c8,h⟩:=dN.1 h
   obtain ⟨fQ,aY⟩:=dN.1 h
   have aA:j.k= .int .i64:=by
    split at aC
    · assumption
    · cases aC
   obtain rfl:=Nat.eq_of_beq_eq_true c8
   obtain rfl:=xk fQ
   rcases xp aY.2 with ⟨rfl,cp⟩|⟨rfl,cp⟩
   · exact iz cp rfl ⟨by rw [hu],rfl,e8.int aA,e8.cmp _ aA,rfl,aY.1⟩
   · exact iz cp rfl ⟨by rw [hu],rfl,e8.int aA,e8.cmp _ aA,rfl,aY.1⟩
 all_goals
  have ak:i.k= .ptr:=by cases ad:i.k<;>rw [ad] at e<;>first|rfl|cases e
  obtain ⟨ms,hu⟩:=cO.ptr ak
  rcases AG h with ⟨rfl,h⟩|⟨rfl,h⟩
  · exact iz h rfl (by rw [hu])
  · exact iz h rfl (by rw [hu])
end
end Go.bV
end
section
namespace Go.bV
open Go Go.ba
section
variable {P:Program} {T:hl} {bs:List Nat} {fr:bJ} {L:List bu} {m:ae} {k:aR→Prop}
def dC (o:Option (Prop×U)) (bs:List Nat) (k:aR→Prop):Prop:=∃side z u,o=some (side,z)∧side∧z=den bs u∧k u
theorem dC.mk {o:Option (Prop×U)} {side:Prop} {z:U} {u:aR} (ak:k u) (aO:o=some (side,z)) (al:side) (ao:z=den bs u):dC o bs k:=⟨_,_,_,aO,al,ao,ak⟩
theorem AH (l:List aR) (n:Nat):bm bs (l.drop n)=(bm bs l).drop n:=by rw [lJ,lJ,List.map_drop]
theorem AI (l:List aR) (n:Nat):bm bs (l.take n)=(bm bs l).take n:=by rw [lJ,lJ,List.map_take]
theorem qa {l:List aR} {n:Nat} {v:aR} (h:nth l n=some v):(bm bs l).getD n .aS=den bs v∧n<(bm bs l).length:=by
 rw [ig] at h
 have cl:n<l.length:=by
  rcases Nat.lt_or_ge n l.length with cp|cp
  · exact cp
  · rw [List.getElem?_eq_none cp] at h;cases h
 rw [lJ]
 exact ⟨by rw [List.getD_eq_getElem?_getD,List.getElem?_map,h];rfl,by simpa using cl⟩
theorem E2 {l:List U} {n:Nat} {v:U} (h:nth l n=some v):l.getD n .aS=v∧n<l.length:=by
 rw [ig] at h
 have cl:n<l.length:=by
  rcases Nat.lt_or_ge n l.length with cp|cp
  · exact cp
  · rw [List.getElem?_eq_none cp] at h;cases h
 exact ⟨by rw [List.getD_eq_getElem?_getD,h];rfl,cl⟩
theorem Ni (l:List U) (n:Nat):U.eU (l.take n)=(U.eU l).take n:=by rw [U.h0,U.h0,List.map_take]
theorem Nj (l:List U) (n:Nat):U.eU (l.drop n)=(U.eU l).drop n:=by rw [U.h0,U.h0,List.map_drop]
theorem vh (l:List U):(U.eU l).length=l.length:=by rw [U.h0,List.length_map]
theorem sK {t:Nat} {i:gS} (cO:fX P t i) (h:i.k.hR=true) (l:List U) (off:Nat):apart P t l off= .agg ((l.drop off).take i.n):=by
 rw [apart,cO.sE,h,cO.cells];rfl
theorem sL {t:Nat} {i:gS} (cO:fX P t i) (h:i.k.hR=false) (l:List U) (off:Nat):apart P t l off=l.getD off .aS:=by
 rw [apart,cO.sE,h];rfl
theorem sM {t:Nat} {i:gS} (cO:fX P t i) (h:i.k.hR=true) {l:List U} {off:Nat} (av:off+i.n≤l.length):jJ P t l off:=
 Ml cO.is (cO.sE.trans h) (by rw [cO.cells];exact av)
theorem sN {t:Nat} {i:gS} (cO:fX P t i) (h:i.k.hR=false) {l:List U} {off:Nat} (av:off<l.length):jJ P t l off:=
 Em cO.is (cO.sE.trans h) av
theorem E3 {t:Nat} {i:gS} (cO:fX P t i) (g:Good bs L m) {v:aR} (h:pk L i v k) {a:Operand→U} {x:Operand} (e:den bs v=a x):dC (bO P (bH bs L m) a (.load t x)) bs k:=by
 unfold pk at h
 split at h
 · rename_i l
   have aM:a x= .ref l:=by rw [←e];simp only [den,U.plain]
   have aO:bO P (bH bs L m) a (.load t x)=some (jJ P t l 0,apart P t l 0):=by simp only [bO,aM]
   cases db:i.k.hR with
   |true=>
    rw [db] at h
    obtain ⟨ag,h⟩:=dN.1 h
    obtain ⟨aU,h⟩:=Aj h
    exact dC.mk h aO (sM cO db (by have:=Nat.le_of_ble_eq_true ag;omega)) (by rw [sK cO db];simp only [den,U.plain,aU,List.drop_zero])
   |false=>
    rw [db] at h
    cases l with
    |nil=>exact h.elim
    |cons y r=>
     obtain ⟨aU,h⟩:=oB h
     rw [xd] at h
     exact dC.mk h aO (sN cO db (by simp)) (by rw [sL cO db,p8,aU];simp only [List.getD_cons_zero])
 · rename_i b off
   split at h
   · rename_i l aL
     rw [ig] at aL
     have aM:a x= .ptr ⟨bs.getD b 0,off,none⟩:=by rw [←e];simp only [den]
     have hm:=kp g aL
     have aO:bO P (bH bs L m) a (.load t x)=some (jJ P t (bm bs l) off,(apart P t (bm bs l) off).plain):=by simp only [bO,aM,hm,dV]
     cases db:i.k.hR with
     |true=>
      rw [db] at h
      obtain ⟨ag,h⟩:=dN.1 h
      obtain ⟨u,h,hu⟩:=sA bs h
      exact dC.mk h aO (sM cO db (by rw [ju];exact Nat.le_of_ble_eq_true ag)) (by rw [sK cO db];simp only [den,U.plain,hu,AI,AH])
     |false=>
      rw [db] at h
      simp only at h
      split at h
      · rename_i v bn
        obtain ⟨u,h,hu⟩:=mY bs h
        obtain ⟨aC,cl⟩:=qa (bs:=bs) bn
        exact dC.mk h aO (sN cO db cl) (by rw [sL cO db,aC,hu])
      · exact h.elim
   · exact h.elim
 · rename_i b n w j
   split at h
   · rename_i l aL
     rw [ig] at aL
     have aM:a x= .ptr ⟨bs.getD b 0,0+n.toNat*w+j,none⟩:=by rw [←e];simp only [den]
     have hm:=kp g aL
     have aO:bO P (bH bs L m) a (.load t x)=some (jJ P t l (0+n.toNat*w+j),(apart P t l (0+n.toNat*w+j)).plain):=by simp only [bO,aM,hm,dV]
     obtain ⟨J,h⟩:=h
     obtain ⟨aU,h⟩:=xc h
     rw [xd] at h
     cases db:i.k.hR with
     |true=>
      rw [db] at J h aU
      exact dC.mk h aO (sM cO db J) (by rw [sK cO db,p8];rfl)
     |false=>
      rw [db] at J h aU
      exact dC.mk h aO (sN cO db J) (by rw [sL cO db,p8];rfl)
   · exact h.elim
 · exact h.elim
theorem Nk {v:aR} (h:As v k) {a:Operand→U} {x:Operand} (e:den bs v=a x):dC (bO P (bH bs L m) a (.nilCheck x)) bs k:=by
 unfold As at h
 split at h
 all_goals first|exact h.elim|exact dC.mk h (by simp only [bO,←e,den,U.plain]<;>rfl) trivial (by simp only [den,U.plain])
theorem Nl {w:Bool} {op:UnOp} {t:Nat} {v:aR} (h:AF w op v k) {a:Operand→U} {x:Operand} (e:den bs v=a x):dC (bO P (bH bs L m) a (.unOp op t x)) bs k:=by
 unfold AF at h
 split at h
 · exact dC.mk h (by simp only [bO,←e,den,bD.val]<;>rfl) trivial (by simp only [den,bD.val])
 · exact dC.mk h (by simp only [bO,←e,den,bD.val]<;>rfl) trivial (by simp only [den,bD.val,Bool.not_not])
 · exact dC.mk h (by simp only [bO,←e,den,bD.val]<;>rfl) trivial (by simp only [den,bD.val])
 · exact dC.mk (xj h) (by simp only [bO,←e,den,U.plain]<;>rfl) trivial (by simp only [den,U.plain,Int.zero_sub])
 · exact h.elim
theorem Nn (n:Int):(qZ n).toNat=IntKind.u8.wrap n:=Es n
theorem No {a b:IntKind} {n:Int} (h:Az a b n k):∃z,k (.aH (.int b z))∧z=b.wrap n:=by
 unfold Az at h
 split at h
 · exact ⟨_,h.2,(wrap64 _ h.1.1 h.1.2).symm⟩
 · exact ⟨_,h.2,(wrap64 _ h.1.1 h.1.2).symm⟩
 · exact ⟨_,h,Nn n⟩
 · exact ⟨_,h,rfl⟩
theorem Np (aV:eX P T=true) {s d:Nat} {v:aR} (h:AA T s d v k) {a:Operand→U} {x:Operand} (e:den bs v=a x):dC (bO P (bH bs L m) a (.convert s d x)) bs k:=by
 unfold AA at h
 split at h
 · obtain ⟨i,cT,h⟩:=dT aV h
   obtain ⟨j,vi,h⟩:=dT aV h
   split at h
   · rename_i pj ak
     obtain ⟨z,h,ao⟩:=No h
     exact dC.mk h (by simp only [bO,vi.int ak,←e,den,U.plain];rfl) cT.is (by simp only [den,U.plain,ao])
   · exact h.elim
 · obtain ⟨i,cT,h⟩:=dT aV h
   obtain ⟨j,vi,h⟩:=dT aV h
   obtain ⟨ak,h⟩:=dN.1 h
   have er:j.k= .str:=by cases aA:j.k<;>rw [aA] at ak<;>first|rfl|cases ak
   exact dC.mk h (by simp only [bO,vi.str er,←e,den,U.plain];rfl) cT.is (by simp only [den,U.plain])
 · obtain ⟨i,cT,h⟩:=dT aV h
   obtain ⟨j,vi,h⟩:=dT aV h
   obtain ⟨ak,h⟩:=dN.1 h
   have er:j.k= .str:=by cases aA:j.k<;>rw [aA] at ak<;>first|rfl|cases ak
   unfold jv at h
   split at h
   · rename_i gk js
     obtain ⟨q,E4,h⟩:=dT aV h
     obtain ⟨aO,h⟩:=dN.1 h
     have kg:q.k= .int .u8:=by
      split at aO
      · assumption
      · cases aO
     refine dC.mk h.2 (by simp only [bO,vi.str er,←e,den,U.plain];rfl) ?_ ?_
     · exact ⟨gk,(cT.bT js).1,E4.int kg,h.1⟩
     · simp only [den,U.plain]
   · exact h.elim
 · exact h.elim
theorem E5 (aV:eX P T=true) {t:Nat} {v:aR} (h:xo T t v k) {a:Operand→U} {x:Operand} (e:den bs v=a x):dC (bO P (bH bs L m) a (.makeInterface t x)) bs k:=by
 unfold xo at h
 split at h
 · rename_i y
   obtain ⟨i,cO,h⟩:=dT aV h
   obtain ⟨ak,h⟩:=dN.1 h
   obtain ⟨aU,h⟩:=xc h
   obtain ⟨d,bo,vj⟩:=cO.ra ak
   refine dC.mk (side:=True) (z:= .iface t (a x)) h ?_ trivial (by rw [←e];simp only [den,U.plain,aU])
   cases d<;>first|exact absurd rfl (vj _)|simp only [bO,bo]
 · exact h.elim
theorem AJ {t:Nat} {i:gS} (cO:fX P t i) {f:Nat} {k:Nat→Nat→Prop} (h:vg i f k):∃dU fd,P.underlying t=some (.struct dU)∧dU[f]?=some fd∧dS P fd.type=true∧P.cellsOf fd.type≠0∧k fd.offset fd.type:=by
 unfold vg at h
 split at h
 · rename_i cL ak
   obtain ⟨dU,J,aa,ai⟩:=cO.st ak
   split at h
   · rename_i o ty aI
     rw [ig,←aa,List.getElem?_map] at aI
     cases aN:dU.toList[f]? with
     |none=>rw [aN] at aI;cases aI
     |some fd=>
      rw [aN] at aI
      simp only [Option.map_some,Option.some.injEq,Prod.mk.injEq] at aI
      obtain ⟨rfl,rfl⟩:=aI
      have hm:fd∈dU.toList:=List.mem_of_getElem? aN
      exact ⟨dU,fd,J,by simpa using aN,(ai _ hm).1,(ai _ hm).2,h⟩
   · exact h.elim
 · exact h.elim
theorem Nq {t f:Nat} {dU:Array Field} {fd:Field} (hu:P.underlying t=some (.struct dU)) (aN:dU[f]?=some fd) (J:dS P fd.type=true) (aa:P.cellsOf fd.type≠0) {v:aR} (h:Au fd.offset v k)
 {a:Operand→U} {x:Operand} (e:den bs v=a x):dC (bO P (bH bs L m) a (.fieldAddr t x f)) bs k:=by
 unfold Au at h
 split at h
 · refine dC.mk h (by simp only [bO,hu,aN,←e,den]<;>rfl) ?_ ?_
   · exact ⟨J,aa⟩
   · simp only [den]
 · refine dC.mk h (by simp only [bO,hu,aN,←e,den]<;>rfl) ?_ ?_
   · exact ⟨J,aa⟩
   · simp only [den,Nat.add_assoc]
 · obtain ⟨ag,h⟩:=dN.1 h
   rw [gJ] at h
   refine dC.mk h (by simp only [bO,hu,aN,←e,den,U.plain]<;>rfl) ?_ ?_
   · exact ⟨J,aa,Nat.le_of_ble_eq_true ag⟩
   · simp only [den,U.plain]
 · refine dC.mk h (by simp only [bO,hu,aN,←e,den,U.plain]<;>rfl) ?_ ?_
   · exact ⟨J,aa⟩
   · simp only [den,U.plain]
 · exact h.elim
theorem Nr {t f:Nat} {dU:Array Field} {fd:Field} (hu:P.underlying t=some (.struct dU)) (aN:dU[f]?=some fd) {j:gS} (cO:fX P fd.type j) {v:aR} (h:Av fd.offset j v k)
 {a:Operand→U} {x:Operand} (e:den bs v=a x):dC (bO P (bH bs L m) a (.field t x f)) bs k:=by
 unfold Av at h
 split at h
 · rename_i l
   have aO:bO P (bH bs L m) a (.field t x f)=some (jJ P fd.type (bm bs l) fd.offset,apart P fd.type (bm bs l) fd.offset):=by simp only [bO,hu,aN,←e,den]
   cases db:j.k.hR with
   |true=>
    rw [db] at h
    obtain ⟨ag,h⟩:=dN.1 h
    rw [gJ] at h
    exact dC.mk h aO (sM cO db (by rw [ju];exact Nat.le_of_ble_eq_true ag)) (by rw [sK cO db];simp only [den,AI,AH])
   |false=>
    rw [db] at h
    simp only at h
    split at h
    · rename_i u zG
      obtain ⟨aC,cl⟩:=qa (bs:=bs) zG
      exact dC.mk h aO (sN cO db cl) (by rw [sL cO db,aC])
    · exact h.elim
 · rename_i l
   have aO:bO P (bH bs L m) a (.field t x f)=some (jJ P fd.type (U.eU l) fd.offset,apart P fd.type (U.eU l) fd.offset):=by simp only [bO,hu,aN,←e,den,U.plain]
   cases db:j.k.hR with
   |true=>
    rw [db] at h
    obtain ⟨ag,h⟩:=dN.1 h
    rw [gJ] at h
    exact dC.mk h aO (sM cO db (by rw [vh];exact Nat.le_of_ble_eq_true ag)) (by rw [sK cO db];simp only [den,U.plain,Ni,Nj])
   |false=>
    rw [db] at h
    simp only at h
    split at h
    · rename_i y aK
      obtain ⟨aU,h⟩:=oB h
      rw [xd] at h
      obtain ⟨aC,cl⟩:=E2 aK
      exact dC.mk h aO (sN cO db (by rw [vh];exact cl)) (by rw [sL cO db,mJ,aC,p8])
    · exact h.elim
 · exact h.elim
theorem Ns (aV:eX P T=true) {t:Nat} {v n:aR} (h:Aw T t v n k) {a:Operand→U} {x y:Operand} (e:den bs v=a x) (aC:den bs n=a y):dC (bO P (bH bs L m) a (.indexAddr t x y)) bs k:=by
 unfold Aw at h
 split at h
 · rename_i o l dk cm
   obtain ⟨i,dp,h⟩:=dT aV h
   unfold jv at h
   split at h
   · rename_i gk js
     obtain ⟨j,e8,h⟩:=dT aV h
     obtain ⟨ad,h⟩:=h
     have h:=Nc h
     obtain ⟨ag,h⟩:=dN.1 h
     obtain ⟨J,aa,ai,aJ⟩:=dp.bT js
     refine dC.mk h (by simp only [bO,J,←e,←aC,den,U.plain];rfl) ?_ ?_
     · exact ⟨aa,by omega,ad.1,ad.2,by rw [e8.cells];exact Nat.eq_of_beq_eq_true ag⟩
     · simp only [den,U.plain]
   · exact h.elim
 · rename_i b len cap dk cm
   obtain ⟨i,dp,h⟩:=dT aV h
   unfold jv at h
   split at h
   · rename_i gk js
     obtain ⟨j,e8,h⟩:=dT aV h
     obtain ⟨J,aa,ai,aJ⟩:=dp.bT js
     refine dC.mk h.2 (by simp only [bO,J,←e,←aC,den,U.plain];rfl) ?_ ?_
     · exact ⟨aa,h.1⟩
     · simp only [den,e8.cells,Nat.add_zero]
   · exact h.elim
 · exact h.elim
theorem Nt (aV:eX P T=true) {t:Nat} {v n:aR} (h:Ax T t v n k) {a:Operand→U} {x y:Operand} (e:den bs v=a x) (aC:den bs n=a y):dC (bO P (bH bs L m) a (.index t x y)) bs k:=by
 unfold Ax at h
 split at h
 · obtain ⟨i,dp,h⟩:=dT aV h
   obtain ⟨ak,h⟩:=dN.1 h
   have er:i.k= .str:=by cases aA:i.k<;>rw [aA] at ak<;>first|rfl|cases ak
   exact dC.mk h.2 (by simp only [bO,dp.str er,←e,←aC,den,U.plain];rfl) h.1 (by simp only [den,U.plain,I];rfl)
 · exact h.elim
theorem E6 {n:Nat} {v:aR} (h:sH v n k) {a:Operand→U} {x:Operand} (e:(den bs v).plain=a x):dC (bO P (bH bs L m) a (.extract x n)) bs k:=by
 unfold sH at h
 split at h
 · rename_i l
   split at h
   · rename_i u hu
     obtain ⟨aI,h⟩:=dN.1 h
     obtain ⟨w,h,hw⟩:=sB bs aI h
     obtain ⟨aC,cl⟩:=qa (bs:=bs) hu
     exact dC.mk h (by simp only [bO,←e,den,U.plain];rfl) (by rw [vh];exact cl) (by rw [mJ,aC,hw])
   · exact h.elim
 · rename_i l
   split at h
   · rename_i y aK
     obtain ⟨aU,h⟩:=xc h
     rw [xd] at h
     obtain ⟨aC,cl⟩:=E2 aK
     exact dC.mk h (by simp only [bO,←e,den,U.plain];rfl) (by rw [vh,vh];exact cl) (by rw [mJ,mJ,aC,sy,p8])
   · exact h.elim
 · exact h.elim
theorem E7 {bw:Option Operand} {k:Option Int→Prop} (h:xn fr bw k):∃p,k p∧∀d:Nat,kE (bw.map (b4 (bd (bb bs fr)))) d=some (p.getD d):=by
 unfold xn at h
 split at h
 · exact ⟨_,h,fun d=>rfl⟩
 · obtain ⟨v,h,e⟩:=e0 bs h
   split at h
   · exact ⟨_,h,fun d=>by simp only [Option.map_some,←e,den,U.plain,kE,Option.getD_some]⟩
   · exact h.elim
theorem Nu (aV:eX P T=true) {t:Nat} {v:aR} {p q:Option Int} (h:Ay T t v (p.getD 0) q k) {a:Operand→U} {x:Operand} {bw ad:Option Operand} (e:den bs v=a x)
 (aU:∀d:Nat,kE (bw.map a) d=some (p.getD d)) (aO:∀d:Nat,kE (ad.map a) d=some (q.getD d)):dC (bO P (bH bs L m) a (.slice t x bw ad none)) bs k:=by
 have sj:kE (bw.map a) 0=some (p.getD 0):=aU 0
 unfold Ay at h
 split at h
 · rename_i l
   obtain ⟨i,dp,h⟩:=dT aV h
   obtain ⟨ak,h⟩:=dN.1 h
   have er:i.k= .str:=by cases aA:i.k<;>rw [aA] at ak<;>first|rfl|cases ak
   have pn:=aO l.length
   cases q with
   |some q=>
    refine dC.mk (side:=0≤p.getD 0∧p.getD 0≤q∧q≤l.length) (z:= .str ((l.drop (p.getD 0).toNat).take (q- p.getD 0).toNat)) h.2 ?_ h.1 (by simp only [den,U.plain,sub])
    simp only [Option.getD_some] at pn
    simp only [bO,dp.str er,←e,den,U.plain,sj,pn]
   |none=>
    refine dC.mk (side:=0≤p.getD 0∧p.getD 0≤(l.length:Int)∧(l.length:Int)≤l.length) (z:= .str ((l.drop (p.getD 0).toNat).take ((l.length:Int)- p.getD 0).toNat)) h.2 ?_ ⟨h.1.1,h.1.2,Int.le_refl _⟩ (by simp only [den,U.plain,sub])
    simp only [Option.getD_none] at pn
    simp only [bO,dp.str er,←e,den,U.plain,sj,pn]
 · rename_i o l
   obtain ⟨i,dp,h⟩:=dT aV h
   unfold jv at h
   split at h
   · rename_i gk js
     obtain ⟨j,e8,h⟩:=dT aV h
     obtain ⟨cY,kg,J,h⟩:=h
     obtain ⟨jY,jM,nd,po⟩:=dp.bT js
     have pn:=aO l.length
     rw [kg] at pn
     refine dC.mk h (by simp only [bO,jY,←e,den,U.plain,sj,pn]<;>rfl) ?_ ?_
     · exact ⟨jM,J.1,J.2.1,J.2.2.1,by rw [e8.cells];exact J.2.2.2⟩
     · simp only [den,U.plain]
   · exact h.elim
 · rename_i b n c
   obtain ⟨i,dp,h⟩:=dT aV h
   unfold jv at h
   split at h
   · rename_i gk js
     obtain ⟨j,e8,h⟩:=dT aV h
     obtain ⟨⟨cM,bI,gI⟩,J,aa⟩:=h
     obtain ⟨jY,jM,nd,po⟩:=dp.bT js
     have pn:=aO n
     have bn:bO P (bH bs L m) a (.slice t x bw ad none)=some (dS P gk=true∧0≤p.getD 0∧p.getD 0≤q.getD n∧q.getD n≤n,if p.getD 0<c then .ms ⟨bs.getD b 0,0+(p.getD 0).toNat*P.cellsOf gk,none⟩ (q.getD n- p.getD 0).toNat (c- (p.getD 0).toNat) else .fL):=by
      simp only [bO,jY,←e,den,U.plain,sj,pn]
     by_cases ar:p.getD 0<c
     · exact dC.mk (J ar) bn ⟨jM,cM,bI,gI⟩ (by rw [if_pos ar,e8.cells];simp only [den])
     · rw [if_neg ar] at bn
       exact dC.mk (aa (by omega)) bn ⟨jM,cM,bI,gI⟩ (by simp only [den,U.plain])
   · exact h.elim
 · exact h.elim
theorem Nv (aV:eX P T=true) {t s:Nat} {v:aR} (h:AB T t v k) {a:Operand→U} {x:Operand} (e:den bs v=a x):dC (bO P (bH bs L m) a (.typeAssert x s t true)) bs k:=by
 unfold AB at h
 split at h
 · obtain ⟨i,dp,h⟩:=dT aV h
   obtain ⟨ak,h⟩:=dN.1 h
   obtain ⟨ag,aa⟩:=dN.1 h
   obtain ⟨aU,ai⟩:=oB aa
   obtain ⟨d,bo,vj⟩:=dp.ra ak
   obtain rfl:=Nat.eq_of_beq_eq_true ag
   refine dC.mk (side:=True) ai ?_ trivial rfl
   simp only [bO,bo,←e,den,bm,U.plain,bD.val,aU]
   cases d<;>first|(simp only [if_true];done)|exact absurd rfl (vj _)
 · obtain ⟨i,dp,h⟩:=dT aV h
   obtain ⟨ak,h⟩:=dN.1 h
   obtain ⟨ag,aa⟩:=dN.1 h
   obtain rfl:=Nat.eq_of_beq_eq_true ag
   have sn:i.k= .int .i64∧i.z=[.i .i64]:=by
    split at ak
    · exact ⟨by assumption,by assumption⟩
    · cases ak
   obtain ⟨v,ao,_,nL,_⟩:=dp.zero (by rw [sn.2];simp)
   have bn:v= .int .i64 0:=by
    rw [sn.1,sn.2] at nL
    cases v<;>simp [sD,ph,q8,jf.hR] at nL
    rw [nL.1,nL.2]
   refine dC.mk (side:=(P.info? _).bind (·.zero)=some (.int .i64 0)) aa ?_ (by rw [ao,bn]) rfl
   simp only [bO,dp.int sn.1,←e,den,bm,U.plain,bD.val,if_true]
 · exact h.elim
theorem Nw (aV:eX P T=true) (g:Good bs L m) {t:Nat} {v:aR} (h:AE T L t v k) {a:Operand→U} {x:Operand} (e:den bs v=a x) {args:Array Operand} {cT:Array TypeId} (aX:args.toList=[x]) (aB:cT.toList=[t]):
 dC (bO P (bH bs L m) a (.call ⟨.builtin .len,args,cT⟩)) bs k:=by
 have qb:args[0]?=some x:=by rw [←Array.getElem?_toList,aX];rfl
 have vk:cT[0]?=some t:=by rw [←Array.getElem?_toList,aB];rfl
 unfold AE at h
 split at h
 · obtain ⟨i,dp,h⟩:=dT aV h
   obtain ⟨ak,h⟩:=dN.1 h
   have er:i.k= .str:=by cases aA:i.k<;>rw [aA] at ak<;>first|rfl|cases ak
   exact dC.mk h (by simp only [bO,qb,vk,dp.str er,←e,den,U.plain];rfl) trivial (by simp only [den,U.plain])
 · obtain ⟨i,dp,h⟩:=dT aV h
   obtain ⟨ak,h⟩:=dN.1 h
   obtain ⟨gk,er⟩:∃gk,i.k= .bT gk:=by cases aA:i.k<;>rw [aA] at ak<;>first|exact ⟨_,rfl⟩|cases ak
   exact dC.mk h.q (by simp only [bO,qb,vk,(dp.bT er).1,←e,den,U.plain];rfl) trivial (by simp only [den,U.plain])
 · obtain ⟨i,dp,h⟩:=dT aV h
   obtain ⟨ak,h⟩:=dN.1 h
   obtain ⟨gk,er⟩:∃gk,i.k= .bT gk:=by cases aA:i.k<;>rw [aA] at ak<;>first|exact ⟨_,rfl⟩|cases ak
   exact dC.mk h.2 (by simp only [bO,qb,vk,(dp.bT er).1,←e,den];rfl) h.1 (by simp only [den,U.plain])
 · obtain ⟨i,dp,h⟩:=dT aV h
   obtain ⟨ak,h⟩:=dN.1 h
   obtain ⟨qc,gk,er⟩:∃qc gk,i.k= .mp qc gk:=by cases aA:i.k<;>rw [aA] at ak<;>first|exact ⟨_,_,rfl⟩|cases ak
   exact dC.mk h (by simp only [bO,qb,vk,dp.mp er,←e,den,U.plain];rfl) trivial (by simp only [den,U.plain])
 · obtain ⟨i,dp,h⟩:=dT aV h
   obtain ⟨ak,h⟩:=dN.1 h
   obtain ⟨qc,gk,er⟩:∃qc gk,i.k= .mp qc gk:=by cases aA:i.k<;>rw [aA] at ak<;>first|exact ⟨_,_,rfl⟩|cases ak
   split at h
   · rename_i b _ l av
     rw [ig] at av
     obtain ⟨n,aI,h⟩:=h
     have hm:=kp g av
     exact dC.mk h (by simp only [bO,qb,vk,dp.mp er,←e,den,hm,dV];rfl) trivial (by simp only [den,U.plain,aI])
   · exact h.elim
 · exact h.elim
set_option maxHeartbeats 2000000 in
theorem E8 (aV:eX P T=true) (g:Good bs L m) {w:Bool} {op:Op} (h:sI T w fr L op k):dC (bO P (bH bs L m) (b4 (bd (bb bs fr))) op) bs k:=by
 unfold sI at h
 split at h
 · obtain ⟨v,h,e⟩:=e0 bs h
   exact dC.mk h (by simp only [bO]) trivial e.symm
 · obtain ⟨v,h,e⟩:=e0 bs h
   exact dC.mk h (by simp only [bO]) trivial e.symm
 · obtain ⟨v,h,e⟩:=e0 bs h
   obtain ⟨i,cO,h⟩:=dT aV h
   exact E3 cO g h e
 · obtain ⟨v,h,e⟩:=e0 bs h
   exact Nk h e
 · obtain ⟨v,h,e⟩:=e0 bs h
   obtain ⟨u,h,aC⟩:=e0 bs h
   have:=Nh (bs:=bs) aV h
   rw [e,aC] at this
   simpa only [dC,bO] using this
 · obtain ⟨v,h,e⟩:=e0 bs h
   exact Nl h e
 · obtain ⟨v,h,e⟩:=e0 bs h
   exact Np aV h e
 · obtain ⟨v,h,e⟩:=e0 bs h
   exact E5 aV h e
 · obtain ⟨v,h,e⟩:=e0 bs h
   obtain ⟨i,cO,h⟩:=dT aV h
   obtain ⟨dU,fd,J,aa,ai,aJ,h⟩:=AJ cO h
   exact Nq J aa ai aJ h e
 · obtain ⟨v,h,e⟩:=e0 bs h
   obtain ⟨i,cO,h⟩:=dT aV h
   obtain ⟨dU,fd,J,aa,ai,aJ,h⟩:=AJ cO h
   obtain ⟨j,e8,h⟩:=dT aV h
   exact Nr J aa e8 h e
 · obtain ⟨v,h,e⟩:=e0 bs h
   obtain ⟨u,h,aC⟩:=e0 bs h
   exact Ns aV h e aC
 · obtain ⟨v,h,e⟩:=e0 bs h
   obtain ⟨u,h,aC⟩:=e0 bs h
   exact Nt aV h e aC
 · rw [k7] at h
   exact E6 h (by rw [b4,ko])
 · obtain ⟨v,h,e⟩:=e0 bs h
   obtain ⟨p,h,aU⟩:=E7 (bs:=bs) h
   obtain ⟨q,h,aO⟩:=E7 (bs:=bs) h
   exact Nu aV h e aU aO
 · obtain ⟨v,h,e⟩:=e0 bs h
   exact Nv aV h e
 · split at h
   · rename_i aX aB
     obtain ⟨v,h,e⟩:=e0 bs h
     exact Nw aV g h e aX aB
   · exact h.elim
 · split at h
   · rename_i aX
     obtain ⟨v,h,e⟩:=e0 bs h
     obtain ⟨u,h,aC⟩:=e0 bs h
     split at h
     · obtain ⟨ag,aa⟩:=dN.1 h
       obtain rfl:=xk ag
       exact dC.mk (side:=True) aa (by simp only [bO,aX,←e,←aC,den,U.plain,if_true]<;>rfl) trivial rfl
     · exact h.elim
   · exact h.elim
 · split at h
   · rename_i aX
     obtain ⟨v,h,e⟩:=e0 bs h
     obtain ⟨u,h,aC⟩:=e0 bs h
     split at h
     · obtain ⟨ag,aa⟩:=dN.1 h
       obtain rfl:=xk ag
       exact dC.mk (side:=True) aa (by simp only [bO,aX,←e,←aC,den,U.plain,if_true]<;>rfl) trivial rfl
     · exact h.elim
   · exact h.elim
 · exact h.elim
end
end Go.bV
end
section
namespace Go.bV
open Go Go.ba
abbrev cE:=bJ→List bu→ae→Prop
structure fy where
 P:Program
 T:hl
 E:Nat
 w:List Nat
 st:List Nat
 re:List Nat
 xs:List Nat
 cv:List Nat
 bs:List Nat
def has:List Nat→Nat→Bool
 |[],_=>false
 |x::r,n=>bif Nat.beq x n then true else has r n
def j4 (d:Option Nat) (v:aR) (fr:bJ) (k:bJ→Prop):Prop:=
 match d with
 |some d=>k ((d,v)::fr)
 |none=>k fr
def sO:aR→Bool
 | .own _| .b _| .loc _ _| .ms _ _ _| .mp _| .hj _ _ _ _| .bT _ _ _ _| .fn _ _ _=>true
 |_=>false
def sP:List aR→(List aR→Prop)→Prop
 |[],k=>k []
 | .aH x::r,k=>mZ x fun bX=>sP r fun et=>k (.aH bX::et)
 |v::r,k=>b5 (sO v) (sP r fun et=>k (v::et))
def rf:List U→List aR
 |[]=>[]
 |x::r=>p7 x::rf r
def xq (v:aR) (k:List aR→Prop):Prop:=
 match v with
 | .agg l=>sP l k
 | .aH (.agg l)=>sP (rf l) k
 | .aH x=>mZ x fun bX=>k [.aH bX]
 |v=>b5 (sO v) (k [v])
def vl (x:Operand) (v:aR) (fr:bJ) (k:bJ→Prop):Prop:=
 match x with
 | .tmp t=>
   match v with
   | .own l=>k ((t, .aH (.slice false l))::fr)
   | .agg l=>q5 l fun bC=>k ((t, .agg bC)::fr)
   | .dw _=>False
   |_=>k fr
 |_=>k fr
def xr:List aR→(List aR→Prop)→Prop
 |[],k=>k []
 |v::r,k=>b5 (pg v) (p6 v fun iw=>xr r fun et=>k (iw::et))
def AK (v:aR) (k:aR→Prop):Prop:=
 match v with
 | .dw l=>xr l fun bC=>k (.dw bC)
 |v=>b5 (pg v) (p6 v k)
def vm (l cs:List aR) (off n:Nat):List aR:=l.take off++cs++l.drop (off+n)
def toK:aR→(U→Prop)→Prop
 | .aH x,k=>sC x k
 | .b c,k=>k (.bool c.val)
 | .agg l,k=>go l fun bC=>k (.agg bC)
 |_,_=>False
where go:List aR→(List U→Prop)→Prop
 |[],k=>k []
 | .aH x::r,k=>mZ x fun bX=>go r fun et=>k (bX::et)
 | .b c::r,k=>go r fun et=>k (.bool c.val::et)
 |_,_=>False
def toLK:List aR→(List U→Prop)→Prop
 |[],k=>k []
 |v::r,k=>toK v fun x=>toLK r fun et=>k (x::et)
def qd (T:hl) (cL:List (Nat×Nat)):List (Nat×aR)→List aR→(List aR→Prop)→Prop
 |[],cs,k=>k cs
 |(i,v)::r,cs,k=>
  match nth cL i with
  |some (off,t)=>da T t fun j=>AL v fun vs=>b5 (Nat.beq vs.length j.n) (b5 (Nat.ble (off+j.n) cs.length) (fP (vm cs vs off j.n) fun kH=>qd T cL r kH k))
  |none=>False
where AL:aR→(List aR→Prop)→Prop
 | .agg l,k=>k l
 | .aH (.agg l),k=>fP (rf l) k
 | .aH x,k=>mZ x fun bX=>k [.aH bX]
 | .dw _,_=>False
 | .off,_=>False
 |v,k=>k [v]
def rh (fr:bJ):List (Nat×Operand)→(List (Nat×aR)→Prop)→Prop
 |[],k=>k []
 |(i,x)::r,k=>eD fr x fun v=>rh fr r fun et=>k ((i,v)::et)
def idxFrom:Nat→List (Nat×aR)→Bool
 |_,[]=>true
 |n,(i,_)::r=>bif Nat.beq n i then idxFrom (n+1) r else false
def nS:List (Nat×aR)→List aR
 |[]=>[]
 |(_,v)::r=>v::nS r
structure AM (w xt:Nat) (l bC:List U) (Q:List U→Prop):Prop where
 h:((l.length+bC.length)*xt≤140737488355328∧l.length+bC.length≤140737488355328∧(∀x∈l,x.cells.length=w)∧∀x∈bC,x.cells.length=w∧x.cells.all U.one=true)∧Q (l++bC)
structure lK (a b:Prop):Prop where
 h:a∨b
theorem ap {R:Prop} {α:Type} (f:α→U) (xs cA:List α) {w xt:Nat} {l bC:List U} {Q:List U→Prop} (av:l=xs.map f) (l8:bC=cA.map f) (aN:∀a,(f a).cells.length=w∧(f a).cells.all U.one=true)
 (h:(xs.length+cA.length)*xt≤140737488355328∧xs.length+cA.length≤140737488355328) (e7:Q ((xs++cA).map f)):lK (AM w xt l bC Q) R:=by
 subst av;subst l8
 refine ⟨.inl ⟨⟨by simpa using h.1,by simpa using h.2,fun x aq=>?_,fun x aq=>?_⟩,by rw [←List.map_append];exact e7⟩⟩
 · obtain ⟨a,_,rfl⟩:=List.mem_map.1 aq;exact (aN a).1
 · obtain ⟨a,_,rfl⟩:=List.mem_map.1 aq;exact aN a
structure nf (P:Program) (b0:List Nat) (f:FuncId) (vs:List aR) (fr:bJ) (L:List bu) (m:ae) (Q:aR→List bu→ae→Prop):Prop where
 h:∃(σ:Type) (fO:σ→Prop) (y:σ→aR) (bF:σ→List bu) (aF:σ→ae),(∀new,Good (b0++new) L m→∀K:U→ae→Prop,(∀x,fO x→∀ee,Good (b0++new++ee) (bF x) (aF x)→K (den (b0++new++ee) (y x)) (bH (b0++new++ee) (bF x) (aF x)))→bg P f (bm (b0++new) vs) (bH (b0++new) L m) K)∧
  (∀x,(bif Nat.beq (bF x).length L.length then true else nc L.length fr)=true)∧∀x,fO x→Q (y x) (bF x) (aF x)
theorem nf.one {P:Program} {b0:List Nat} {f:FuncId} {vs:List aR} {fr:bJ} {L:List bu} {m:ae} {Q:aR→List bu→ae→Prop} (y:aR) (bF:List bu) (aF:ae)
 (J:∀new,Good (b0++new) L m→∀K:U→ae→Prop,(∀ee,Good (b0++new++ee) bF aF→K (den (b0++new++ee) y) (bH (b0++new++ee) bF aF))→bg P f (bm (b0++new) vs) (bH (b0++new) L m) K)
 (aa:(bif Nat.beq bF.length L.length then true else nc L.length fr)=true) (ai:Q y bF aF):nf P b0 f vs fr L m Q:=
 ⟨Unit,fun _=>True,fun _=>y,fun _=>bF,fun _=>aF,fun new g K ab=>J new g K (ab () trivial),fun _=>aa,fun _ _=>ai⟩
structure E9 (P:Program) (b0:List Nat) (f:FuncId) (vs:List aR) (L:List bu) (m:ae) (Q:aR→Prop):Prop where
 h:∃y,(∀new,Good (b0++new) L m→∃c:U,sg P f (bm (b0++new) vs) (bH (b0++new) L m) c∧c.plain=den (b0++new) y)∧Q y
structure hz (P:Program) (b0:List Nat) (dst:Option Nat) (op:Op) (fr:bJ) (L:List bu) (m:ae) (k:cE):Prop where
 h:∀new,Good (b0++new) L m→∀(n:Nat) (ops:Array Oper) (ty:TypeId) (pos:String) (af:Array Edge) (l:List Oper) (K:Fr→ae→Prop),eQ n ⟨dst,op,ty,pos,af,none⟩=true→gh n ⟨dst,op,ty,pos,af,none⟩=true→
  (∀aZ bF m' gl,b0 <+: gl→Good gl bF m'→k aZ bF m'→bS P n ops l K (bb gl aZ) (bH gl bF m'))→bS P n ops (⟨dst,op,ty,pos,af,none⟩::l) K (bb (b0++new) fr) (bH (b0++new) L m)
def xu (fr:bJ) (L:List bu) (o:bu) (k:Nat→List bu→Prop):Prop:=
 b5 (nc L.length fr) (b5 (kP L.length L) (k L.length (L++[o])))
def qe (c:fy):Option Nat→Bool
 |some d=>has c.w (1000000+d)
 |none=>false
def sQ (c:fy) (bT:List Nat) (d:Nat):Bool:=bif has bT d then true else has c.w (1000000+d)
def hS (c:fy) (bT:List Nat) (dst:Option Nat) (op:Op) (fr:bJ) (L:List bu) (m:ae) (k:cE):Prop:=
 match op with
 | .assign (.tmp t)=>jP fr t fun v=>b5 (pg v) (p6 v fun u=>vl (.tmp t) v fr fun aZ=>
   match v with
   | .own l=>j4 dst (.own l) aZ fun fr=>k fr L m
   |_=>j4 dst u aZ fun fr=>k fr L m)
 | .move (.tmp t)=>jP fr t fun v=>AK v fun u=>
   match v,dst with
   | .own l,some d=>
     match sQ c bT d with
     |true=>k ((d, .own l)::(t,u)::fr) L m
     |false=>k ((d,u)::fr) L m
   |_,_=>j4 dst u fr fun fr=>k fr L m
 | .extract (.tmp t) n=>jP fr t fun v=>
   match v,dst with
   | .dw l,some d=>
     match nth l n with
     |some (.own q)=>xr l fun bC=>
      match sQ c bT d with
      |true=>k ((d, .own q)::(t, .dw bC)::fr) L m
      |false=>k ((d, .aH (.slice false q))::fr) L m
     |some u=>b5 (pg u) (p6 u fun lA=>k ((d,lA)::fr) L m)
     |none=>False
   |v,some d=>sH v n fun u=>k ((d,u)::fr) L m
   |_,none=>False
 | .load t x=>eD fr x fun v=>da c.T t fun i=>
   match dst with
   |some d=>
    match v with
    | .loc b off=>
      match nth L b with
      |some (.cells l)=>
       match nth l off with
       |some (.own q)=>
        match sQ c bT d,i.k.hR with
        |true,false=>k ((d, .own q)::fr) (L.set b (.cells (l.set off (.aH (.slice false q))))) m
        |_,_=>pk L i v fun u=>k ((d,u)::fr) L m
       |_=>pk L i v fun u=>k ((d,u)::fr) L m
      |_=>pk L i v fun u=>k ((d,u)::fr) L m
    | .aH _=>pk L i v fun u=>k ((d,u)::fr) L m
    | .hj _ _ _ _=>
      match qe c dst with
      |true=>hz c.P c.bs dst op fr L m k
      |false=>pk L i v fun u=>k ((d,u)::fr) L m
    |_=>hz c.P c.bs dst op fr L m k
   |none=>False
 | .store t a x=>eD fr a fun p=>
   match p with
   | .loc b off=>xf fr x fun v=>da c.T t fun i=>
     match nth L b with
     |some (.cells l)=>xq v fun cs=>b5 (Nat.beq cs.length i.n) (b5 (Nat.ble (off+i.n) l.length) (vl x v fr fun aZ=>fP (vm l cs off i.n) fun bC=>fP (L.set b (.cells bC)) fun bF=>k aZ bF m))
     |_=>hz c.P c.bs dst op fr L m k
   |_=>hz c.P c.bs dst op fr L m k
 | .alloc t=>da c.T t fun i=>
   match i.z with
   |[]=>hz c.P c.bs dst op fr L m k
   |_=>fP (jQ i.z) fun cs=>xu fr L (.cells cs) fun b bF=>fP bF fun bF=>j4 dst (.loc b 0) fr fun fr=>k fr bF m
 | .box _ x=>xf fr x fun v=>xq v fun cs=>vl x v fr fun aZ=>b5 (nb L.length cs)<|xu aZ L (.cells cs) fun b bF=>fP bF fun bF=>j4 dst (.loc b 0) aZ fun fr=>k fr bF m
 | .makeMap t none=>da c.T t fun i=>b5 i.k.AD (xu fr L (.obj (.map [])) fun b bF=>fP bF fun bF=>j4 dst (.mp b) fr fun fr=>k fr bF m)
 | .build t parts=>
   match qe c dst with
   |true=>hz c.P c.bs dst op fr L m k
   |false=>da c.T t fun i=>
    match i.k with
    | .st cL=>b5 (match i.z with|[]=>false|_=>true) (fP (jQ i.z) fun aW=>rh fr parts.toList fun ps=>qd c.T cL ps aW fun cs=>j4 dst (.agg cs) fr fun fr=>k fr L m)
    |_=>False
 | .buildSlice t n parts=>
   match dst with
   |some d=>match has bT d with
    |true=>hz c.P c.bs dst op fr L m k
    |false=>da c.T t fun i=>jv i fun e=>da c.T e fun j=>rh fr parts.toList fun ps=>b5 (idxFrom 0 ps) (b5 (Nat.beq ps.length n) (b5 (Nat.ble (n*j.n) 16777216) (toLK (nS ps) fun l=>b5 (l.all fun x=>Nat.beq x.cells.length j.n) (k ((d, .own l)::fr) L m))))
   |none=>False
 | .makeFunc (.func f) a xv=>p9 fr a.toList fun x=>p9 fr xv.toList fun y=>
   match dst with
   |some d=>k ((d, .fn f x y)::fr) L m
   |none=>False
 | .pick q x y=>eD fr q fun v=>
   match v with
   | .b (.lit true)=>eD fr x fun u=>j4 dst u fr fun fr=>k fr L m
   | .b (.lit false)=>eD fr y fun u=>j4 dst u fr fun fr=>k fr L m
   |_=>False
 | .call ⟨.builtin .append,args,cT⟩=>
   match args.toList,cT.toList,dst with
   |[.tmp s,y],[t,u],some d=>jP fr s fun v=>eD fr y fun w=>
    match v,w with
    | .own l, .aH (.slice _ bC)=>da c.T t fun i=>jv i fun e=>da c.T e fun j=>b5 (Nat.beq t u) (lK (AM j.n j.y l bC fun q=>k ((d, .own q)::(s, .aH (.slice false l))::fr) L m) (hz c.P c.bs dst op fr L m k))
    |_,_=>hz c.P c.bs dst op fr L m k
   |[.const (.slice none 0 0),y],[t,u],some d=>eD fr y fun w=>
    match w with
    | .aH (.slice _ bC)=>da c.T t fun i=>jv i fun e=>da c.T e fun j=>b5 (Nat.beq t u) (lK (AM j.n j.y [] bC fun q=>k ((d, .own q)::fr) L m) (hz c.P c.bs dst op fr L m k))
    |_=>hz c.P c.bs dst op fr L m k
   |_,_,_=>False
 | .call ⟨.value (.func f),args,_⟩=>
   match qe c dst with
   |true=>hz c.P c.bs dst op fr L m k
   |false=>p9 fr args.toList fun vs=>nf c.P c.bs f vs fr L m fun y bF m'=>j4 dst y fr fun fr=>k fr bF m'
 | .call ⟨.value (.tmp t),args,_⟩=>jP fr t fun v=>
   match v with
   | .fn f a xv=>p9 fr args.toList fun vs=>fP (a++vs++xv) fun vs=>nf c.P c.bs f vs fr L m fun y bF m'=>j4 dst y fr fun fr=>k fr bF m'
   |_=>hz c.P c.bs dst op fr L m k
 | .mapUpdate _ _ _ _| .insert _ _ _ _| .lookup _ _ _ _| .range _ _| .next _ _| .entry _| .makeSlice _ _ _| .call ⟨.builtin .delete,_,_⟩| .call ⟨.builtin .copy,_,_⟩=>hz c.P c.bs dst op fr L m k
 | .makeInterface _ _=>
   match qe c dst with
   |true=>hz c.P c.bs dst op fr L m k
   |false=>
    match dst with
    |some d=>sI c.T (has c.w d) fr L op fun u=>k ((d,u)::fr) L m
    |none=>False
 |op=>
  match dst with
  |some d=>sI c.T (has c.w d) fr L op fun u=>k ((d,u)::fr) L m
  |none=>False
def xw (c:fy) (dst:Option Nat) (op:Op) (fr:bJ) (L:List bu) (m:ae) (k:bJ→Prop):Prop:=
 match dst with
 |none=>False
 |some d=>
  match op with
  | .call ⟨.value (.func f),args,_⟩=>p9 fr args.toList fun vs=>E9 c.P c.bs f vs L m fun y=>k ((d,y)::fr)
  | .build t parts=>da c.T t fun i=>
    match i.k with
    | .st cL=>b5 (match i.z with|[]=>false|_=>true) (fP (jQ i.z) fun aW=>rh fr parts.toList fun ps=>qd c.T cL ps aW fun cs=>q5 cs fun cs=>k ((d, .agg cs)::fr))
    |_=>False
  | .buildSlice t n parts=>da c.T t fun i=>jv i fun e=>da c.T e fun j=>rh fr parts.toList fun ps=>b5 (idxFrom 0 ps) (b5 (Nat.beq ps.length n) (b5 (Nat.ble (n*j.n) 16777216) (toLK (nS ps) fun l=>b5 (l.all fun x=>Nat.beq x.cells.length j.n) (k ((d, .aH (.slice false l))::fr)))))
  | .pick q x y=>eD fr q fun v=>
    match v with
    | .b (.lit true)=>eD fr x fun u=>k ((d,u)::fr)
    | .b (.lit false)=>eD fr y fun u=>k ((d,u)::fr)
    |_=>False
  |op=>sI c.T (has c.w d) fr L op fun u=>k ((d,u)::fr)
def nT:bJ→Nat→aR→(bJ→Prop)→Prop
 |[],_,_,k=>k []
 |(s,x)::r,t,v,k=>bif Nat.beq s t then k ((s,v)::r) else nT r t v fun et=>k ((s,x)::et)
def sR (ops:List Oper) (gd:Option (Nat×Bool)) (fr:bJ) (on:bJ→Prop) (off:bJ→Prop):Prop:=
 match gd with
 |none=>on fr
 |some (j,b)=>
  match (nth ops j).bind (·.dst) with
  |some g=>jP fr g fun v=>
   match v with
   | .b (.lit z)=>
     match z,b with
     |true,true|false,false=>on fr
     |_,_=>off fr
   | .b q=>
     match b with
     |true=>q.ways (nT fr g (.b (.lit true)) on) (nT fr g (.b (.lit false)) off)
     |false=>q.ways (nT fr g (.b (.lit true)) off) (nT fr g (.b (.lit false)) on)
   | .off=>off fr
   |_=>False
  |none=>False
noncomputable def qf (c:fy) (ops:List Oper) (bT:List Nat) (l:List Oper):bJ→List bu→ae→cE→Prop:=
 List.rec (motive:=fun _=>bJ→List bu→ae→cE→Prop) (fun fr L m k=>k fr L m)
  (fun o _ aQ fr L m k=>sR ops o.guard fr (fun fr=>hS c bT o.dst o.op fr L m fun fr L m=>aQ fr L m k) (fun fr=>j4 o.dst .off fr fun fr=>aQ fr L m k)) l
theorem Nx (c:fy) (ops:List Oper) (bT:List Nat) (o:Oper) (r:List Oper) (fr:bJ) (L:List bu) (m:ae) (k:cE):qf c ops bT (o::r) fr L m k=sR ops o.guard fr (fun fr=>hS c bT o.dst o.op fr L m fun fr L m=>qf c ops bT r fr L m k) (fun fr=>j4 o.dst .off fr fun fr=>qf c ops bT r fr L m k):=rfl
noncomputable def vn (c:fy) (ops:List Oper) (l:List Oper):bJ→List bu→ae→(bJ→Prop)→Prop:=
 List.rec (motive:=fun _=>bJ→List bu→ae→(bJ→Prop)→Prop) (fun fr _ _ k=>k fr)
  (fun o _ aQ fr L m k=>sR ops o.guard fr (fun fr=>xw c o.dst o.op fr L m fun fr=>aQ fr L m k) (fun fr=>j4 o.dst .off fr fun fr=>aQ fr L m k)) l
theorem Ny (c:fy) (ops:List Oper) (o:Oper) (r:List Oper) (fr:bJ) (L:List bu) (m:ae) (k:bJ→Prop):vn c ops (o::r) fr L m k=sR ops o.guard fr (fun fr=>xw c o.dst o.op fr L m fun fr=>vn c ops r fr L m k) (fun fr=>j4 o.dst .off fr fun fr=>vn c ops r fr L m k):=rfl
def pq:List Oper→List Nat
 |[]=>[]
 |o::r=>
  match o.op with
  | .call ⟨.builtin .append,args,_⟩=>
    match args.toList with
    | .tmp s::_=>s::pq r
    |_=>pq r
  |_=>pq r
def Nz:Op→Bool
 | .store _ _ _| .mapUpdate _ _ _ _| .makeSlice _ _ _| .makeMap _ _| .alloc _| .box _ _| .insert _ _ _ _| .entryStore _ _ _ _=>true
 | .call ⟨.builtin .append,_,_⟩| .call ⟨.builtin .copy,_,_⟩| .call ⟨.builtin .delete,_,_⟩=>true
 |_=>false
def ri (xs:List Nat) (id:Nat):List Oper→Nat→Nat
 |[],n=>n
 |o::r,n=>bif Nz o.op then n else bif has xs (id*1000+n) then n else ri xs id r (n+1)
def sS (bT:List Nat):List Oper→List (Nat×Nat)
 |[]=>[]
 |o::r=>
  match o.dst,o.op,o.guard with
  |some d, .move (.tmp s),none=>bif has bT d then (d,s)::sS bT r else sS bT r
  |_,_,_=>sS bT r
def xx:List (Nat×Nat)→bJ→(bJ→Prop)→Prop
 |[],fr,k=>k fr
 |(d,s)::r,fr,k=>jP fr s fun v=>b5 (pg v) (p6 v fun u=>xx r ((d,v)::(s,u)::fr) k)
def AN:aR→Prop
 | .aH (.int dk n)=>dk.min≤n∧n≤dk.max
 | .aH (.slice _ l)=>l.length≤140737488355328∧w9 l
 | .aH x=>uW x.plain
 | .own l=>l.length≤140737488355328∧w9 l
 |_=>True
structure Told (fr:bJ) (p:Prop):Prop where
 h:(∀t,AN (eR fr t))→p
noncomputable def qg (c:fy) (id:Nat) (ops:List Oper) (draw:Bool) (k:cE) (fr:bJ) (L:List bu) (m:ae):Prop:=
 match draw with
 |false=>qf c ops (pq ops) ops fr L m k
 |true=>
  match has c.xs (id*1000+999) with
  |true=>False
  |false=>fP (ops.take (ri c.xs id ops 0)) fun hg=>fP (ops.drop (ri c.xs id ops 0)) fun gR=>vn c ops hg fr L m fun fr=>xx (sS (pq ops) hg) fr fun fr=>qf c ops (pq ops) gR fr L m k
def rj:bJ→Nat→Option aR
 |[],_=>none
 |(s,x)::r,t=>bif Nat.beq s t then some x else rj r t
def iX (E:Nat):aR→aR
 | .aH .nilIface=> .aH (.err E 0)
 | .aH (.iface u (.int .i64 e))=>
   match Nat.beq u E,decide (e=0) with
   |true,false=> .aH (.err E e)
   |_,_=> .aH (.iface u (.int .i64 e))
 |v=>v
def xy (E:Nat) (md:List (Nat×Nat)) (t:Nat) (v:aR):aR:=
 match v with
 | .b (.lit z)=>bif md.any (fun p=>Nat.beq p.1 t) then .b (.raw z) else .b (.lit z)
 | .b q=> .b (.raw q.val)
 | .own l=>bif md.any (fun p=>Nat.beq p.1 t) then .aH (.slice false l) else .own l
 | .aH (.agg l)=> .agg (rf l)
 |v=>bif md.any (fun p=>Nat.beq p.1 t) then iX E v else v
def rk:List aR→List aR
 |[]=>[]
 | .b q::r=> .b (.raw q.val)::rk r
 |v::r=>v::rk r
def vo:bu→bu
 | .cells l=> .cells (rk l)
 | .obj o=> .obj o
def ng:List bu→List bu
 |[]=>[]
 |o::r=>vo o::ng r
def mq (E:Nat) (md:List (Nat×Nat)):List Nat→bJ→bJ
 |[],_=>[]
 |t::r,fr=>
  match rj fr t with
  |some v=>(t,xy E md t v)::mq E md r fr
  |none=>mq E md r fr
abbrev sT:=bJ×List bu×ae
def fits (c:fy) (md:List (Nat×Nat)) (ks:List Nat) (n:Nat) (fr:bJ) (L:List bu) (m:ae) (s:sT):Prop:=
 (mq c.E md ks fr,ng (L.take n),m)=s∧(nc n s.1&&kP n s.2.1&&Nat.ble n L.length&&Nat.ble c.bs.length n)=true
structure AO (c:fy) (F:cE→cE) (fr:bJ) (L:List bu) (m:ae):Prop where
 h:∃(σ:Type) (S:σ→sT) (fO:σ→Prop) (mn:σ→Nat) (md:List (Nat×Nat)) (ks:List Nat) (n:σ→Nat) (k8:σ),fits c md ks (n k8) fr L m (S k8)∧fO k8∧
  ∀x,fO x→fP (S x).1 fun fr=>fP (S x).2.1 fun L=>F (fun aZ bF m'=>∃bX,fits c md ks (n bX) aZ bF m' (S bX)∧fO bX∧mn bX<mn x) fr L (S x).2.2
theorem b7 {c:fy} {F:cE→cE} {fr:bJ} {L:List bu} {m:ae} {σ:Type} (md:List (Nat×Nat)) (ks:List Nat) (n:Nat) (S:σ→sT) (fO:σ→Prop) (mn:σ→Nat) (k8:σ) (aG:fits c md ks n fr L m (S k8)) (ay:fO k8)
 (h:∀x,fO x→fP (S x).1 fun fr=>fP (S x).2.1 fun L=>F (fun aZ bF m'=>∃bX,fits c md ks n aZ bF m' (S bX)∧fO bX∧mn bX<mn x) fr L (S x).2.2):AO c F fr L m:=
 ⟨σ,S,fO,mn,md,ks,fun _=>n,k8,aG,ay,h⟩
structure xz (c:fy) (A:cE→cE) (B:cE) (fr:bJ) (L:List bu) (m:ae):Prop where
 h:∃qh:cE,(∀fr L m,qh fr L m→B fr L m∨∃md ks n s,fits c md ks n fr L m s∧B s.1 s.2.1 s.2.2)∧A qh fr L m
theorem az {c:fy} {A:cE→cE} {B:cE} {fr:bJ} {L:List bu} {m:ae} (h:A B fr L m):xz c A B fr L m:=⟨B,fun _ _ _ h=> .inl h,h⟩
theorem sU {c:fy} {A:cE→cE} {B:cE} {fr:bJ} {L:List bu} {m:ae} {σ:Type} (md:List (Nat×Nat)) (ks:List Nat) (n:Nat) (S:σ→sT) (fO:σ→Prop) (cd:∀x,fO x→fP (S x).1 fun fr=>fP (S x).2.1 fun L=>B fr L (S x).2.2)
 (dP:A (fun fr L m=>∃x,fits c md ks n fr L m (S x)∧fO x) fr L m):xz c A B fr L m:=
 ⟨_,fun fr L m ⟨x,h,ay⟩=> .inr ⟨md,ks,n,S x,h,by have:=cd x ay;rw [gJ,gJ] at this;exact this⟩,dP⟩
structure xA (A:cE→cE) (B:cE) (fr:bJ) (L:List bu) (m:ae):Prop where
 h:∃qh:cE,(∀fr L m,qh fr L m→∃md t e ks,(∃q,rj fr t=some (.b q)∧q.val=e)∧B ((t, .b (.raw e))::mq 0 md ks fr) L m)∧A qh fr L m
theorem cq {A:cE→cE} {B:cE} {fr:bJ} {L:List bu} {m:ae} (ks:List Nat) (t:Nat) (e:Bool) (dP:A (fun aZ bF m'=>(∃q,rj aZ t=some (.b q)∧q.val=e)∧(mq 0 [] ks aZ,bF,m')=(mq 0 [] ks fr,L,m)) fr L m)
 (cd:fP (mq 0 [] ks fr) fun fr=>B ((t, .b (.raw e))::fr) L m):xA A B fr L m:=
 ⟨_,fun aZ bF m' ⟨J,aa⟩=>⟨[],t,e,ks,J,by
   simp only [Prod.mk.injEq] at aa
   obtain ⟨aM,aC,c8⟩:=aa
   rw [gJ] at cd
   rw [aM,aC,c8]
   exact cd⟩,dP⟩
structure oC (c:fy) (A:cE) (fr:bJ) (L:List bu) (m:ae):Prop where
 h:∀new,Good (c.bs++new) L m→∀(n:Nat) (fY:Code) (Q:Exit→Fr→ae→Prop),(∀aZ bF m' gl,c.bs <+: gl→Good gl bF m'→A aZ bF m'→de c.P n fY Q (bb gl aZ) (bH gl bF m'))→de c.P n fY Q (bb (c.bs++new) fr) (bH (c.bs++new) L m)
structure AP (c:fy) (id:Nat) (ops:Array Oper) (draw:Bool) (kn:cE) (fr:bJ) (L:List bu) (m:ae):Prop where
 h:∀new,Good (c.bs++new) L m→∀(n:Nat) (Q:Exit→Fr→ae→Prop),kf n ops []=true→(∀aZ bF m' gl,c.bs <+: gl→Good gl bF m'→kn aZ bF m'→Q .normal (bb gl aZ) (bH gl bF m'))→de c.P n (.region id ops draw) Q (bb (c.bs++new) fr) (bH (c.bs++new) L m)
def AQ:Code→Bool
 | .region _ _ _=>true
 |_=>false
noncomputable def sV (c:fy) (id:Nat) (ops:List Oper) (draw:Bool) (kn:cE) (fr:bJ) (L:List bu) (m:ae):Prop:=
 match has c.st id,has c.re id with
 |true,false=>Told fr (qg c id ops draw kn fr L m)
 |false,false=>qg c id ops draw kn fr L m
 |true,true=>Told fr (xA (fun kn fr L m=>qg c id ops draw kn fr L m) kn fr L m)
 |false,true=>xA (fun kn fr L m=>qg c id ops draw kn fr L m) kn fr L m
noncomputable def kR (c:fy) (fY:Code):cE→(Nat→cE)→cE→cE:=
 @Code.rec (fun _=>cE→(Nat→cE)→cE→cE)
   (fun kn _ _ fr L m=>kn fr L m)
   (fun id ops draw kn _ _ fr L m=>
     match has c.cv id with
     |false=>sV c id ops.toList draw kn fr L m
     |true=>lK (oC c (fun fr L m=>sV c id ops.toList draw kn fr L m) fr L m) (AP c id ops draw kn fr L m))
   (fun a _ Fa Fb kn kx kr fr L m=>
     match AQ a with
     |true=>Fa (fun fr L m=>Fb kn kx kr fr L m) kx kr fr L m
     |false=>xz c (fun AR fr L m=>Fa AR kx kr fr L m) (fun fr L m=>Fb kn kx kr fr L m) fr L m)
   (fun q _ _ NA NB kn kx kr fr L m=>eD fr q fun v=>
     match v with
     | .b s=>s.ways (NA kn kx kr fr L m) (NB kn kx kr fr L m)
     |_=>False)
   (fun id _ aQ kn kx kr fr L m=>aQ kn (fun j fr L m=>match Nat.beq j id with|true=>kn fr L m|false=>kx j fr L m) kr fr L m)
   (fun _ aQ _ kx kr fr L m=>AO c (fun AS fr L m=>aQ AS kx kr fr L m) fr L m)
   (fun _ _ _ _ _ _ _ _ _ _ _ _=>False)
   (fun id _ kx _ fr L m=>kx id fr L m)
   (fun _ _ _ _ _ _ _ _=>False) (fun _ _ _ _ _ _ _=>False) (fun _ _ _ _ _ _ _=>False) (fun _ _ kr fr L m=>kr fr L m) (fun _ _ _ _ _ _ _=>False) fY
section
variable {c:fy} {kn:cE} {kx:Nat→cE} {kr:cE} {fr:bJ} {L:List bu} {m:ae}
theorem NC {id:Nat} {ops:Array Oper} {draw:Bool}:kR c (.region id ops draw) kn kx kr fr L m=(match has c.cv id with
 |false=>sV c id ops.toList draw kn fr L m
 |true=>lK (oC c (fun fr L m=>sV c id ops.toList draw kn fr L m) fr L m) (AP c id ops draw kn fr L m)):=rfl
theorem ND {a b:Code}:kR c (.seq a b) kn kx kr fr L m=(match AQ a with
 |true=>kR c a (fun fr L m=>kR c b kn kx kr fr L m) kx kr fr L m
 |false=>xz c (fun AR fr L m=>kR c a AR kx kr fr L m) (fun fr L m=>kR c b kn kx kr fr L m) fr L m):=rfl
theorem NF {q:Operand} {x y:Code}:kR c (.cond q x y) kn kx kr fr L m=eD fr q fun v=>
 match v with
 | .b s=>s.ways (kR c x kn kx kr fr L m) (kR c y kn kx kr fr L m)
 |_=>False:=rfl
theorem NG {id:Nat} {body:Code}:kR c (.block id body) kn kx kr fr L m=kR c body kn (fun j fr L m=>match Nat.beq j id with|true=>kn fr L m|false=>kx j fr L m) kr fr L m:=rfl
theorem NH {body:Code}:kR c (.loop body) kn kx kr fr L m=AO c (fun AS fr L m=>kR c body AS kx kr fr L m) fr L m:=rfl
end
def xB (T:hl) (fr:bJ) (L:List bu) (r:ResultVar) (k:aR→Prop):Prop:=
 match r with
 | .tmp t=>jP fr t k
 | .cell a t=>jP fr a fun v=>
   match v with
   | .loc b off=>
     match nth L b with
     |some (.cells l)=>da T t fun i=>
      match i.k.hR with
      |true=>b5 (Nat.ble (off+i.n) l.length) (q5 ((l.drop off).take i.n) fun bC=>k (.agg bC))
      |false=>
       match nth l off with
       |some v=>u6 v k
       |none=>False
     |_=>False
   |_=>False
def xC (T:hl) (fr:bJ) (L:List bu):List ResultVar→(List aR→Prop)→Prop
 |[],k=>k []
 |r::rs,k=>xB T fr L r fun v=>xC T fr L rs fun vs=>k (v::vs)
def vp:List ResultVar→List Nat
 |[]=>[]
 | .tmp t::r=>t::vp r
 | .cell _ _::r=>vp r
def xD (E:Nat) (cT:List Nat):bJ→bJ
 |[]=>[]
 |(t,v)::r=>(t,bif has cT t then iX E v else v)::xD E cT r
def xE (bs:List Nat):List aR→U
 |[v]=>den bs v
 |[v,x]=> .tuple [den bs v,(den bs x).plain]
 |[v,x,y]=> .tuple [den bs v,(den bs x).plain,(den bs y).plain]
 |[v,x,y,z]=> .tuple [(den bs v).plain,(den bs x).plain,(den bs y).plain,(den bs z).plain]
 |_=> .tuple []
def sW:Nat→List aR→bJ
 |_,[]=>[]
 |i,v::r=>(i,v)::sW (i+1) r
structure sX (c:fy) (K:U→ae→Prop) (vs:List aR) (L:List bu) (m:ae):Prop where
 h:∀new,Good (c.bs++new) L m→∃m',(∀b o,m' b=some o→bH (c.bs++new) L m b=some o)∧K (xE (c.bs++new) vs) m'
def sY (c:fy) (e:Bool) (rs:List ResultVar) (K:U→ae→Prop):cE:=fun fr L m=>
 match e with
 |true=>fP (xD c.E (vp rs) fr) fun fr=>xC c.T fr L rs fun vs=>sX c K vs L m
 |false=>xC c.T fr L rs fun vs=>sX c K vs L m
end Go.bV
end
section
namespace Go.bV
open Go Go.ba
def j5 (bX x:U):Prop:=bX=x∨∀w lim v os,aP w lim v x os→aP w lim v bX []
theorem j5.pl {bX x:U} (h:bX=x.plain):j5 bX x:= .inr fun _ _ _ _ au=>by rw [h];exact au.plain
def fz (aZ fr:Fr):Prop:=∀t bX,aZ.get t=some bX→∃x,fr.get t=some x∧j5 bX x
theorem fz.refl (fr:Fr):fz fr fr:=fun _ x h=>⟨x,h, .inl rfl⟩
theorem fz.cons {aZ fr:Fr} (h:fz aZ fr) (t:Nat) {bX x:U} (aq:j5 bX x):fz ((t,bX)::aZ) ((t,x)::fr):=by
 intro s y aK
 simp only [Fr.get] at aK ⊢
 by_cases e:t=s
 · rw [if_pos e] at aK ⊢
   obtain rfl:bX=y:=by simpa using aK
   exact ⟨x,rfl,aq⟩
 · rw [if_neg e] at aK ⊢
   exact h s y aK
section
variable {P:Program} {n:Nat} {F:Nat→Prop} {lim:Nat→Nat} {w:World} {fr aZ:Fr} {m:ae} {ca:Act} {bE:List Nat} {K:Fr→ae→Prop} {ops:Array Oper} {l:List Oper}
theorem bc.less (h:ba.bc F lim w n fr m ca bE) (al:fz aZ fr):ba.bc F lim w n aZ m ca bE:=by
 obtain ⟨os,cP,bW,h⟩:=h
 classical
 refine ⟨fun t=>if aZ.get t=fr.get t then os t else [],cP,bW,h.size,h.defers,fun t x aq=>?_,h.mem,fun t x aq=>?_,h.ed,h.fW,h.free,h.fresh⟩
 · by_cases he:aZ.get t=fr.get t
   · simp only [he,if_true]
     exact h.ey t x (he▸aq)
   · simp only [if_neg he]
     obtain ⟨y,aK,J⟩:=al t x aq
     rcases J with rfl|J
     · exact (he (aq.trans aK.symm)).elim
     · obtain ⟨aa,ai⟩:=h.ey t y aK
       exact ⟨aa,J _ _ _ _ ai⟩
 · by_cases he:aZ.get t=fr.get t
   · simp only [he,if_true]
     exact h.fc t x (he▸aq)
   · simp [if_neg he]
theorem bS.less (al:fz aZ fr) (h:bS P n ops l K aZ m):bS P n ops l K fr m:=fun F lim w ca Q st aO=>h F lim w ca Q (bc.less st al) aO
theorem de.less {c:Code} {Q:Exit→Fr→ae→Prop} (al:fz aZ fr) (h:de P n c Q aZ m):de P n c Q fr m:=fun F lim w ca st=>h F lim w ca (bc.less st al)
theorem bS.NI {dst:Option Nat} {op:Op} {ty:TypeId} {pos:String} {af:Array Edge} {gd:Option (Nat×Bool)} (ao:hI ops fr gd=some true) (h:bS P n ops (⟨dst,op,ty,pos,af,none⟩::l) K fr m):bS P n ops (⟨dst,op,ty,pos,af,gd⟩::l) K fr m:=by
 intro F lim w ca Q st aO
 have:=h F lim w ca Q st aO
 unfold wpList at this ⊢
 rw [if_pos (by simp [Region.wanted])] at this
 rw [if_pos (qX (o:=⟨dst,op,ty,pos,af,gd⟩) st ao)]
 exact this
theorem bS.NJ {dst:Option Nat} {op:Op} {ty:TypeId} {pos:String} {af:Array Edge} {gd:Option (Nat×Bool)} (ao:hI ops fr gd=some false) (ak:eQ n ⟨dst,op,ty,pos,af,gd⟩=true)
 (h:bS P n ops l K (ep fr dst (.lazy false .aS)) m):bS P n ops (⟨dst,op,ty,pos,af,gd⟩::l) K fr m:=by
 intro F lim w ca Q st aO
 unfold wpList
 rw [if_neg (by rw [qX (o:=⟨dst,op,ty,pos,af,gd⟩) st ao];simp)]
 cases dst with
 |some d=>
  refine bS.from h aO ?_ (.refl _ _ _)
  exact st.set (jZ ak rfl) (.ly _)
 |none=>
  refine bS.from h aO ?_ (.refl _ _ _)
  exact st
theorem bS.val {dst:Option Nat} {op:Op} {ty:TypeId} {pos:String} {af:Array Edge} {stl ss:List Nat} {side:Prop} {m':ae} {x:U} (ak:eQ n ⟨dst,op,ty,pos,af,none⟩=true) (aI:gh n ⟨dst,op,ty,pos,af,none⟩=true)
 (aX:eC P m (bd fr) stl dst op= .val side ss m' x) (al:side) (h:bS P n ops l K (ep (fr.strip ss) dst x) m'):bS P n ops (⟨dst,op,ty,pos,af,none⟩::l) K fr m:=
 uE (stl:=stl) ak aI (by simp only [mO,aX];exact ⟨al,h⟩)
theorem bS.nI {dst:Option Nat} {op:Op} {ty:TypeId} {pos:String} {af:Array Edge} {stl ss:List Nat} {side:Prop} {m':ae} (ak:eQ n ⟨dst,op,ty,pos,af,none⟩=true) (aI:gh n ⟨dst,op,ty,pos,af,none⟩=true)
 (aX:eC P m (bd fr) stl dst op= .nI side ss m') (al:side) (h:bS P n ops l K (ep (fr.strip ss) dst .aS) m'):bS P n ops (⟨dst,op,ty,pos,af,none⟩::l) K fr m:=
 uE (stl:=stl) ak aI (by simp only [mO,aX];exact ⟨al,h⟩)
theorem bS.new {dst:Option Nat} {op:Op} {ty:TypeId} {pos:String} {af:Array Edge} {stl ss:List Nat} {side:Prop} {mk:Nat→U} {o:fB} (ak:eQ n ⟨dst,op,ty,pos,af,none⟩=true) (aI:gh n ⟨dst,op,ty,pos,af,none⟩=true)
 (aX:eC P m (bd fr) stl dst op= .new side ss mk o) (al:side) (h:∀b,m b=none→bS P n ops l K (ep (fr.strip ss) dst (mk b)) (m.cQ b (some o))):bS P n ops (⟨dst,op,ty,pos,af,none⟩::l) K fr m:=
 uE (stl:=stl) ak aI (by simp only [mO,aX];exact ⟨al,h⟩)
theorem bS.bO {d:Nat} {op:Op} {ty:TypeId} {pos:String} {af:Array Edge} {side:Prop} {x:U} (ak:eQ n ⟨some d,op,ty,pos,af,none⟩=true) (aO:ba.bO P m (b4 (bd fr)) op=some (side,x)) (al:side)
 (h:bS P n ops l K (fr.put d x) m):bS P n ops (⟨some d,op,ty,pos,af,none⟩::l) K fr m:=
 bS.quiet (o:=⟨some d,op,ty,pos,af,none⟩) rfl rfl ak (by rw [←ui];exact aO) al h
end
section
variable {bs:List Nat} {fr:bJ} {L:List bu} {m:ae}
theorem AT {x:Operand} {v:aR} {k:bJ→Prop} (h:vl x v fr k) (bn:∀t,x= .tmp t→eR fr t=v):∃aZ,k aZ∧fz (bb bs aZ) ((bb bs fr).strip (kd x))∧∀y,fz (bb bs aZ) y→fz (bb bs aZ) y:=by
 cases x with
 |tmp t=>
  obtain rfl:=bn t rfl
  have au:=ko bs fr t
  have hle:(den bs (eR fr t)).plain=den bs (eR fr t)→fz (bb bs fr) ((bb bs fr).strip [t]):=fun e s bX aq=>by
   simp only [Fr.strip,Fr.put,Fr.get,au]
   by_cases aC:t=s
   · subst aC
     rw [if_pos rfl]
     refine ⟨_,rfl, .inl ?_⟩
     simp only [bd,aq,Option.getD_some] at au
     rw [au,e]
   · rw [if_neg aC];exact ⟨_,aq, .inl rfl⟩
  simp only [vl] at h
  cases bn:eR fr t with
  |own l=>
   rw [bn] at h au
   exact ⟨_,h,by simp only [bb,Fr.strip,kd,Fr.put,au,den,U.plain];exact fz.refl _,fun _ h=>h⟩
  |agg l=>
   rw [bn] at h au
   obtain ⟨u,h,hu⟩:=sA bs h
   exact ⟨_,h,by simp only [bb,Fr.strip,kd,Fr.put,au,den,U.plain,hu];exact fz.refl _,fun _ h=>h⟩
  |dw l=>rw [bn] at h;exact h.elim
  |aH x=>rw [bn] at h hle;exact ⟨_,h,hle (by simp only [den,sy]),fun _ h=>h⟩
  |b x=>rw [bn] at h hle;exact ⟨_,h,hle (by simp only [den,U.plain]),fun _ h=>h⟩
  |loc i o=>rw [bn] at h hle;exact ⟨_,h,hle (by simp only [den,U.plain]),fun _ h=>h⟩
  |ms i a b=>rw [bn] at h hle;exact ⟨_,h,hle (by simp only [den,U.plain]),fun _ h=>h⟩
  |mp i=>rw [bn] at h hle;exact ⟨_,h,hle (by simp only [den,U.plain]),fun _ h=>h⟩
  |hj i a b c=>rw [bn] at h hle;exact ⟨_,h,hle (by simp only [den,U.plain]),fun _ h=>h⟩
  |bT i a b c=>rw [bn] at h hle;exact ⟨_,h,hle (by simp only [den,U.plain]),fun _ h=>h⟩
  |fn f a c=>rw [bn] at h hle;exact ⟨_,h,hle (by simp only [den,U.plain]),fun _ h=>h⟩
  |off=>rw [bn] at h hle;exact ⟨_,h,hle (by simp only [den,U.plain]),fun _ h=>h⟩
 |const v=>exact ⟨_,h,fz.refl _,fun _ h=>h⟩
 |global g=>exact ⟨_,h,fz.refl _,fun _ h=>h⟩
 |func f=>exact ⟨_,h,fz.refl _,fun _ h=>h⟩
theorem Fc {x:Operand} {k:aR→Prop} (h:xf fr x k):∃v,k v∧den bs v=eB (bd (bb bs fr)) x∧∀t,x= .tmp t→eR fr t=v:=by
 cases x with
 |tmp t=>
  rw [xf,k7] at h
  exact ⟨_,h,by rw [eB,ko],fun _ e=>by cases e;rfl⟩
 |const v=>
  obtain ⟨u,J,e⟩:=EP bs h
  exact ⟨u,J,e,fun _ e=>by cases e⟩
 |global g=>exact ⟨_,h,by simp only [den,U.plain,eB],fun _ e=>by cases e⟩
 |func f=>exact ⟨_,h,by simp only [den,bm,eB],fun _ e=>by cases e⟩
theorem Fe {v:aR} (h:sO v=true):(den bs v).one=true:=by
 cases v<;>first|(simp only [den,U.one];done)|(simp [sO] at h;done)
theorem NK {x:U} {k:U→Prop} (h:mZ x k):x.one=true:=by
 cases x with
 |agg l=>exact h.elim
 |tuple l=>exact h.elim
 |lazy g x=>exact h.elim
 |aS=>exact h.elim
 |_=>rfl
theorem xF:∀{l:List aR} {k:List aR→Prop},sP l k→∃u,k u∧bm bs u=bm bs l∧(bm bs l).all U.one=true
 |[],_,h=>⟨_,h,rfl,by simp only [bm,List.all_nil]⟩
 |v::r,k,h=>by
  have iN:∀(h:b5 (sO v) (sP r fun et=>k (v::et))),∃u,k u∧bm bs u=bm bs (v::r)∧(bm bs (v::r)).all U.one=true:=fun h=>by
   obtain ⟨J,h⟩:=dN.1 h
   obtain ⟨u,h,e,aX⟩:=xF h
   exact ⟨_,h,by simp only [bm,e],by simp only [bm,List.all_cons,Fe J,aX,Bool.and_true]⟩
  cases v with
  |aH x=>
   have J:=NK h
   obtain ⟨bA,h⟩:=oB h
   obtain ⟨u,h,e,aX⟩:=xF h
   exact ⟨_,h,by simp only [bm,e],by simp only [bm,den,bA,List.all_cons,J,aX,Bool.and_true]⟩
  |own l=>exact iN h
  |b l=>exact iN h
  |loc i o=>exact iN h
  |ms i n c=>exact iN h
  |mp i=>exact iN h
  |hj i a w j=>exact iN h
  |bT i a w j=>exact iN h
  |agg l=>exact iN h
  |dw l=>exact iN h
  |fn f a c=>exact iN h
  |off=>exact iN h
theorem xG (bs:List Nat):∀(l:List U),bm bs (rf l)=U.eU l
 |[]=>by simp only [rf,bm,U.eU]
 |x::r=>by simp only [rf,bm,p8,U.eU,xG bs r]
theorem NL {x:U} (h:x.one=true):x.dy=true∧x.cells=[x]:=by cases x<;>first|exact ⟨rfl,rfl⟩|cases h
theorem AU {v:aR} {k:List aR→Prop} (h:xq v k):∃u,k u∧bm bs u=(den bs v).cells∧(den bs v).dy=true∧(den bs v).cells.all U.one=true:=by
 have iN:∀(h:b5 (sO v) (k [v])),∃u,k u∧bm bs u=(den bs v).cells∧(den bs v).dy=true∧(den bs v).cells.all U.one=true:=fun h=>by
  obtain ⟨J,h⟩:=dN.1 h
  have aa:=Fe (bs:=bs) J
  obtain ⟨ai,aJ⟩:=NL aa
  exact ⟨_,h,by rw [aJ];simp only [bm],ai,by rw [aJ];simp only [List.all_cons,List.all_nil,aa,Bool.and_true]⟩
 cases v with
 |agg l=>
  obtain ⟨u,h,e,aX⟩:=xF (bs:=bs) h
  exact ⟨_,h,by simp only [den,U.cells,e],by simp only [den,U.dy],by simp only [den,U.cells,aX]⟩
 |aH x=>
  cases x with
  |agg l=>
   obtain ⟨u,h,e,aX⟩:=xF (bs:=bs) h
   rw [xG] at e aX
   exact ⟨_,h,by simp only [den,U.plain,U.cells,e],by simp only [den,U.plain,U.dy],by simp only [den,U.plain,U.cells,aX]⟩
  |tuple l=>exact h.elim
  |lazy g l=>exact h.elim
  |aS=>exact h.elim
  |slice o l=>cases o with
   |true=>exact h.elim
   |false=>exact ⟨_,h,by simp only [bm,den,U.plain,U.cells],by simp only [den,U.plain,U.dy],by simp only [den,U.plain,U.cells,List.all_cons,U.one,List.all_nil,Bool.and_true]⟩
  |_=>exact ⟨_,h,by simp only [bm,den,U.plain,U.cells],by simp only [den,U.plain,U.dy],by simp only [den,U.plain,U.cells,List.all_cons,U.one,List.all_nil,Bool.and_true]⟩
 |own l=>exact iN h
 |b l=>exact iN h
 |loc i o=>exact iN h
 |ms i n c=>exact iN h
 |mp i=>exact iN h
 |hj i a w j=>exact iN h
 |bT i a w j=>exact iN h
 |dw l=>exact iN h
 |fn f a c=>exact iN h
 |off=>exact iN h
theorem AV:∀{l:List aR} {k:List aR→Prop},xr l k→∃u,k u∧bm bs u=U.eU (bm bs l)
 |[],_,h=>⟨_,h,by simp only [bm,U.eU]⟩
 |v::r,k,h=>by
  obtain ⟨aI,h⟩:=dN.1 h
  obtain ⟨iw,J,aM⟩:=sB bs aI h
  obtain ⟨et,aa,aC⟩:=AV J
  exact ⟨_,aa,by simp only [bm,U.eU,aM,aC]⟩
theorem NM {v:aR} {k:aR→Prop} (h:AK v k):∃u,k u∧den bs u=(den bs v).plain:=by
 unfold AK at h
 split at h
 · obtain ⟨bC,J,e⟩:=AV (bs:=bs) h
   exact ⟨_,J,by simp only [den,U.plain,e]⟩
 · obtain ⟨aI,J⟩:=dN.1 h
   exact sB bs aI J
theorem Ff (l cs:List aR) (off n:Nat):bm bs (vm l cs off n)=(bm bs l).take off++bm bs cs++(bm bs l).drop (off+n):=by
 simp only [vm,lJ,List.map_append,List.map_take,List.map_drop]
theorem NN {z:Z} {v:Value} (h:q8 v z=true):den bs z.q9=iu v:=by
 unfold q8 at h
 split at h
 · simp only [Bool.and_eq_true,decide_eq_true_eq] at h
   obtain ⟨rfl,rfl⟩:=h
   simp only [Z.q9,den,U.plain,iu]
 · simp only [decide_eq_true_eq] at h
   simp only [Z.q9,den,U.plain,iu,h]
 · rename_i b
   cases b
   · simp only [Z.q9,den,bD.val,iu]
   · cases h
 all_goals first|(cases h;done)|simp only [Z.q9,den,U.plain,iu]
theorem vq:∀{l:List Value} {z:List Z},ph l z=true→bm bs (jQ z)=l.map iu
 |[],[],_=>by simp only [jQ,bm,List.map_nil]
 |v::r,z::s,h=>by
  simp only [ph,Bool.and_eq_true] at h
  simp only [jQ,bm,List.map_cons,NN h.1,vq h.2]
 |[],_::_,h=>by cases h
 |_::_,[],h=>by cases h
theorem fX.hy {P:Program} {t:Nat} {i:gS} (cO:fX P t i) (ao:i.z≠[]):∃z,ba.hy P t=some z∧z.cells=bm bs (jQ i.z)∧z.dy=true∧(jQ i.z).length=i.n:=by
 obtain ⟨v,J,aa,ai,aJ⟩:=cO.zero ao
 have av:∀z:List Z,(jQ z).length=z.length:=fun z=>by
  induction z with
  |nil=>rfl
  |cons a r aQ=>simp only [jQ,List.length_cons,aQ]
 refine ⟨jI v,by simp only [ba.hy,J,aa,if_true],?_,?_,by rw [av,aJ]⟩
 · unfold sD at ai
   split at ai
   · simp only [Bool.and_eq_true] at ai
     rw [vq ai.2];rfl
   · rename_i bn
     simp only [Bool.and_eq_true] at ai
     have pr:(iu v).cells=[iu v]:=by
      unfold iu
      split<;>rfl
     have uV:jI v=iu v:=by
      cases v with
      |agg cs=>exact absurd rfl (bn cs)
      |iface t u=>
       cases nR:i.z with
       |nil=>exact absurd nR ao
       |cons a r=>rw [nR] at ai;simp [ph,q8] at ai
      |_=>rfl
     rw [vq ai.2,uV,pr]
     rfl
 · unfold sD at ai
   split at ai
   · rfl
   · rename_i bn
     simp only [Bool.and_eq_true] at ai
     have aY:=ai.2
     cases nR:i.z with
     |nil=>exact absurd nR ao
     |cons a r=>
      rw [nR] at aY
      simp only [ph,Bool.and_eq_true] at aY
      have bG:=aY.1
      unfold q8 at bG
      split at bG<;>first|rfl|cases bG
end
end Go.bV
end
section
namespace Go.bV
open Go Go.ba
section
variable {c:fy} {n:Nat} {bs:List Nat} {fr:bJ} {L:List bu} {m:ae} {K:Fr→ae→Prop} {ops:Array Oper} {l:List Oper} {ty:TypeId} {pos:String} {af:Array Edge}
def jR (P:Program) (n:Nat) (ops:Array Oper) (l:List Oper) (K:Fr→ae→Prop) (b0 bs:List Nat) (k:cE):Prop:=
 b0 <+: bs∧∀aZ bF m' gl,b0 <+: gl→Good gl bF m'→k aZ bF m'→bS P n ops l K (bb gl aZ) (bH gl bF m')
theorem jR.same {P:Program} {b0:List Nat} {k:cE} (h:jR P n ops l K b0 bs k) {aZ:bJ} {bF:List bu} {m':ae} (g:Good bs bF m') (ak:k aZ bF m'):bS P n ops l K (bb bs aZ) (bH bs bF m'):=h.2 aZ bF m' bs h.1 g ak
theorem jR.more {P:Program} {b0:List Nat} {k:cE} (h:jR P n ops l K b0 bs k) (ee:List Nat) {aZ:bJ} {bF:List bu} {m':ae} (g:Good (bs++ee) bF m') (ak:k aZ bF m'):bS P n ops l K (bb (bs++ee) aZ) (bH (bs++ee) bF m'):=h.2 aZ bF m' _ (h.1.trans (List.prefix_append _ _)) g ak
theorem nh {d:Option Nat} {v:aR} {fr:bJ} {k:bJ→Prop} (h:j4 d v fr k):∃aZ,k aZ∧bb bs aZ=ep (bb bs fr) d (den bs v):=by
 cases d with
 |some d=>exact ⟨_,h,rfl⟩
 |none=>exact ⟨_,h,rfl⟩
theorem fz.put {fe f:Fr} (h:fz fe f) (d:Option Nat) {bX x:U} (aq:j5 bX x):fz (ep fe d bX) (ep f d x):=by
 cases d with
 |some d=>exact h.cons d aq
 |none=>exact h
theorem Fg (d:Nat):((some d).map ([]:List Nat).contains).getD false=false:=rfl
theorem xH (d:Nat):((some d).map ([d]:List Nat).contains).getD false=true:=by simp
theorem Fh (aV:eX c.P c.T=true) (g:Good bs L m) {d:Nat} {op:Op} {k:cE} (ak:eQ n ⟨some d,op,ty,pos,af,none⟩=true) (ab:jR c.P n ops l K c.bs bs k) {w:Bool} (h:sI c.T w fr L op fun u=>k ((d,u)::fr) L m):
 bS c.P n ops (⟨some d,op,ty,pos,af,none⟩::l) K (bb bs fr) (bH bs L m):=by
 obtain ⟨side,z,u,aO,al,rfl,h⟩:=E8 (P:=c.P) (bs:=bs) (m:=m) aV g h
 exact bS.bO ak aO al (ab.same g h)
theorem Fi (g:Good bs L m) {d:Nat} {op:Op} {k:cE} (ak:eQ n ⟨some d,op,ty,pos,af,none⟩=true) (ab:jR c.P n ops l K c.bs bs k) (h:dC (bO c.P (bH bs L m) (b4 (bd (bb bs fr))) op) bs fun u=>k ((d,u)::fr) L m):
 bS c.P n ops (⟨some d,op,ty,pos,af,none⟩::l) K (bb bs fr) (bH bs L m):=by
 obtain ⟨side,z,u,aO,al,rfl,h⟩:=h
 exact bS.bO ak aO al (ab.same g h)
theorem NO (g:Good bs L m) {dst:Option Nat} {t:Nat} {k:cE} (ak:eQ n ⟨dst, .assign (.tmp t),ty,pos,af,none⟩=true) (aI:gh n ⟨dst, .assign (.tmp t),ty,pos,af,none⟩=true) (ab:jR c.P n ops l K c.bs bs k) {bT:List Nat} (h:hS c bT dst (.assign (.tmp t)) fr L m k):
 bS c.P n ops (⟨dst, .assign (.tmp t),ty,pos,af,none⟩::l) K (bb bs fr) (bH bs L m):=by
 simp only [hS] at h
 rw [k7] at h
 obtain ⟨NP,h⟩:=dN.1 h
 obtain ⟨u,h,hu⟩:=sB bs NP h
 obtain ⟨aZ,h,hle,_⟩:=AT (bs:=bs) h (fun t e=>by cases e;rfl)
 refine bS.val (stl:=[]) ak aI (by simp only [eC];rfl) trivial ?_
 have au:=ko bs fr t
 split at h
 · rename_i q bn
   obtain ⟨pt,h,aC⟩:=nh (bs:=bs) h
   refine bS.less ?_ (ab.same g h)
   rw [aC]
   exact hle.put dst (.inl (by rw [au,bn]))
 · obtain ⟨pt,h,aC⟩:=nh (bs:=bs) h
   refine bS.less ?_ (ab.same g h)
   rw [aC]
   exact hle.put dst (.pl (by rw [au,hu]))
theorem NQ (g:Good bs L m) {dst:Option Nat} {t:Nat} {k:cE} (ak:eQ n ⟨dst, .move (.tmp t),ty,pos,af,none⟩=true) (aI:gh n ⟨dst, .move (.tmp t),ty,pos,af,none⟩=true) (ab:jR c.P n ops l K c.bs bs k) {bT:List Nat} (h:hS c bT dst (.move (.tmp t)) fr L m k):
 bS c.P n ops (⟨dst, .move (.tmp t),ty,pos,af,none⟩::l) K (bb bs fr) (bH bs L m):=by
 simp only [hS] at h
 rw [k7] at h
 obtain ⟨u,aa,hu⟩:=NM (bs:=bs) h
 clear h
 have au:=ko bs fr t
 have gen:j4 dst u fr (fun fr=>k fr L m)→bS c.P n ops (⟨dst, .move (.tmp t),ty,pos,af,none⟩::l) K (bb bs fr) (bH bs L m):=fun aG=>by
  obtain ⟨pt,J,aC⟩:=nh (bs:=bs) aG
  cases dst with
  |none=>
   refine bS.val (stl:=[]) ak aI (by simp only [eC];rfl) trivial ?_
   have:=ab.same g J
   rw [aC] at this
   exact this
  |some d=>
   refine bS.val (stl:=[]) ak aI (by simp only [eC,Fg];rfl) trivial ?_
   have:=ab.same g J
   rw [aC,hu] at this
   simp only [Fr.strip,Fr.put,ep,au] at this ⊢
   exact this
 cases dst with
 |none=>
  refine gen ?_
  split at aa
  · rename_i e;cases e
  · exact aa
 |some d=>
  cases bn:eR fr t with
  |own q=>
   rw [bn] at aa
   simp only at aa
   cases al:sQ c bT d with
   |true=>
    rw [al] at aa
    refine bS.val (stl:=[d]) ak aI (by simp only [eC,xH,if_true];rfl) trivial ?_
    have:=ab.same g aa
    simp only [bb,hu] at this
    simp only [Fr.strip,Fr.put,ep,au]
    rw [←bn] at this
    exact this
   |false=>
    rw [al] at aa
    exact gen aa
  |_=>rw [bn] at aa;exact gen aa
theorem NR (g:Good bs L m) {dst:Option Nat} {t i:Nat} {k:cE} (ak:eQ n ⟨dst, .extract (.tmp t) i,ty,pos,af,none⟩=true) (aI:gh n ⟨dst, .extract (.tmp t) i,ty,pos,af,none⟩=true) (ab:jR c.P n ops l K c.bs bs k) {bT:List Nat} (h:hS c bT dst (.extract (.tmp t) i) fr L m k):
 bS c.P n ops (⟨dst, .extract (.tmp t) i,ty,pos,af,none⟩::l) K (bb bs fr) (bH bs L m):=by
 simp only [hS] at h
 rw [k7] at h
 have au:=ko bs fr t
 cases dst with
 |none=>cases bn:eR fr t<;>rw [bn] at h<;>exact h.elim
 |some d=>
  have gen:sH (eR fr t) i (fun u=>k ((d,u)::fr) L m)→bS c.P n ops (⟨some d, .extract (.tmp t) i,ty,pos,af,none⟩::l) K (bb bs fr) (bH bs L m):=fun h=>
   Fi g ak ab (E6 (P:=c.P) h (by rw [b4,au]))
  cases bn:eR fr t with
  |dw q=>
   rw [bn] at h au gen
   simp only [den] at h au
   cases aq:nth q i with
   |none=>rw [aq] at h;exact h.elim
   |some x=>
    rw [aq] at h
    obtain ⟨aC,cl⟩:=qa (bs:=bs) aq
    cases x with
    |own y=>
     simp only at h
     obtain ⟨bC,J,l8⟩:=AV (bs:=bs) h
     cases al:sQ c bT d with
     |true=>
      rw [al] at J
      refine bS.val (stl:=[d]) (ss:=[t]) (side:=i<(bm bs q).length) (m':=bH bs L m) (x:=(bm bs q).getD i .aS) ak aI (by simp only [eC,au,xH,if_true]) cl ?_
      have:=ab.same g J
      simp only [bb,den,l8] at this
      simp only [Fr.strip,Fr.put,ep,au,U.plain,aC,den]
      exact this
     |false=>
      rw [al] at J
      refine bS.val (stl:=[]) (ss:=[]) (side:=i<(bm bs q).length) (m':=bH bs L m) (x:=((bm bs q).getD i .aS).plain) ak aI (by simp only [eC,au,Fg];rfl) cl ?_
      have:=ab.same g J
      simp only [bb,den,U.plain] at this
      simp only [Fr.strip,Fr.put,ep,aC,den,U.plain]
      exact this
    |_=>exact gen (by simp only [sH,aq];exact h)
  |_=>rw [bn] at h gen;exact gen h
theorem ub (aV:eX c.P c.T=true) {b0:List Nat} {new:List Nat} (ag:bs=b0++new) (dh:c.bs=b0) (g:Good bs L m) {dst:Option Nat} {t:Nat} {x:Operand} {k:cE} (ak:eQ n ⟨dst, .load t x,ty,pos,af,none⟩=true) (aI:gh n ⟨dst, .load t x,ty,pos,af,none⟩=true) (ab:jR c.P n ops l K c.bs bs k) {bT:List Nat} (h:hS c bT dst (.load t x) fr L m k):
 bS c.P n ops (⟨dst, .load t x,ty,pos,af,none⟩::l) K (bb bs fr) (bH bs L m):=by
 simp only [hS] at h
 obtain ⟨v,h,e⟩:=e0 bs h
 obtain ⟨i,cO,h⟩:=dT aV h
 cases dst with
 |none=>exact h.elim
 |some d=>
  have key:pk L i v (fun u=>k ((d,u)::fr) L m)→bS c.P n ops (⟨some d, .load t x,ty,pos,af,none⟩::l) K (bb bs fr) (bH bs L m):=fun h=>
   Fi g ak ab (E3 cO g h e)
  have j6:hz c.P c.bs (some d) (.load t x) fr L m k→bS c.P n ops (⟨some d, .load t x,ty,pos,af,none⟩::l) K (bb bs fr) (bH bs L m):=fun h=>by
   subst dh
   subst ag
   exact h.h new g n ops ty pos af l K ak aI ab.2
  cases v with
  |loc b off=>
   simp only at h
   cases mi:nth L b with
   |none=>rw [mi] at h;exact key h
   |some o=>
    rw [mi] at h
    cases o with
    |obj o=>exact key h
    |cells dK=>
     simp only at h
     cases aO:nth dK off with
     |none=>rw [aO] at h;exact key h
     |some y=>
      rw [aO] at h
      cases y with
      |own q=>
       simp only at h
       cases al:sQ c bT d with
       |false=>rw [al] at h;exact key h
       |true=>
        cases db:i.k.hR with
        |true=>rw [al,db] at h;exact key h
        |false=>
         rw [al,db] at h
         rw [ig] at mi
         have hm:=kp g mi
         obtain ⟨aC,cl⟩:=qa (bs:=bs) aO
         refine bS.val (stl:=[d]) (ss:=[]) (side:=dS c.P t=true∧jW c.P t=false∧off<(bm bs dK).length) (m':=(bH bs L m).cQ (bs.getD b 0) (some (.cells ((bm bs dK).set off ((bm bs dK).getD off .aS).plain)))) (x:=(bm bs dK).getD off .aS) ak aI ?_ ⟨cO.is,cO.sE.trans db,cl⟩ ?_
         · have c8:b4 (bd (bb bs fr)) x= .ptr ⟨bs.getD b 0,off,none⟩:=by rw [←e];simp only [den]
           simp only [eC,xH,if_true,c8,hm,dV]
         · have:=ab.same (g.set b (.cells (dK.set off (.aH (.slice false q))))) h
           rw [←mem_set g mi] at this
           have fQ:bm bs (dK.set off (.aH (.slice false q)))=(bm bs dK).set off (.slice false q):=by simp only [lJ,List.map_set,den,U.plain]
           simp only [bb,dV,fQ] at this
           simp only [Fr.strip,Fr.put,ep,aC,den,U.plain]
           exact this
      |_=>exact key h
  |aH y=>exact key h
  |hj b q w j=>
   cases nU:qe c (some d) with
   |true=>simp only [nU] at h;exact j6 h
   |false=>simp only [nU] at h;exact key h
  |_=>exact j6 h
theorem NS {bs:List Nat} {u:List aR} {x:U} (h:bm bs u=x.cells):u.length=x.cells.length:=by rw [←h,ju]
theorem NT (aV:eX c.P c.T=true) {b0:List Nat} {new:List Nat} (ag:bs=b0++new) (dh:c.bs=b0) (g:Good bs L m) {dst:Option Nat} {t:Nat} {a x:Operand} {k:cE} (bo:dst=none) (ak:eQ n ⟨dst, .store t a x,ty,pos,af,none⟩=true) (aI:gh n ⟨dst, .store t a x,ty,pos,af,none⟩=true) (ab:jR c.P n ops l K c.bs bs k) {bT:List Nat} (h:hS c bT dst (.store t a x) fr L m k):
 bS c.P n ops (⟨dst, .store t a x,ty,pos,af,none⟩::l) K (bb bs fr) (bH bs L m):=by
 have j6:hz c.P c.bs dst (.store t a x) fr L m k→bS c.P n ops (⟨dst, .store t a x,ty,pos,af,none⟩::l) K (bb bs fr) (bH bs L m):=fun h=>by
  subst dh;subst ag
  exact h.h new g n ops ty pos af l K ak aI ab.2
 subst bo
 simp only [hS] at h
 obtain ⟨p,h,e⟩:=e0 bs h
 split at h
 · rename_i b off
   obtain ⟨v,h,aC,j1⟩:=Fc (bs:=bs) h
   obtain ⟨i,cO,h⟩:=dT aV h
   split at h
   · rename_i dK mi
     obtain ⟨cs,h,j0,mX,hx⟩:=AU (bs:=bs) h
     obtain ⟨vr,h⟩:=dN.1 h
     obtain ⟨nV,h⟩:=dN.1 h
     obtain ⟨aZ,h,hle,_⟩:=AT (bs:=bs) h j1
     rw [gJ,gJ] at h
     rw [ig] at mi
     have hm:=kp g mi
     have hlen:=NS j0
     rw [aC] at j0 mX hx hlen
     have NU:=Nat.eq_of_beq_eq_true vr
     have NV:=Nat.le_of_ble_eq_true nV
     refine bS.nI (stl:=[]) (ss:=kd x) (side:=(eB (bd (bb bs fr)) x).dy=true∧((eB (bd (bb bs fr)) x).cells.all U.one)=true∧(eB (bd (bb bs fr)) x).cells.length=c.P.cellsOf t∧dS c.P t=true∧off+c.P.cellsOf t≤(bm bs dK).length)
      (m':=(bH bs L m).cQ (bs.getD b 0) (some (.cells ((bm bs dK).take off++(eB (bd (bb bs fr)) x).cells++(bm bs dK).drop (off+c.P.cellsOf t))))) ak aI ?_ ⟨mX,hx,by rw [←hlen,NU,cO.cells],cO.is,by rw [cO.cells,ju];exact NV⟩ ?_
     · have c8:b4 (bd (bb bs fr)) a= .ptr ⟨bs.getD b 0,off,none⟩:=by rw [←e];simp only [den]
       simp only [eC,c8,hm,dV]
     · have:=ab.same (g.set b (.cells (vm dK cs off i.n))) h
       rw [←mem_set g mi] at this
       simp only [dV,Ff,j0] at this
       rw [cO.cells]
       exact bS.less hle this
   · exact j6 h
 · exact j6 h
theorem AW {o:bu} (g:Good bs L m) {k:Nat→List bu→Prop} (h:xu fr L o k) {b:Nat} (ag:bH bs L m b=none):k L.length (L++[o])∧Good (bs++[b]) (L++[o]) m∧bH (bs++[b]) (L++[o]) m=(bH bs L m).cQ b (some (dV (bs++[b]) o))∧bb (bs++[b]) fr=bb bs fr∧(bs++[b]).getD L.length 0=b∧kP bs.length L=true:=by
 obtain ⟨J,h⟩:=dN.1 h
 obtain ⟨aa,h⟩:=dN.1 h
 rw [←g.len] at J aa
 obtain ⟨dr,e⟩:=Ao g aa ag o
 exact ⟨h,dr,e,vc J,by rw [←g.len,List.getD_eq_getElem?_getD,List.getElem?_append_right (Nat.le_refl _)];simp,aa⟩
theorem NW (bs gl:List Nat) (z:List Z):bm bs (jQ z)=bm gl (jQ z):=by
 induction z with
 |nil=>simp only [jQ,bm]
 |cons a r aQ=>
  simp only [jQ,bm,aQ]
  cases a<;>simp only [Z.q9,den]
theorem NX (aV:eX c.P c.T=true) {b0:List Nat} {new:List Nat} (ag:bs=b0++new) (dh:c.bs=b0) (g:Good bs L m) {dst:Option Nat} {t:Nat} {k:cE} (ak:eQ n ⟨dst, .alloc t,ty,pos,af,none⟩=true) (aI:gh n ⟨dst, .alloc t,ty,pos,af,none⟩=true) (ab:jR c.P n ops l K c.bs bs k) {bT:List Nat} (h:hS c bT dst (.alloc t) fr L m k):
 bS c.P n ops (⟨dst, .alloc t,ty,pos,af,none⟩::l) K (bb bs fr) (bH bs L m):=by
 simp only [hS] at h
 obtain ⟨i,cO,h⟩:=dT aV h
 split at h
 · subst dh;subst ag
   exact h.h new g n ops ty pos af l K ak aI ab.2
 · rename_i gg
   rw [gJ] at h
   obtain ⟨z,pY,DL,nL,_⟩:=cO.hy (fun e=>gg e)
   refine bS.new (stl:=[]) (ss:=[]) (side:=z.dy=true) (mk:=fun b=> .ptr ⟨b,0,none⟩) (o:= .cells z.cells) ak aI (by simp only [eC,pY]) nL fun b ag=>?_
   obtain ⟨h,dr,aM,aC,c8,_⟩:=AW g h ag
   rw [gJ] at h
   obtain ⟨aZ,h,fQ⟩:=nh (bs:=bs++[b]) h
   have:=ab.more _ dr h
   rw [aM,fQ,aC] at this
   simp only [dV,den,c8] at this
   rw [NW (bs++[b]) bs,←DL] at this
   exact this
theorem NY (g:Good bs L m) {dst:Option Nat} {t:Nat} {x:Operand} {k:cE} (ak:eQ n ⟨dst, .box t x,ty,pos,af,none⟩=true) (aI:gh n ⟨dst, .box t x,ty,pos,af,none⟩=true) (ab:jR c.P n ops l K c.bs bs k) {bT:List Nat} (h:hS c bT dst (.box t x) fr L m k):
 bS c.P n ops (⟨dst, .box t x,ty,pos,af,none⟩::l) K (bb bs fr) (bH bs L m):=by
 simp only [hS] at h
 obtain ⟨v,J,aC,j1⟩:=Fc (bs:=bs) h
 obtain ⟨cs,aa,j0,mX,hx⟩:=AU (bs:=bs) J
 obtain ⟨aZ,ai,hle,_⟩:=AT (bs:=bs) aa j1
 obtain ⟨um,aJ⟩:=dN.1 ai
 refine qY (stl:=[]) ak aI ?_
 simp only [j3,hI]
 refine ⟨by rw [←aC];exact mX,fun b ag=>?_⟩
 obtain ⟨aY,dr,aM,c8,fQ,_⟩:=AW g aJ ag
 rw [gJ] at aY
 obtain ⟨pt,bG,vt⟩:=nh (bs:=bs++[b]) aY
 have:=ab.more _ dr bG
 rw [←g.len] at um
 rw [aM,vt,c8] at this
 simp only [dV,den,fQ,q7 (x:=[b]) um,j0,aC] at this
 exact bS.less (hle.put dst (.inl rfl)) this
theorem NZ (aV:eX c.P c.T=true) (g:Good bs L m) {dst:Option Nat} {t:Nat} {k:cE} (ak:eQ n ⟨dst, .makeMap t none,ty,pos,af,none⟩=true) (aI:gh n ⟨dst, .makeMap t none,ty,pos,af,none⟩=true) (ab:jR c.P n ops l K c.bs bs k) {bT:List Nat} (h:hS c bT dst (.makeMap t none) fr L m k):
 bS c.P n ops (⟨dst, .makeMap t none,ty,pos,af,none⟩::l) K (bb bs fr) (bH bs L m):=by
 simp only [hS] at h
 obtain ⟨i,cO,J⟩:=dT aV h
 obtain ⟨ao,aa⟩:=dN.1 J
 obtain ⟨qc,gk,er⟩:∃qc gk,i.k= .mp qc gk:=by cases aA:i.k<;>rw [aA] at ao<;>first|exact ⟨_,_,rfl⟩|cases ao
 refine bS.new (stl:=[]) (ss:=[]) (side:=True) (mk:=fun b=> .map b) (o:= .map []) ak aI (by simp only [eC,cO.mp er];rfl) trivial fun b ag=>?_
 obtain ⟨aY,dr,aM,c8,fQ,_⟩:=AW g aa ag
 rw [gJ] at aY
 obtain ⟨pt,bG,vt⟩:=nh (bs:=bs++[b]) aY
 have:=ab.more _ dr bG
 rw [aM,vt,c8] at this
 simp only [dV,den,fQ] at this
 exact this
theorem toK_go:∀{l:List aR} {k:List U→Prop},toK.go l k→k (bm bs l)
 |[],_,h=>by simp only [bm];exact h
 | .aH x::r,k,h=>by
   obtain ⟨bA,J⟩:=oB (k:=fun bX=>toK.go r fun et=>k (bX::et)) h
   have:=toK_go (l:=r) J
   simp only [bm,den,bA]
   exact this
 | .b q::r,k,h=>by
   have:=toK_go (l:=r) (k:=fun et=>k (.bool q.val::et)) h
   simp only [bm,den]
   exact this
 | .own _::_,_,h| .loc _ _::_,_,h| .ms _ _ _::_,_,h| .mp _::_,_,h| .hj _ _ _ _::_,_,h| .bT _ _ _ _::_,_,h| .agg _::_,_,h| .dw _::_,_,h| .fn _ _ _::_,_,h| .off::_,_,h=>h.elim
theorem N0 {x:U} {k:U→Prop} (h:sC x k):x.dy=true:=by
 cases x with
 |tuple l=>exact h.elim
 |lazy g x=>exact h.elim
 |aS=>exact h.elim
 |_=>rfl
theorem toK_sound {v:aR} {k:U→Prop} (h:toK v k):k (den bs v)∧(den bs v).dy=true:=by
 cases v with
 |aH x=>
  have aB:=N0 h
  obtain ⟨e,h⟩:=xc h
  simp only [den,e]
  exact ⟨h,aB⟩
 |b q=>simp only [den];exact ⟨h,rfl⟩
 |agg l=>
  have J:=toK_go (bs:=bs) (l:=l) (k:=fun bC=>k (.agg bC)) h
  simp only [den]
  exact ⟨J,rfl⟩
 |_=>exact h.elim
theorem toLK_sound:∀{l:List aR} {k:List U→Prop},toLK l k→k (bm bs l)∧∀x∈bm bs l,x.dy=true
 |[],_,h=>⟨by simp only [bm];exact h,by simp only [bm];simp⟩
 |v::r,k,h=>by
  obtain ⟨J,aB⟩:=toK_sound (bs:=bs) h
  obtain ⟨aa,au⟩:=toLK_sound J
  refine ⟨by simp only [bm];exact aa,fun x aq=>?_⟩
  simp only [bm,List.mem_cons] at aq
  rcases aq with rfl|aq
  · exact aB
  · exact au x aq
theorem xI:∀{ps:List (Nat×Operand)} {k:List (Nat×aR)→Prop},rh fr ps k→∃us,k us∧us.map (fun p=>(p.1,den bs p.2))=ps.map (fun p=>(p.1,b4 (bd (bb bs fr)) p.2))
 |[],_,h=>⟨_,h,rfl⟩
 |(i,x)::r,k,h=>by
  obtain ⟨v,J,e⟩:=e0 bs h
  obtain ⟨us,aa,aC⟩:=xI J
  exact ⟨_,aa,by simp only [List.map_cons,e,aC]⟩
theorem Fj:∀{ps:List (Nat×aR)} {n:Nat},idxFrom n ps=true→ps.map (·.1)=(List.range ps.length).map (n+·)
 |[],_,_=>rfl
 |(i,v)::r,n,h=>by
  simp only [idxFrom] at h
  cases ag:Nat.beq n i with
  |false=>rw [ag] at h;cases h
  |true=>
   rw [ag] at h
   have:=Fj (ps:=r) (n:=n+1) h
   simp only [List.map_cons,List.length_cons,List.range_succ_eq_map,List.map_map,this,Nat.eq_of_beq_eq_true ag,Nat.add_zero]
   congr 1
   apply List.map_congr_left
   intro a _
   simp only [Function.comp]
   omega
theorem Fk:∀(ps:List (Nat×aR)),nS ps=ps.map (·.2)
 |[]=>rfl
 |(_,v)::r=>by simp only [nS,List.map_cons,Fk r]
theorem Fl (aV:eX c.P c.T=true) {t e:Nat} {i j:gS} (dp:fX c.P t i) (ad:i.k= .bT e) (e8:fX c.P e j) {cm:Nat} {parts:Array (Nat×Operand)} {us:List (Nat×aR)} (he:us.map (fun p=>(p.1,den bs p.2))=parts.toList.map (fun p=>(p.1,b4 (bd (bb bs fr)) p.2)))
 (J:idxFrom 0 us=true) (aa:Nat.beq us.length cm=true) (ai:Nat.ble (cm*j.n) 16777216=true) (aJ:∀x∈bm bs (nS us),x.dy=true) (aY:((bm bs (nS us)).all fun x=>Nat.beq x.cells.length j.n)=true) {d:Option Nat} {stl:List Nat} (al:(d.map stl.contains).getD false=false):
 eC c.P m (bd (bb bs fr)) stl d (.buildSlice t cm parts)= .val (dS c.P e=true∧0<c.P.cellsOf e∧k2 c.P e=true∧cm*c.P.cellsOf e≤16777216∧parts.toList.map (·.1)=List.range cm∧∀p∈parts.toList,(b4 (bd (bb bs fr)) p.2).dy=true∧(b4 (bd (bb bs fr)) p.2).cells.length=c.P.cellsOf e) [] m (.slice true (bm bs (nS us)))∧
 (dS c.P e=true∧0<c.P.cellsOf e∧k2 c.P e=true∧cm*c.P.cellsOf e≤16777216∧parts.toList.map (·.1)=List.range cm∧∀p∈parts.toList,(b4 (bd (bb bs fr)) p.2).dy=true∧(b4 (bd (bb bs fr)) p.2).cells.length=c.P.cellsOf e):=by
 obtain ⟨jY,jM,nd,po⟩:=dp.bT ad
 have bn:bm bs (nS us)=parts.toList.map fun p=>b4 (bd (bb bs fr)) p.2:=by
  have:=congrArg (List.map Prod.snd) he
  simp only [List.map_map] at this
  rw [lJ,Fk,List.map_map]
  exact this
 have N1:parts.toList.map (·.1)=us.map (·.1):=by
  have:=congrArg (List.map Prod.fst) he
  simp only [List.map_map] at this
  exact this.symm
 refine ⟨by simp only [eC,al,jY,bn];rfl,jM,nd,po,by rw [e8.cells];exact Nat.le_of_ble_eq_true ai,?_,fun p aU=>?_⟩
 · rw [N1,Fj J,←Nat.eq_of_beq_eq_true aa]
   simp
 · have hm:b4 (bd (bb bs fr)) p.2∈bm bs (nS us):=by rw [bn];exact List.mem_map_of_mem (f:=fun p=>b4 (bd (bb bs fr)) p.2) aU
   refine ⟨aJ _ hm,?_⟩
   rw [List.all_eq_true] at aY
   rw [e8.cells]
   exact Nat.eq_of_beq_eq_true (aY _ hm)
theorem N2 {v:aR} {k:List aR→Prop} (h:qd.AL v k):∃u,k u∧bm bs u=(den bs v).cells∧(den bs v).dy=true:=by
 cases v with
 |agg l=>exact ⟨_,h,by simp only [den,U.cells],rfl⟩
 |aH x=>
  cases x with
  |agg l=>
   simp only [qd.AL] at h
   rw [gJ] at h
   exact ⟨_,h,by simp only [den,U.plain,U.cells,xG],by simp only [den,U.plain,U.dy]⟩
  |tuple l=>exact h.elim
  |lazy g x=>exact h.elim
  |aS=>exact h.elim
  |slice o l=>
   obtain ⟨e,h⟩:=oB (k:=fun bX=>k [.aH bX]) h
   exact ⟨_,h,by simp only [den,bm,U.plain,U.cells],by simp only [den,U.plain,U.dy]⟩
  |_=>exact ⟨_,h,by simp only [den,bm,U.plain,U.cells],by simp only [den,U.plain,U.dy]⟩
 |dw l=>exact h.elim
 |off=>exact h.elim
 |_=>exact ⟨_,h,by simp only [den,bm,U.cells],by simp only [den,U.dy]⟩
theorem Fm (aV:eX c.P c.T=true) {cL:List (Nat×Nat)} {dU:Array Field} (jn:dU.toList.map (fun f=>(f.offset,f.type))=cL):∀{us:List (Nat×aR)} {cs:List aR} {k:List aR→Prop},qd c.T cL us cs k→
 ∃cells,k cells∧lE (fun i=>(dU[i]?).map fun f=>(f.offset,c.P.cellsOf f.type)) (bm bs cs) (us.map fun p=>(p.1,den bs p.2))=some (bm bs cells)∧∀p∈us,(den bs p.2).dy=true
 |[],cs,k,h=>⟨_,h,rfl,by simp⟩
 |(i,v)::r,cs,k,h=>by
  simp only [qd] at h
  cases aI:nth cL i with
  |none=>rw [aI] at h;exact h.elim
  |some q=>
   obtain ⟨off,t⟩:=q
   rw [aI] at h
   obtain ⟨j,e8,J⟩:=dT aV h
   obtain ⟨vs,aa,ov,mX⟩:=N2 (bs:=bs) J
   obtain ⟨vr,ai⟩:=dN.1 aa
   obtain ⟨nV,aJ⟩:=dN.1 ai
   rw [gJ] at aJ
   obtain ⟨cells,aY,e,aB⟩:=Fm aV jn aJ
   have aN:(dU[i]?).map (fun f=>(f.offset,c.P.cellsOf f.type))=some (off,j.n):=by
    rw [ig,←jn,List.getElem?_map] at aI
    cases aO:dU.toList[i]? with
    |none=>rw [aO] at aI;cases aI
    |some fd=>
     rw [aO] at aI
     simp only [Option.map_some,Option.some.injEq,Prod.mk.injEq] at aI
     obtain ⟨rfl,rfl⟩:=aI
     have:dU[i]?=some fd:=by simpa using aO
     rw [this]
     simp only [Option.map_some,e8.cells]
   refine ⟨cells,aY,?_,fun p aU=>?_⟩
   · simp only [List.map_cons,lE,aN]
     have av:(den bs v).cells.length=j.n:=by rw [←ov,ju];exact Nat.eq_of_beq_eq_true vr
     rw [if_pos ⟨av,by rw [ju];exact Nat.le_of_ble_eq_true nV⟩,←ov,←Ff]
     exact e
   · rcases List.mem_cons.1 aU with rfl|aU
     · exact mX
     · exact aB p aU
theorem Fo (aV:eX c.P c.T=true) {t:Nat} {i:gS} (dp:fX c.P t i) {cL:List (Nat×Nat)} (ad:i.k= .st cL) (ao:i.z≠[]) {parts:Array (Nat×Operand)} {k:List aR→Prop} (h:rh fr parts.toList fun ps=>qd c.T cL ps (jQ i.z) k) {d:Option Nat} {stl:List Nat} (al:(d.map stl.contains).getD false=false):
 ∃cells side,k cells∧eC c.P m (bd (bb bs fr)) stl d (.build t parts)= .val side [] m (.agg (bm bs cells))∧side:=by
 obtain ⟨dU,jY,jM,nd⟩:=dp.st ad
 obtain ⟨z,rl,z2,z3,_⟩:=dp.hy (bs:=bs) ao
 obtain ⟨us,J,e⟩:=xI (bs:=bs) h
 obtain ⟨cells,aa,aC,aB⟩:=Fm (bs:=bs) aV jM J
 refine ⟨cells,z.dy=true∧(∀f∈dU.toList,dS c.P f.type=true)∧∀p∈parts.toList,(b4 (bd (bb bs fr)) p.2).dy=true,aa,?_,?_⟩
 · rw [e,←z2] at aC
   simp only [eC,al,jY,rl,aC]
   rfl
 · refine ⟨z3,fun f aN=>(nd f aN).1,fun p aU=>?_⟩
   have hm:(p.1,b4 (bd (bb bs fr)) p.2)∈us.map (fun p=>(p.1,den bs p.2)):=by rw [e];exact List.mem_map_of_mem (f:=fun p=>(p.1,b4 (bd (bb bs fr)) p.2)) aU
   obtain ⟨q,aO,Fp⟩:=List.mem_map.1 hm
   have:=aB q aO
   simp only [Prod.mk.injEq] at Fp
   rw [←Fp.2];exact this
end
end Go.bV
end
section
namespace Go.bV
open Go Go.ba
section
variable {c:fy} {n:Nat} {fr:bJ} {L:List bu} {m:ae} {K:Fr→ae→Prop} {ops:Array Oper} {l:List Oper} {ty:TypeId} {pos:String} {af:Array Edge}
theorem N3 {bs:List Nat} (aV:eX c.P c.T=true) (g:Good bs L m) {dst:Option Nat} {t:Nat} {parts:Array (Nat×Operand)} {k:cE} (ak:eQ n ⟨dst, .build t parts,ty,pos,af,none⟩=true) (aI:gh n ⟨dst, .build t parts,ty,pos,af,none⟩=true) (ab:jR c.P n ops l K c.bs bs k) {bT:List Nat} (j6:hz c.P c.bs dst (.build t parts) fr L m k→bS c.P n ops (⟨dst, .build t parts,ty,pos,af,none⟩::l) K (bb bs fr) (bH bs L m)) (h:hS c bT dst (.build t parts) fr L m k):
 bS c.P n ops (⟨dst, .build t parts,ty,pos,af,none⟩::l) K (bb bs fr) (bH bs L m):=by
 simp only [hS] at h
 cases nU:qe c dst with
 |true=>rw [nU] at h;exact j6 h
 |false=>
 rw [nU] at h
 obtain ⟨i,dp,J⟩:=dT aV h
 cases ad:i.k with
 |st cL=>
  rw [ad] at J
  obtain ⟨ao,aa⟩:=dN.1 J
  rw [gJ] at aa
  obtain ⟨cells,side,ai,aX,al⟩:=Fo (bs:=bs) (m:=bH bs L m) (stl:=[]) (d:=dst) aV dp ad (by intro e;rw [e] at ao;cases ao) aa (by cases dst<;>rfl)
  obtain ⟨aZ,aJ,e⟩:=nh (bs:=bs) ai
  refine bS.val (stl:=[]) ak aI aX al ?_
  have:=ab.same g aJ
  rw [e] at this
  simp only [den] at this
  exact this
 |_=>rw [ad] at J;exact J.elim
theorem N4 {b0 new:List Nat} (aV:eX c.P c.T=true) (dh:c.bs=b0) (g:Good (b0++new) L m) {dst:Option Nat} {t cm:Nat} {parts:Array (Nat×Operand)} {k:cE} (ak:eQ n ⟨dst, .buildSlice t cm parts,ty,pos,af,none⟩=true) (aI:gh n ⟨dst, .buildSlice t cm parts,ty,pos,af,none⟩=true) (ab:jR c.P n ops l K c.bs (b0++new) k) {bT:List Nat} (h:hS c bT dst (.buildSlice t cm parts) fr L m k):
 bS c.P n ops (⟨dst, .buildSlice t cm parts,ty,pos,af,none⟩::l) K (bb (b0++new) fr) (bH (b0++new) L m):=by
 simp only [hS] at h
 cases dst with
 |none=>exact h.elim
 |some d=>
  simp only at h
  cases al:has bT d with
  |true=>
   rw [al] at h
   subst dh
   exact h.h new g n ops ty pos af l K ak aI ab.2
  |false=>
   rw [al] at h
   obtain ⟨i,dp,J⟩:=dT aV h
   unfold jv at J
   cases ad:i.k with
   |bT e=>
    rw [ad] at J
    obtain ⟨j,e8,aa⟩:=dT aV J
    obtain ⟨us,ai,he⟩:=xI (bs:=b0++new) aa
    obtain ⟨jd,aJ⟩:=dN.1 ai
    obtain ⟨c2,aY⟩:=dN.1 aJ
    obtain ⟨c3,bG⟩:=dN.1 aY
    obtain ⟨c7,aB⟩:=toLK_sound (bs:=b0++new) bG
    obtain ⟨c4,cV⟩:=dN.1 c7
    obtain ⟨aX,uT⟩:=Fl (bs:=b0++new) (m:=bH (b0++new) L m) (stl:=[]) (d:=some d) aV dp ad e8 he jd c2 c3 aB c4 rfl
    refine bS.val (stl:=[]) ak aI aX uT ?_
    have:=ab.same g cV
    simp only [bb,den] at this
    exact this
   |_=>rw [ad] at J;exact J.elim
theorem Fq {b0 new:List Nat} (dh:c.bs=b0) (g:Good (b0++new) L m) {dst:Option Nat} {op:Op} {f:FuncId} {vs:List aR} {k:cE} (ak:eQ n ⟨dst,op,ty,pos,af,none⟩=true) (aI:gh n ⟨dst,op,ty,pos,af,none⟩=true) (ab:jR c.P n ops l K c.bs (b0++new) k)
 (aX:eC c.P (bH (b0++new) L m) (bd (bb (b0++new) fr)) [] dst op= .call f (bm (b0++new) vs)) (h:nf c.P c.bs f vs fr L m fun y bF m'=>j4 dst y fr fun fr=>k fr bF m'):
 bS c.P n ops (⟨dst,op,ty,pos,af,none⟩::l) K (bb (b0++new) fr) (bH (b0++new) L m):=by
 subst dh
 obtain ⟨σ,fO,N5,N6,N7,J,DT,uC⟩:=h
 refine uE (stl:=[]) ak aI ?_
 simp only [mO,aX]
 refine J new g _ fun x aq ee dr=>?_
 have aa:=DT x
 have ai:=uC x aq
 generalize N5 x=y at ai ⊢
 generalize N6 x=bF at aa ai dr ⊢
 generalize N7 x=aF at ai dr ⊢
 obtain ⟨aZ,aJ,e⟩:=nh (bs:=c.bs++new++ee) ai
 have:=ab.more ee dr aJ
 rw [e] at this
 have aC:bb (c.bs++new++ee) fr=bb (c.bs++new) fr:=by
  cases ag:Nat.beq bF.length L.length with
  |true=>
   have av:bF.length=L.length:=Nat.eq_of_beq_eq_true ag
   have aY:=dr.len
   have bG:=g.len
   have:ee=[]:=by
    apply List.eq_nil_of_length_eq_zero
    simp only [List.length_append] at aY bG
    omega
   rw [this,List.append_nil]
  |false=>
   rw [ag] at aa
   rw [←g.len] at aa
   exact vc aa
 rw [aC] at this
 cases dst with
 |none=>exact this
 |some d=>exact this
theorem N8 {b0 new:List Nat} (aV:eX c.P c.T=true) (dh:c.bs=b0) (g:Good (b0++new) L m) {dst:Option Nat} {args:Array Operand} {cT:Array TypeId} {k:cE} (ak:eQ n ⟨dst, .call ⟨.builtin .append,args,cT⟩,ty,pos,af,none⟩=true) (aI:gh n ⟨dst, .call ⟨.builtin .append,args,cT⟩,ty,pos,af,none⟩=true) (ab:jR c.P n ops l K c.bs (b0++new) k) {bT:List Nat} (h:hS c bT dst (.call ⟨.builtin .append,args,cT⟩) fr L m k):
 bS c.P n ops (⟨dst, .call ⟨.builtin .append,args,cT⟩,ty,pos,af,none⟩::l) K (bb (b0++new) fr) (bH (b0++new) L m):=by
 have j6:hz c.P c.bs dst (.call ⟨.builtin .append,args,cT⟩) fr L m k→bS c.P n ops (⟨dst, .call ⟨.builtin .append,args,cT⟩,ty,pos,af,none⟩::l) K (bb (b0++new) fr) (bH (b0++new) L m):=fun h=>by
  subst dh
  exact h.h new g n ops ty pos af l K ak aI ab.2
 simp only [hS] at h
 split at h
 · rename_i s y t u d aX aB
   rw [k7] at h
   obtain ⟨w,J,e⟩:=e0 (b0++new) h
   split at J
   · rename_i xJ o bC bn
     obtain ⟨i,dp,aa⟩:=dT aV J
     unfold jv at aa
     cases ad:i.k with
     |bT gk=>
      rw [ad] at aa
      obtain ⟨j,e8,ai⟩:=dT aV aa
      obtain ⟨jd,aJ⟩:=dN.1 ai
      refine aJ.h.elim (fun aJ=>?_) j6
      clear ai
      obtain ⟨⟨cM,bI,gI,h4⟩,aY⟩:=aJ
      obtain rfl:=Nat.eq_of_beq_eq_true jd
      obtain ⟨jY,jM,nd,po⟩:=dp.bT ad
      have au:=ko (b0++new) fr s
      rw [bn] at au
      simp only [den,U.plain] at au e
      refine bS.val (stl:=[]) (ss:=[s]) (side:=t=t∧dS c.P gk=true∧0<c.P.cellsOf gk∧k2 c.P gk=true∧(xJ.length+bC.length)*c.P.bytesOf gk≤140737488355328∧xJ.length+bC.length≤140737488355328∧(∀x∈xJ,x.cells.length=c.P.cellsOf gk)∧∀x∈bC,x.cells.length=c.P.cellsOf gk∧x.cells.all U.one=true) (m':=bH (b0++new) L m) (x:= .slice true (xJ++bC)) ak aI ?_ ?_ ?_
      · simp only [eC,aX,aB,jY,au,←e]
      · rw [e8.bytes,e8.cells]
        exact ⟨rfl,jM,e8.cells▸nd,po,cM,bI,gI,h4⟩
      · have:=ab.same g aY
        simp only [bb,den,U.plain] at this
        simp only [Fr.strip,Fr.put,ep,au,U.plain]
        exact this
     |_=>rw [ad] at aa;exact aa.elim
   · exact j6 J
 · rename_i y t u d aX aB
   obtain ⟨w,J,e⟩:=e0 (b0++new) h
   split at J
   · rename_i o bC
     obtain ⟨i,dp,aa⟩:=dT aV J
     unfold jv at aa
     cases ad:i.k with
     |bT gk=>
      rw [ad] at aa
      obtain ⟨j,e8,ai⟩:=dT aV aa
      obtain ⟨jd,aJ⟩:=dN.1 ai
      refine aJ.h.elim (fun aJ=>?_) j6
      clear ai
      obtain ⟨⟨cM,bI,gI,h4⟩,aY⟩:=aJ
      obtain rfl:=Nat.eq_of_beq_eq_true jd
      obtain ⟨jY,jM,nd,po⟩:=dp.bT ad
      simp only [den,U.plain] at e
      refine bS.val (stl:=[]) (ss:=[]) (side:=t=t∧dS c.P gk=true∧0<c.P.cellsOf gk∧k2 c.P gk=true∧bC.length*c.P.bytesOf gk≤140737488355328∧∀x∈bC,x.cells.length=c.P.cellsOf gk∧x.cells.all U.one=true) (m':=bH (b0++new) L m) (x:= .slice true bC) ak aI ?_ ?_ ?_
      · simp only [eC,aX,aB,jY,←e]
      · rw [e8.bytes,e8.cells]
        simp only [List.length_nil,Nat.zero_add] at cM
        exact ⟨rfl,jM,e8.cells▸nd,po,cM,h4⟩
      · have:=ab.same g aY
        simp only [bb,den,List.nil_append] at this
        exact this
     |_=>rw [ad] at aa;exact aa.elim
   · exact j6 J
 · exact h.elim
set_option maxHeartbeats 4000000 in
theorem N9 {b0 new:List Nat} (aV:eX c.P c.T=true) (dh:c.bs=b0) (g:Good (b0++new) L m) {dst:Option Nat} {op:Op} {k:cE} (bo:∀t a x,op= .store t a x→dst=none) (ak:eQ n ⟨dst,op,ty,pos,af,none⟩=true) (aI:gh n ⟨dst,op,ty,pos,af,none⟩=true) (ab:jR c.P n ops l K c.bs (b0++new) k) {bT:List Nat} (h:hS c bT dst op fr L m k):
 bS c.P n ops (⟨dst,op,ty,pos,af,none⟩::l) K (bb (b0++new) fr) (bH (b0++new) L m):=by
 have j6:hz c.P c.bs dst op fr L m k→bS c.P n ops (⟨dst,op,ty,pos,af,none⟩::l) K (bb (b0++new) fr) (bH (b0++new) L m):=fun h=>by
  subst dh
  exact h.h new g n ops ty pos af l K ak aI ab.2
 have aT:=h
 unfold hS at h
 split at h
 · exact NO g ak aI ab aT
 · exact NQ g ak aI ab aT
 · exact NR g ak aI ab aT
 · exact ub aV rfl dh g ak aI ab aT
 · exact NT aV rfl dh g (bo _ _ _ rfl) ak aI ab aT
 · exact NX aV rfl dh g ak aI ab aT
 · exact NY g ak aI ab aT
 · exact NZ aV g ak aI ab aT
 · exact N3 aV g ak aI ab j6 aT
 · exact N4 aV dh g ak aI ab aT
 ·
  obtain ⟨us,J,aM⟩:=q6 (b0++new) h
  obtain ⟨vs,aa,aC⟩:=q6 (b0++new) J
  cases dst with
  |none=>exact aa.elim
  |some d=>
   have aO:=ab.same g aa
   simp only [bb,den,aM,aC] at aO
   have:=MJ (P:=c.P) (ops:=ops) (stl:=[]) (r:=[]) (K:=bS c.P n ops l K) (fr:=bb (b0++new) fr) (m:=bH (b0++new) L m) (d:=d) (ty:=ty) (pos:=pos) (af:=af) (gd:=none) rfl rfl rfl aO
   exact qY ak aI this
 · obtain ⟨q,J,aM⟩:=e0 (b0++new) h
   refine qY (stl:=[]) ak aI ?_
   split at J
   · obtain ⟨u,aa,aC⟩:=e0 (b0++new) J
     obtain ⟨aZ,ai,c8⟩:=nh (bs:=b0++new) aa
     have aO:=ab.same g ai
     rw [c8,aC] at aO
     simp only [den,bD.val] at aM
     simp only [j3,hI,←aM]
     exact aO
   · obtain ⟨u,aa,aC⟩:=e0 (b0++new) J
     obtain ⟨aZ,ai,c8⟩:=nh (bs:=b0++new) aa
     have aO:=ab.same g ai
     rw [c8,aC] at aO
     simp only [den,bD.val] at aM
     simp only [j3,hI,←aM]
     exact aO
   · exact J.elim
 · exact N8 aV dh g ak aI ab aT
 · cases nU:qe c dst with
   |true=>simp only [nU] at h;exact j6 h
   |false=>
    simp only [nU] at h
    obtain ⟨us,J,aM⟩:=q6 (b0++new) h
    exact Fq dh g ak aI ab (by simp only [eC,aM]) J
 · rw [k7] at h
   split at h
   · rename_i t args _ _ f a xv bn
     obtain ⟨us,J,aM⟩:=q6 (b0++new) h
     rw [gJ] at J
     refine Fq dh g ak aI ab ?_ J
     have au:=ko (b0++new) fr t
     rw [bn] at au
     simp only [den] at au
     simp only [eC,au,lJ,List.map_append]
     rw [lJ] at aM
     rw [aM]
   · exact j6 h
 all_goals first|exact j6 h|skip
 · cases nU:qe c dst with
   |true=>simp only [nU] at h;exact j6 h
   |false=>
    simp only [nU] at h
    cases dst with
    |none=>exact h.elim
    |some d=>exact Fh aV g ak ab h
 cases dst with
 |none=>exact h.elim
 |some d=>exact Fh aV g ak ab h
end
end Go.bV
end
