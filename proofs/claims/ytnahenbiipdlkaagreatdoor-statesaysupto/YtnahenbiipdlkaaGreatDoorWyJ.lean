/-
  The executor, part 5: every operation; a region; a text.
-/
import Derived.Test.YtnahenbiipdlkaaGreatDoorWyD
import Derived.Test.YtnahenbiipdlkaaGreatDoorWxk
section
namespace Go.bS
open Go Go.bh
abbrev cr:=bT→List bz→ad→Prop
structure gl where
 P:Program
 T:hZ
 E:Nat
 w:List Nat
 st:List Nat
 x8:List Nat
 xs:List Nat
 cv:List Nat
 bs:List Nat
def has:List Nat→Nat→Bool
 |[],_=>false
 |x::r,n=>bif Nat.beq x n then true else has r n
def k0 (d:Option Nat) (v:a6) (fr:bT) (k:bT→Prop):Prop:=
 match d with
 |some d=>k ((d,v)::fr)
 |none=>k fr
def tF:a6→Bool
 | .own _| .b _| .loc _ _| .ms _ _ _| .mp _| .hY _ _ _ _| .bO _ _ _ _| .fn _ _ _=>true
 |_=>false
def vw:List a6→(List a6→Prop)→Prop
 |[],k=>k []
 | .aK x::r,k=>oZ x fun bR=>vw r fun dW=>k (.aK bR::dW)
 |v::r,k=>bF (tF v) (vw r fun dW=>k (v::dW))
def tG:List R→List a6
 |[]=>[]
 |x::r=>qp x::tG r
def Ax (v:a6) (k:List a6→Prop):Prop:=
 match v with
 | .agg l=>vw l k
 | .aK (.agg l)=>vw (tG l) k
 | .aK x=>oZ x fun bR=>k [.aK bR]
 |v=>bF (tF v) (k [v])
def x9 (x:Operand) (v:a6) (fr:bT) (k:bT→Prop):Prop:=
 match x with
 | .tmp t=>
   match v with
   | .own l=>k ((t, .aK (.slice false l))::fr)
   | .agg l=>tv l fun l'=>k ((t, .agg l')::fr)
   | .ez _=>False
   |_=>k fr
 |_=>k fr
def Ay:List a6→(List a6→Prop)→Prop
 |[],k=>k []
 |v::r,k=>bF (q1 v) (r9 v fun fX=>Ay r fun dW=>k (fX::dW))
def DT (v:a6) (k:a6→Prop):Prop:=
 match v with
 | .ez l=>Ay l fun l'=>k (.ez l')
 |v=>bF (q1 v) (r9 v k)
def ya (l cs:List a6) (off n:Nat):List a6:=l.take off++cs++l.drop (off+n)
def toK:a6→(R→Prop)→Prop
 | .aK x,k=>vi x k
 | .b c,k=>k (.bool c.val)
 | .agg l,k=>go l fun l'=>k (.agg l')
 |_,_=>False
where go:List a6→(List R→Prop)→Prop
 |[],k=>k []
 | .aK x::r,k=>oZ x fun bR=>go r fun dW=>k (bR::dW)
 | .b c::r,k=>go r fun dW=>k (.bool c.val::dW)
 | .own l::r,k=>go r fun dW=>k (.slice true l::dW)
 |_,_=>False
def toLK:List a6→(List R→Prop)→Prop
 |[],k=>k []
 |v::r,k=>toK v fun x=>toLK r fun dW=>k (x::dW)
def sf (T:hZ) (cA:List (Nat×Nat)):List (Nat×a6)→List a6→(List a6→Prop)→Prop
 |[],cs,k=>k cs
 |(i,v)::r,cs,k=>
  match nth cA i with
  |some (off,t)=>du T t fun j=>DU v fun vs=>bF (Nat.beq vs.length j.n) (bF (Nat.ble (off+j.n) cs.length) (gy (ya cs vs off j.n) fun lg=>sf T cA r lg k))
  |none=>False
where DU:a6→(List a6→Prop)→Prop
 | .agg l,k=>k l
 | .aK (.agg l),k=>gy (tG l) k
 | .aK x,k=>oZ x fun bR=>k [.aK bR]
 | .ez _,_=>False
 | .off,_=>False
 |v,k=>k [v]
def sg (fr:bT):List (Nat×Operand)→(List (Nat×a6)→Prop)→Prop
 |[],k=>k []
 |(i,x)::r,k=>eX fr x fun v=>sg fr r fun dW=>k ((i,v)::dW)
def idxFrom:Nat→List (Nat×a6)→Bool
 |_,[]=>true
 |n,(i,_)::r=>bif Nat.beq n i then idxFrom (n+1) r else false
def o2:List (Nat×a6)→List a6
 |[]=>[]
 |(_,v)::r=>v::o2 r
structure DV (w tH:Nat) (l l':List R) (Q:List R→Prop):Prop where
 h:((l.length+l'.length)*tH≤140737488355328∧l.length+l'.length≤140737488355328∧(∀x∈l,x.cells.length=w)∧∀x∈l',x.cells.length=w∧x.cells.all R.one=true)∧Q (l++l')
structure qq (a b:Prop):Prop where
 h:a∨b
theorem ap {q7:Prop} {α:Type} (f:α→R) (xs cV:List α) {w tH:Nat} {l l':List R} {Q:List R→Prop} (ar:l=xs.map f) (ic:l'=cV.map f) (aW:∀a,(f a).cells.length=w∧(f a).cells.all R.one=true)
 (h:(xs.length+cV.length)*tH≤140737488355328∧xs.length+cV.length≤140737488355328) (gI:Q ((xs++cV).map f)):qq (DV w tH l l' Q) q7:=by
 subst ar;subst ic
 refine ⟨.inl ⟨⟨by simpa using h.1,by simpa using h.2,fun x ah=>?_,fun x ah=>?_⟩,by rw [←List.map_append];exact gI⟩⟩
 · obtain ⟨a,_,rfl⟩:=List.mem_map.1 ah;exact (aW a).1
 · obtain ⟨a,_,rfl⟩:=List.mem_map.1 ah;exact aW a
structure oc (P:Program) (b0:List Nat) (f:FuncId) (vs:List a6) (fr:bT) (L:List bz) (m:ad) (Q:a6→List bz→ad→Prop):Prop where
 h:∃(σ:Type) (gU:σ→Prop) (y:σ→a6) (bJ:σ→List bz) (az:σ→ad),(∀new,Good (b0++new) L m→∀K:R→ad→Prop,(∀x,gU x→∀eu,Good (b0++new++eu) (bJ x) (az x)→K (den (b0++new++eu) (y x)) (bK (b0++new++eu) (bJ x) (az x)))→bn P f (bo (b0++new) vs) (bK (b0++new) L m) K)∧
  (∀x,(bif Nat.beq (bJ x).length L.length then true else o1 L.length fr)=true)∧∀x,gU x→Q (y x) (bJ x) (az x)
theorem oc.one {P:Program} {b0:List Nat} {f:FuncId} {vs:List a6} {fr:bT} {L:List bz} {m:ad} {Q:a6→List bz→ad→Prop} (y:a6) (bJ:List bz) (az:ad)
 (I:∀new,Good (b0++new) L m→∀K:R→ad→Prop,(∀eu,Good (b0++new++eu) bJ az→K (den (b0++new++eu) y) (bK (b0++new++eu) bJ az))→bn P f (bo (b0++new) vs) (bK (b0++new) L m) K)
 (J:(bif Nat.beq bJ.length L.length then true else o1 L.length fr)=true) (ai:Q y bJ az):oc P b0 f vs fr L m Q:=
 ⟨Unit,fun _=>True,fun _=>y,fun _=>bJ,fun _=>az,fun new g K U=>I new g K (U () trivial),fun _=>J,fun _ _=>ai⟩
structure DW (P:Program) (b0:List Nat) (f:FuncId) (vs:List a6) (L:List bz) (m:ad) (Q:a6→Prop):Prop where
 h:∃y,(∀new,Good (b0++new) L m→∃c:R,uL P f (bo (b0++new) vs) (bK (b0++new) L m) c∧c.plain=den (b0++new) y)∧Q y
structure ik (P:Program) (b0:List Nat) (dst:Option Nat) (op:Op) (fr:bT) (L:List bz) (m:ad) (k:cr):Prop where
 h:∀new,Good (b0++new) L m→∀(n:Nat) (ops:Array Oper) (ty:TypeId) (pos:String) (af:Array Edge) (l:List Oper) (K:Fr→ad→Prop),eQ n ⟨dst,op,ty,pos,af,none⟩=true→gv n ⟨dst,op,ty,pos,af,none⟩=true→
  (∀bb bJ m' gK,b0 <+: gK→Good gK bJ m'→k bb bJ m'→bQ P n ops l K (bm gK bb) (bK gK bJ m'))→bQ P n ops (⟨dst,op,ty,pos,af,none⟩::l) K (bm (b0++new) fr) (bK (b0++new) L m)
def yb (fr:bT) (L:List bz) (o:bz) (k:Nat→List bz→Prop):Prop:=
 bF (o1 L.length fr) (bF (lp L.length L) (k L.length (L++[o])))
def sh (c:gl):Option Nat→Bool
 |some d=>has c.w (1000000+d)
 |none=>false
def vx (c:gl) (bO:List Nat) (d:Nat):Bool:=bif has bO d then true else has c.w (1000000+d)
def il (c:gl) (bO:List Nat) (dst:Option Nat) (op:Op) (fr:bT) (L:List bz) (m:ad) (k:cr):Prop:=
 match op with
 | .assign (.tmp t)=>kX fr t fun v=>bF (q1 v) (r9 v fun u=>x9 (.tmp t) v fr fun bb=>
   match v with
   | .own l=>k0 dst (.own l) bb fun fr=>k fr L m
   |_=>k0 dst u bb fun fr=>k fr L m)
 | .move (.tmp t)=>kX fr t fun v=>DT v fun u=>
   match v,dst with
   | .own l,some d=>
     match vx c bO d with
     |true=>k ((d, .own l)::(t,u)::fr) L m
     |false=>k ((d,u)::fr) L m
   |_,_=>k0 dst u fr fun fr=>k fr L m
 | .extract (.tmp t) n=>kX fr t fun v=>
   match v,dst with
   | .ez l,some d=>
     match nth l n with
     |some (.own q)=>Ay l fun l'=>
      match vx c bO d with
      |true=>k ((d, .own q)::(t, .ez l')::fr) L m
      |false=>k ((d, .aK (.slice false q))::fr) L m
     |some u=>bF (q1 u) (r9 u fun ng=>k ((d,ng)::fr) L m)
     |none=>False
   |v,some d=>tE v n fun u=>k ((d,u)::fr) L m
   |_,none=>False
 | .load t x=>eX fr x fun v=>du c.T t fun i=>
   match dst with
   |some d=>
    match v with
    | .loc b off=>
      match nth L b with
      |some (.cells l)=>
       match nth l off with
       |some (.own q)=>
        match vx c bO d,i.k.ij with
        |true,false=>k ((d, .own q)::fr) (L.set b (.cells (l.set off (.aK (.slice false q))))) m
        |_,_=>q5 L i v fun u=>k ((d,u)::fr) L m
       |_=>q5 L i v fun u=>k ((d,u)::fr) L m
      |_=>q5 L i v fun u=>k ((d,u)::fr) L m
    | .aK _=>q5 L i v fun u=>k ((d,u)::fr) L m
    | .hY _ _ _ _=>
      match sh c dst with
      |true=>ik c.P c.bs dst op fr L m k
      |false=>q5 L i v fun u=>k ((d,u)::fr) L m
    |_=>ik c.P c.bs dst op fr L m k
   |none=>False
 | .store t a x=>eX fr a fun p=>
   match p with
   | .loc b off=>An fr x fun v=>du c.T t fun i=>
     match nth L b with
     |some (.cells l)=>Ax v fun cs=>bF (Nat.beq cs.length i.n) (bF (Nat.ble (off+i.n) l.length) (x9 x v fr fun bb=>gy (ya l cs off i.n) fun l'=>gy (L.set b (.cells l')) fun bJ=>k bb bJ m))
     |_=>ik c.P c.bs dst op fr L m k
   |_=>ik c.P c.bs dst op fr L m k
 | .alloc t=>du c.T t fun i=>
   match i.z with
   |[]=>ik c.P c.bs dst op fr L m k
   |_=>gy (kY i.z) fun cs=>yb fr L (.cells cs) fun b bJ=>gy bJ fun bJ=>k0 dst (.loc b 0) fr fun fr=>k fr bJ m
 | .box _ x=>An fr x fun v=>Ax v fun cs=>x9 x v fr fun bb=>bF (sa L.length cs)<|yb bb L (.cells cs) fun b bJ=>gy bJ fun bJ=>k0 dst (.loc b 0) bb fun fr=>k fr bJ m
 | .makeMap t none=>du c.T t fun i=>bF i.k.DK (yb fr L (.obj (.map [])) fun b bJ=>gy bJ fun bJ=>k0 dst (.mp b) fr fun fr=>k fr bJ m)
 | .build t parts=>
   match sh c dst with
   |true=>ik c.P c.bs dst op fr L m k
   |false=>du c.T t fun i=>
    match i.k with
    | .st cA=>bF (match i.z with|[]=>false|_=>true) (gy (kY i.z) fun gk=>sg fr parts.toList fun ps=>sf c.T cA ps gk fun cs=>k0 dst (.agg cs) fr fun fr=>k fr L m)
    |_=>False
 | .buildSlice t n parts=>
   match dst with
   |some d=>match has bO d with
    |true=>ik c.P c.bs dst op fr L m k
    |false=>du c.T t fun i=>kA i fun e=>du c.T e fun j=>sg fr parts.toList fun ps=>bF (idxFrom 0 ps) (bF (Nat.beq ps.length n) (bF (Nat.ble (n*j.n) 16777216) (toLK (o2 ps) fun l=>bF (l.all fun x=>Nat.beq x.cells.length j.n) (k ((d, .own l)::fr) L m))))
   |none=>False
 | .makeFunc (.func f) a Az=>tw fr a.toList fun x=>tw fr Az.toList fun y=>
   match dst with
   |some d=>k ((d, .fn f x y)::fr) L m
   |none=>False
 | .pick q x y=>eX fr q fun v=>
   match v with
   | .b (.lit true)=>eX fr x fun u=>k0 dst u fr fun fr=>k fr L m
   | .b (.lit false)=>eX fr y fun u=>k0 dst u fr fun fr=>k fr L m
   |_=>False
 | .call ⟨.builtin .append,args,bC⟩=>
   match args.toList,bC.toList,dst with
   |[.tmp s,y],[t,u],some d=>kX fr s fun v=>eX fr y fun w=>
    match v,w with
    | .own l, .aK (.slice _ l')=>du c.T t fun i=>kA i fun e=>du c.T e fun j=>bF (Nat.beq t u) (qq (DV j.n j.y l l' fun q=>k ((d, .own q)::(s, .aK (.slice false l))::fr) L m) (ik c.P c.bs dst op fr L m k))
    |_,_=>ik c.P c.bs dst op fr L m k
   |[.const (.slice none 0 0),y],[t,u],some d=>eX fr y fun w=>
    match w with
    | .aK (.slice _ l')=>du c.T t fun i=>kA i fun e=>du c.T e fun j=>bF (Nat.beq t u) (qq (DV j.n j.y [] l' fun q=>k ((d, .own q)::fr) L m) (ik c.P c.bs dst op fr L m k))
    |_=>ik c.P c.bs dst op fr L m k
   |_,_,_=>False
 | .call ⟨.value (.func f),args,_⟩=>
   match sh c dst with
   |true=>ik c.P c.bs dst op fr L m k
   |false=>tw fr args.toList fun vs=>oc c.P c.bs f vs fr L m fun y bJ m'=>k0 dst y fr fun fr=>k fr bJ m'
 | .call ⟨.value (.tmp t),args,_⟩=>kX fr t fun v=>
   match v with
   | .fn f a Az=>tw fr args.toList fun vs=>gy (a++vs++Az) fun vs=>oc c.P c.bs f vs fr L m fun y bJ m'=>k0 dst y fr fun fr=>k fr bJ m'
   |_=>ik c.P c.bs dst op fr L m k
 | .mapUpdate _ _ _ _| .insert _ _ _ _| .lookup _ _ _ _| .range _ _| .next _ _| .entry _| .makeSlice _ _ _| .call ⟨.builtin .delete,_,_⟩| .call ⟨.builtin .copy,_,_⟩=>ik c.P c.bs dst op fr L m k
 | .makeInterface _ _=>
   match sh c dst with
   |true=>ik c.P c.bs dst op fr L m k
   |false=>
    match dst with
    |some d=>sc c.T (has c.w d) fr L op fun u=>k ((d,u)::fr) L m
    |none=>False
 |op=>
  match dst with
  |some d=>sc c.T (has c.w d) fr L op fun u=>k ((d,u)::fr) L m
  |none=>False
def AA (c:gl) (dst:Option Nat) (op:Op) (fr:bT) (L:List bz) (m:ad) (k:bT→Prop):Prop:=
 match dst with
 |none=>False
 |some d=>
  match op with
  | .call ⟨.value (.func f),args,_⟩=>tw fr args.toList fun vs=>DW c.P c.bs f vs L m fun y=>k ((d,y)::fr)
  | .build t parts=>du c.T t fun i=>
    match i.k with
    | .st cA=>bF (match i.z with|[]=>false|_=>true) (gy (kY i.z) fun gk=>sg fr parts.toList fun ps=>sf c.T cA ps gk fun cs=>tv cs fun cs=>k ((d, .agg cs)::fr))
    |_=>False
  | .buildSlice t n parts=>du c.T t fun i=>kA i fun e=>du c.T e fun j=>sg fr parts.toList fun ps=>bF (idxFrom 0 ps) (bF (Nat.beq ps.length n) (bF (Nat.ble (n*j.n) 16777216) (toLK (o2 ps) fun l=>bF (l.all fun x=>Nat.beq x.cells.length j.n) (k ((d, .aK (.slice false l))::fr)))))
  | .pick q x y=>eX fr q fun v=>
    match v with
    | .b (.lit true)=>eX fr x fun u=>k ((d,u)::fr)
    | .b (.lit false)=>eX fr y fun u=>k ((d,u)::fr)
    |_=>False
  |op=>sc c.T (has c.w d) fr L op fun u=>k ((d,u)::fr)
def pQ:bT→Nat→a6→(bT→Prop)→Prop
 |[],_,_,k=>k []
 |(s,x)::r,t,v,k=>bif Nat.beq s t then k ((s,v)::r) else pQ r t v fun dW=>k ((s,x)::dW)
def tI (ops:List Oper) (gd:Option (Nat×Bool)) (fr:bT) (on:bT→Prop) (off:bT→Prop):Prop:=
 match gd with
 |none=>on fr
 |some (j,b)=>
  match (nth ops j).bind (·.dst) with
  |some g=>kX fr g fun v=>
   match v with
   | .b (.lit z)=>
     match z,b with
     |true,true|false,false=>on fr
     |_,_=>off fr
   | .b q=>
     match b with
     |true=>q.ways (pQ fr g (.b (.lit true)) on) (pQ fr g (.b (.lit false)) off)
     |false=>q.ways (pQ fr g (.b (.lit true)) off) (pQ fr g (.b (.lit false)) on)
   | .off=>off fr
   |_=>False
  |none=>False
noncomputable def q8 (c:gl) (ops:List Oper) (bO:List Nat) (l:List Oper):bT→List bz→ad→cr→Prop:=
 List.rec (motive:=fun _=>bT→List bz→ad→cr→Prop) (fun fr L m k=>k fr L m)
  (fun o _ aQ fr L m k=>tI ops o.guard fr (fun fr=>il c bO o.dst o.op fr L m fun fr L m=>aQ fr L m k) (fun fr=>k0 o.dst .off fr fun fr=>aQ fr L m k)) l
theorem Rz (c:gl) (ops:List Oper) (bO:List Nat) (o:Oper) (r:List Oper) (fr:bT) (L:List bz) (m:ad) (k:cr):q8 c ops bO (o::r) fr L m k=tI ops o.guard fr (fun fr=>il c bO o.dst o.op fr L m fun fr L m=>q8 c ops bO r fr L m k) (fun fr=>k0 o.dst .off fr fun fr=>q8 c ops bO r fr L m k):=rfl
noncomputable def yc (c:gl) (ops:List Oper) (l:List Oper):bT→List bz→ad→(bT→Prop)→Prop:=
 List.rec (motive:=fun _=>bT→List bz→ad→(bT→Prop)→Prop) (fun fr _ _ k=>k fr)
  (fun o _ aQ fr L m k=>tI ops o.guard fr (fun fr=>AA c o.dst o.op fr L m fun fr=>aQ fr L m k) (fun fr=>k0 o.dst .off fr fun fr=>aQ fr L m k)) l
theorem RA (c:gl) (ops:List Oper) (o:Oper) (r:List Oper) (fr:bT) (L:List bz) (m:ad) (k:bT→Prop):yc c ops (o::r) fr L m k=tI ops o.guard fr (fun fr=>AA c o.dst o.op fr L m fun fr=>yc c ops r fr L m k) (fun fr=>k0 o.dst .off fr fun fr=>yc c ops r fr L m k):=rfl
def q9:List Oper→List Nat
 |[]=>[]
 |o::r=>
  match o.op with
  | .call ⟨.builtin .append,args,_⟩=>
    match args.toList with
    | .tmp s::_=>s::q9 r
    |_=>q9 r
  |_=>q9 r
def RB:Op→Bool
 | .store _ _ _| .mapUpdate _ _ _ _| .makeSlice _ _ _| .makeMap _ _| .alloc _| .box _ _| .insert _ _ _ _| .entryStore _ _ _ _=>true
 | .call ⟨.builtin .append,_,_⟩| .call ⟨.builtin .copy,_,_⟩| .call ⟨.builtin .delete,_,_⟩=>true
 |_=>false
def tJ (xs:List Nat) (id:Nat):List Oper→Nat→Nat
 |[],n=>n
 |o::r,n=>bif RB o.op then n else bif has xs (id*1000+n) then n else tJ xs id r (n+1)
def vy (bO:List Nat):List Oper→List (Nat×Nat)
 |[]=>[]
 |o::r=>
  match o.dst,o.op,o.guard with
  |some d, .move (.tmp s),none=>bif has bO d then (d,s)::vy bO r else vy bO r
  |_,_,_=>vy bO r
def AB:List (Nat×Nat)→bT→(bT→Prop)→Prop
 |[],fr,k=>k fr
 |(d,s)::r,fr,k=>kX fr s fun v=>bF (q1 v) (r9 v fun u=>AB r ((d,v)::(s,u)::fr) k)
def DX:a6→Prop
 | .aK (.int cM n)=>cM.min≤n∧n≤cM.max
 | .aK (.slice _ l)=>l.length≤140737488355328∧Ab l
 | .aK x=>xH x.plain
 | .own l=>l.length≤140737488355328∧Ab l
 |_=>True
structure Told (fr:bT) (p:Prop):Prop where
 h:(∀t,DX (eR fr t))→p
noncomputable def si (c:gl) (id:Nat) (ops:List Oper) (draw:Bool) (k:cr) (fr:bT) (L:List bz) (m:ad):Prop:=
 match draw with
 |false=>q8 c ops (q9 ops) ops fr L m k
 |true=>
  match has c.xs (id*1000+999) with
  |true=>False
  |false=>gy (ops.take (tJ c.xs id ops 0)) fun ie=>gy (ops.drop (tJ c.xs id ops 0)) fun iC=>yc c ops ie fr L m fun fr=>AB (vy (q9 ops) ie) fr fun fr=>q8 c ops (q9 ops) iC fr L m k
def tK:bT→Nat→Option a6
 |[],_=>none
 |(s,x)::r,t=>bif Nat.beq s t then some x else tK r t
def jb (E:Nat):a6→a6
 | .aK .nilIface=> .aK (.err E 0)
 | .aK (.iface u (.int .i64 e))=>
   match Nat.beq u E,decide (e=0) with
   |true,false=> .aK (.err E e)
   |_,_=> .aK (.iface u (.int .i64 e))
 |v=>v
def AD (E:Nat) (md:List (Nat×Nat)) (t:Nat) (v:a6):a6:=
 match v with
 | .b (.lit z)=>bif md.any (fun p=>Nat.beq p.1 t) then .b (.raw z) else .b (.lit z)
 | .b q=> .b (.raw q.val)
 | .own l=>bif md.any (fun p=>Nat.beq p.1 t) then .aK (.slice false l) else .own l
 | .aK (.agg l)=> .agg (tG l)
 |v=>bif md.any (fun p=>Nat.beq p.1 t) then jb E v else v
def tL:List a6→List a6
 |[]=>[]
 | .b q::r=> .b (.raw q.val)::tL r
 |v::r=>v::tL r
def yd:bz→bz
 | .cells l=> .cells (tL l)
 | .obj o=> .obj o
def o3:List bz→List bz
 |[]=>[]
 |o::r=>yd o::o3 r
def gb (E:Nat) (md:List (Nat×Nat)):List Nat→bT→bT
 |[],_=>[]
 |t::r,fr=>
  match tK fr t with
  |some v=>(t,AD E md t v)::gb E md r fr
  |none=>gb E md r fr
abbrev vz:=bT×List bz×ad
def fits (c:gl) (md:List (Nat×Nat)) (ks:List Nat) (n:Nat) (fr:bT) (L:List bz) (m:ad) (s:vz):Prop:=
 (gb c.E md ks fr,o3 (L.take n),m)=s∧(o1 n s.1&&lp n s.2.1&&Nat.ble n L.length&&Nat.ble c.bs.length n)=true
structure DY (c:gl) (F:cr→cr) (fr:bT) (L:List bz) (m:ad):Prop where
 h:∃(σ:Type) (S:σ→vz) (gU:σ→Prop) (n8:σ→Nat) (md:List (Nat×Nat)) (ks:List Nat) (n:σ→Nat) (ny:σ),fits c md ks (n ny) fr L m (S ny)∧gU ny∧
  ∀x,gU x→gy (S x).1 fun fr=>gy (S x).2.1 fun L=>F (fun bb bJ m'=>∃bR,fits c md ks (n bR) bb bJ m' (S bR)∧gU bR∧n8 bR<n8 x) fr L (S x).2.2
theorem ev {c:gl} {F:cr→cr} {fr:bT} {L:List bz} {m:ad} {σ:Type} (md:List (Nat×Nat)) (ks:List Nat) (n:Nat) (S:σ→vz) (gU:σ→Prop) (n8:σ→Nat) (ny:σ) (aq:fits c md ks n fr L m (S ny)) (aM:gU ny)
 (h:∀x,gU x→gy (S x).1 fun fr=>gy (S x).2.1 fun L=>F (fun bb bJ m'=>∃bR,fits c md ks n bb bJ m' (S bR)∧gU bR∧n8 bR<n8 x) fr L (S x).2.2):DY c F fr L m:=
 ⟨σ,S,gU,n8,md,ks,fun _=>n,ny,aq,aM,h⟩
structure AE (c:gl) (A:cr→cr) (B:cr) (fr:bT) (L:List bz) (m:ad):Prop where
 h:∃sj:cr,(∀fr L m,sj fr L m→B fr L m∨∃md ks n s,fits c md ks n fr L m s∧B s.1 s.2.1 s.2.2)∧A sj fr L m
theorem aZ {c:gl} {A:cr→cr} {B:cr} {fr:bT} {L:List bz} {m:ad} (h:A B fr L m):AE c A B fr L m:=⟨B,fun _ _ _ h=> .inl h,h⟩
theorem AF {c:gl} {A:cr→cr} {B:cr} {fr:bT} {L:List bz} {m:ad} {σ:Type} (md:List (Nat×Nat)) (ks:List Nat) (n:Nat) (S:σ→vz) (gU:σ→Prop) (b4:∀x,gU x→gy (S x).1 fun fr=>gy (S x).2.1 fun L=>B fr L (S x).2.2)
 (ck:A (fun fr L m=>∃x,fits c md ks n fr L m (S x)∧gU x) fr L m):AE c A B fr L m:=
 ⟨_,fun fr L m ⟨x,h,aM⟩=> .inr ⟨md,ks,n,S x,h,by have:=b4 x aM;rw [hv,hv] at this;exact this⟩,ck⟩
structure AG (A:cr→cr) (B:cr) (fr:bT) (L:List bz) (m:ad):Prop where
 h:∃sj:cr,(∀fr L m,sj fr L m→∃md t e ks,(∃q,tK fr t=some (.b q)∧q.val=e)∧B ((t, .b (.raw e))::gb 0 md ks fr) L m)∧A sj fr L m
theorem cx {A:cr→cr} {B:cr} {fr:bT} {L:List bz} {m:ad} (ks:List Nat) (t:Nat) (e:Bool) (ck:A (fun bb bJ m'=>(∃q,tK bb t=some (.b q)∧q.val=e)∧(gb 0 [] ks bb,bJ,m')=(gb 0 [] ks fr,L,m)) fr L m)
 (b4:gy (gb 0 [] ks fr) fun fr=>B ((t, .b (.raw e))::fr) L m):AG A B fr L m:=
 ⟨_,fun bb bJ m' ⟨I,J⟩=>⟨[],t,e,ks,I,by
   simp only [Prod.mk.injEq] at J
   obtain ⟨ax,aI,cR⟩:=J
   rw [hv] at b4
   rw [ax,aI,cR]
   exact b4⟩,ck⟩
structure AH (c:gl) (A:cr) (fr:bT) (L:List bz) (m:ad):Prop where
 h:∀new,Good (c.bs++new) L m→∀(n:Nat) (hc:Code) (Q:Exit→Fr→ad→Prop),(∀bb bJ m' gK,c.bs <+: gK→Good gK bJ m'→A bb bJ m'→b7 c.P n hc Q (bm gK bb) (bK gK bJ m'))→b7 c.P n hc Q (bm (c.bs++new) fr) (bK (c.bs++new) L m)
structure AI (c:gl) (id:Nat) (ops:Array Oper) (draw:Bool) (kn:cr) (fr:bT) (L:List bz) (m:ad):Prop where
 h:∀new,Good (c.bs++new) L m→∀(n:Nat) (Q:Exit→Fr→ad→Prop),iL n ops []=true→(∀bb bJ m' gK,c.bs <+: gK→Good gK bJ m'→kn bb bJ m'→Q .normal (bm gK bb) (bK gK bJ m'))→b7 c.P n (.region id ops draw) Q (bm (c.bs++new) fr) (bK (c.bs++new) L m)
def DZ:Code→Bool
 | .region _ _ _=>true
 |_=>false
noncomputable def vA (c:gl) (id:Nat) (ops:List Oper) (draw:Bool) (kn:cr) (fr:bT) (L:List bz) (m:ad):Prop:=
 match has c.st id,has c.x8 id with
 |true,false=>Told fr (si c id ops draw kn fr L m)
 |false,false=>si c id ops draw kn fr L m
 |true,true=>Told fr (AG (fun kn fr L m=>si c id ops draw kn fr L m) kn fr L m)
 |false,true=>AG (fun kn fr L m=>si c id ops draw kn fr L m) kn fr L m
noncomputable def mQ (c:gl) (hc:Code):cr→(Nat→cr)→cr→cr:=
 @Code.rec (fun _=>cr→(Nat→cr)→cr→cr)
   (fun kn _ _ fr L m=>kn fr L m)
   (fun id ops draw kn _ _ fr L m=>
     match has c.cv id with
     |false=>vA c id ops.toList draw kn fr L m
     |true=>qq (AH c (fun fr L m=>vA c id ops.toList draw kn fr L m) fr L m) (AI c id ops draw kn fr L m))
   (fun a _ ID IE kn kx kr fr L m=>
     match DZ a with
     |true=>ID (fun fr L m=>IE kn kx kr fr L m) kx kr fr L m
     |false=>AE c (fun D0 fr L m=>ID D0 kx kr fr L m) (fun fr L m=>IE kn kx kr fr L m) fr L m)
   (fun q _ _ RC RD kn kx kr fr L m=>eX fr q fun v=>
     match v with
     | .b s=>s.ways (RC kn kx kr fr L m) (RD kn kx kr fr L m)
     |_=>False)
   (fun id _ aQ kn kx kr fr L m=>aQ kn (fun j fr L m=>match Nat.beq j id with|true=>kn fr L m|false=>kx j fr L m) kr fr L m)
   (fun _ aQ _ kx kr fr L m=>DY c (fun aT fr L m=>aQ aT kx kr fr L m) fr L m)
   (fun _ _ _ _ _ _ _ _ _ _ _ _=>False)
   (fun id _ kx _ fr L m=>kx id fr L m)
   (fun _ _ _ _ _ _ _ _=>False) (fun _ _ _ _ _ _ _=>False) (fun _ _ _ _ _ _ _=>False) (fun _ _ kr fr L m=>kr fr L m) (fun _ _ _ _ _ _ _=>False) hc
section
variable {c:gl} {kn:cr} {kx:Nat→cr} {kr:cr} {fr:bT} {L:List bz} {m:ad}
theorem RE {id:Nat} {ops:Array Oper} {draw:Bool}:mQ c (.region id ops draw) kn kx kr fr L m=(match has c.cv id with
 |false=>vA c id ops.toList draw kn fr L m
 |true=>qq (AH c (fun fr L m=>vA c id ops.toList draw kn fr L m) fr L m) (AI c id ops draw kn fr L m)):=rfl
theorem RF {a b:Code}:mQ c (.seq a b) kn kx kr fr L m=(match DZ a with
 |true=>mQ c a (fun fr L m=>mQ c b kn kx kr fr L m) kx kr fr L m
 |false=>AE c (fun D0 fr L m=>mQ c a D0 kx kr fr L m) (fun fr L m=>mQ c b kn kx kr fr L m) fr L m):=rfl
theorem RG {q:Operand} {x y:Code}:mQ c (.cond q x y) kn kx kr fr L m=eX fr q fun v=>
 match v with
 | .b s=>s.ways (mQ c x kn kx kr fr L m) (mQ c y kn kx kr fr L m)
 |_=>False:=rfl
theorem RH {id:Nat} {body:Code}:mQ c (.block id body) kn kx kr fr L m=mQ c body kn (fun j fr L m=>match Nat.beq j id with|true=>kn fr L m|false=>kx j fr L m) kr fr L m:=rfl
theorem RI {body:Code}:mQ c (.loop body) kn kx kr fr L m=DY c (fun aT fr L m=>mQ c body aT kx kr fr L m) fr L m:=rfl
end
def AJ (T:hZ) (fr:bT) (L:List bz) (r:ResultVar) (k:a6→Prop):Prop:=
 match r with
 | .tmp t=>kX fr t k
 | .cell a t=>kX fr a fun v=>
   match v with
   | .loc b off=>
     match nth L b with
     |some (.cells l)=>du T t fun i=>
      match i.k.ij with
      |true=>bF (Nat.ble (off+i.n) l.length) (tv ((l.drop off).take i.n) fun l'=>k (.agg l'))
      |false=>
       match nth l off with
       |some v=>xV v k
       |none=>False
     |_=>False
   |_=>False
def AK (T:hZ) (fr:bT) (L:List bz):List ResultVar→(List a6→Prop)→Prop
 |[],k=>k []
 |r::rs,k=>AJ T fr L r fun v=>AK T fr L rs fun vs=>k (v::vs)
def AL:List ResultVar→List Nat
 |[]=>[]
 | .tmp t::r=>t::AL r
 | .cell _ _::r=>AL r
def AM (E:Nat) (bC:List Nat):bT→bT
 |[]=>[]
 |(t,v)::r=>(t,bif has bC t then jb E v else v)::AM E bC r
def D1 (bs:List Nat):List a6→R
 |[v]=>den bs v
 |[v,x]=> .tuple [den bs v,(den bs x).plain]
 |[v,x,y]=> .tuple [den bs v,(den bs x).plain,(den bs y).plain]
 |[v,x,y,z]=> .tuple [(den bs v).plain,(den bs x).plain,(den bs y).plain,(den bs z).plain]
 |_=> .tuple []
def ye:Nat→List a6→bT
 |_,[]=>[]
 |i,v::r=>(i,v)::ye (i+1) r
structure yf (c:gl) (K:R→ad→Prop) (vs:List a6) (L:List bz) (m:ad):Prop where
 h:∀new,Good (c.bs++new) L m→∃m',(∀b o,m' b=some o→bK (c.bs++new) L m b=some o)∧K (D1 (c.bs++new) vs) m'
def D2 (c:gl) (e:Bool) (rs:List ResultVar) (K:R→ad→Prop):cr:=fun fr L m=>
 match e with
 |true=>gy (AM c.E (AL rs) fr) fun fr=>AK c.T fr L rs fun vs=>yf c K vs L m
 |false=>AK c.T fr L rs fun vs=>yf c K vs L m
end Go.bS
end
section
namespace Go.bS
open Go Go.bh
def lq (bR x:R):Prop:=bR=x∨∀w lim v os,aF w lim v x os→aF w lim v bR []
theorem lq.pl {bR x:R} (h:bR=x.plain):lq bR x:= .inr fun _ _ _ _ au=>by rw [h];exact au.plain
def gL (bb fr:Fr):Prop:=∀t bR,bb.get t=some bR→∃x,fr.get t=some x∧lq bR x
theorem gL.refl (fr:Fr):gL fr fr:=fun _ x h=>⟨x,h, .inl rfl⟩
theorem gL.cons {bb fr:Fr} (h:gL bb fr) (t:Nat) {bR x:R} (ah:lq bR x):gL ((t,bR)::bb) ((t,x)::fr):=by
 intro s y aE
 simp only [Fr.get] at aE ⊢
 by_cases e:t=s
 · rw [if_pos e] at aE ⊢
   obtain rfl:bR=y:=by simpa using aE
   exact ⟨x,rfl,ah⟩
 · rw [if_neg e] at aE ⊢
   exact h s y aE
section
variable {P:Program} {n:Nat} {F:Nat→Prop} {lim:Nat→Nat} {w:World} {fr bb:Fr} {m:ad} {ca:Act} {bu:List Nat} {K:Fr→ad→Prop} {ops:Array Oper} {l:List Oper}
theorem bd.less (h:bh.bd F lim w n fr m ca bu) (al:gL bb fr):bh.bd F lim w n bb m ca bu:=by
 obtain ⟨os,b6,bA,h⟩:=h
 classical
 refine ⟨fun t=>if bb.get t=fr.get t then os t else [],b6,bA,h.size,h.defers,fun t x ah=>?_,h.mem,fun t x ah=>?_,h.ds,h.fL,h.free,h.fresh⟩
 · by_cases he:bb.get t=fr.get t
   · simp only [he,if_true]
     exact h.dX t x (he▸ah)
   · simp only [if_neg he]
     obtain ⟨y,aE,I⟩:=al t x ah
     rcases I with rfl|I
     · exact (he (ah.trans aE.symm)).elim
     · obtain ⟨J,ai⟩:=h.dX t y aE
       exact ⟨J,I _ _ _ _ ai⟩
 · by_cases he:bb.get t=fr.get t
   · simp only [he,if_true]
     exact h.ey t x (he▸ah)
   · simp [if_neg he]
theorem bQ.less (al:gL bb fr) (h:bQ P n ops l K bb m):bQ P n ops l K fr m:=fun F lim w ca Q st aO=>h F lim w ca Q (bd.less st al) aO
theorem b7.less {c:Code} {Q:Exit→Fr→ad→Prop} (al:gL bb fr) (h:b7 P n c Q bb m):b7 P n c Q fr m:=fun F lim w ca st=>h F lim w ca (bd.less st al)
theorem bQ.RJ {dst:Option Nat} {op:Op} {ty:TypeId} {pos:String} {af:Array Edge} {gd:Option (Nat×Bool)} (aA:eW ops fr gd=some true) (h:bQ P n ops (⟨dst,op,ty,pos,af,none⟩::l) K fr m):bQ P n ops (⟨dst,op,ty,pos,af,gd⟩::l) K fr m:=by
 intro F lim w ca Q st aO
 have:=h F lim w ca Q st aO
 unfold wpList at this ⊢
 rw [if_pos (by simp [Region.wanted])] at this
 rw [if_pos (qU (o:=⟨dst,op,ty,pos,af,gd⟩) st aA)]
 exact this
theorem bQ.RL {dst:Option Nat} {op:Op} {ty:TypeId} {pos:String} {af:Array Edge} {gd:Option (Nat×Bool)} (aA:eW ops fr gd=some false) (aj:eQ n ⟨dst,op,ty,pos,af,gd⟩=true)
 (h:bQ P n ops l K (dR fr dst (.lazy false .aP)) m):bQ P n ops (⟨dst,op,ty,pos,af,gd⟩::l) K fr m:=by
 intro F lim w ca Q st aO
 unfold wpList
 rw [if_neg (by rw [qU (o:=⟨dst,op,ty,pos,af,gd⟩) st aA];simp)]
 cases dst with
 |some d=>
  refine bQ.from h aO ?_ (.refl _ _ _)
  exact st.set (iJ aj rfl) (.mD _)
 |none=>
  refine bQ.from h aO ?_ (.refl _ _ _)
  exact st
theorem bQ.val {dst:Option Nat} {op:Op} {ty:TypeId} {pos:String} {af:Array Edge} {stl ss:List Nat} {side:Prop} {m':ad} {x:R} (aj:eQ n ⟨dst,op,ty,pos,af,none⟩=true) (aL:gv n ⟨dst,op,ty,pos,af,none⟩=true)
 (aH:eo P m (a1 fr) stl dst op= .val side ss m' x) (al:side) (h:bQ P n ops l K (dR (fr.strip ss) dst x) m'):bQ P n ops (⟨dst,op,ty,pos,af,none⟩::l) K fr m:=
 xm (stl:=stl) aj aL (by simp only [oQ,aH];exact ⟨al,h⟩)
theorem bQ.p7 {dst:Option Nat} {op:Op} {ty:TypeId} {pos:String} {af:Array Edge} {stl ss:List Nat} {side:Prop} {m':ad} (aj:eQ n ⟨dst,op,ty,pos,af,none⟩=true) (aL:gv n ⟨dst,op,ty,pos,af,none⟩=true)
 (aH:eo P m (a1 fr) stl dst op= .p7 side ss m') (al:side) (h:bQ P n ops l K (dR (fr.strip ss) dst .aP) m'):bQ P n ops (⟨dst,op,ty,pos,af,none⟩::l) K fr m:=
 xm (stl:=stl) aj aL (by simp only [oQ,aH];exact ⟨al,h⟩)
theorem bQ.new {dst:Option Nat} {op:Op} {ty:TypeId} {pos:String} {af:Array Edge} {stl ss:List Nat} {side:Prop} {mk:Nat→R} {o:ed} (aj:eQ n ⟨dst,op,ty,pos,af,none⟩=true) (aL:gv n ⟨dst,op,ty,pos,af,none⟩=true)
 (aH:eo P m (a1 fr) stl dst op= .new side ss mk o) (al:side) (h:∀b,m b=none→bQ P n ops l K (dR (fr.strip ss) dst (mk b)) (m.bL b (some o))):bQ P n ops (⟨dst,op,ty,pos,af,none⟩::l) K fr m:=
 xm (stl:=stl) aj aL (by simp only [oQ,aH];exact ⟨al,h⟩)
theorem bQ.bw {d:Nat} {op:Op} {ty:TypeId} {pos:String} {af:Array Edge} {side:Prop} {x:R} (aj:eQ n ⟨some d,op,ty,pos,af,none⟩=true) (aO:bh.bw P m (bx (a1 fr)) op=some (side,x)) (al:side)
 (h:bQ P n ops l K (fr.put d x) m):bQ P n ops (⟨some d,op,ty,pos,af,none⟩::l) K fr m:=
 bQ.quiet (o:=⟨some d,op,ty,pos,af,none⟩) rfl rfl aj (by rw [←wX];exact aO) al h
end
section
variable {bs:List Nat} {fr:bT} {L:List bz} {m:ad}
theorem D3 {x:Operand} {v:a6} {k:bT→Prop} (h:x9 x v fr k) (bc:∀t,x= .tmp t→eR fr t=v):∃bb,k bb∧gL (bm bs bb) ((bm bs fr).strip (nZ x))∧∀y,gL (bm bs bb) y→gL (bm bs bb) y:=by
 cases x with
 |tmp t=>
  obtain rfl:=bc t rfl
  have au:=lo bs fr t
  have hle:(den bs (eR fr t)).plain=den bs (eR fr t)→gL (bm bs fr) ((bm bs fr).strip [t]):=fun e s bR ah=>by
   simp only [Fr.strip,Fr.put,Fr.get,au]
   by_cases aI:t=s
   · subst aI
     rw [if_pos rfl]
     refine ⟨_,rfl, .inl ?_⟩
     simp only [a1,ah,Option.getD_some] at au
     rw [au,e]
   · rw [if_neg aI];exact ⟨_,ah, .inl rfl⟩
  simp only [x9] at h
  cases bc:eR fr t with
  |own l=>
   rw [bc] at h au
   exact ⟨_,h,by simp only [bm,Fr.strip,nZ,Fr.put,au,den,R.plain];exact gL.refl _,fun _ h=>h⟩
  |agg l=>
   rw [bc] at h au
   obtain ⟨u,h,hu⟩:=vg bs h
   exact ⟨_,h,by simp only [bm,Fr.strip,nZ,Fr.put,au,den,R.plain,hu];exact gL.refl _,fun _ h=>h⟩
  |ez l=>rw [bc] at h;exact h.elim
  |aK x=>rw [bc] at h hle;exact ⟨_,h,hle (by simp only [den,xU]),fun _ h=>h⟩
  |b x=>rw [bc] at h hle;exact ⟨_,h,hle (by simp only [den,R.plain]),fun _ h=>h⟩
  |loc i o=>rw [bc] at h hle;exact ⟨_,h,hle (by simp only [den,R.plain]),fun _ h=>h⟩
  |ms i a b=>rw [bc] at h hle;exact ⟨_,h,hle (by simp only [den,R.plain]),fun _ h=>h⟩
  |mp i=>rw [bc] at h hle;exact ⟨_,h,hle (by simp only [den,R.plain]),fun _ h=>h⟩
  |hY i a b c=>rw [bc] at h hle;exact ⟨_,h,hle (by simp only [den,R.plain]),fun _ h=>h⟩
  |bO i a b c=>rw [bc] at h hle;exact ⟨_,h,hle (by simp only [den,R.plain]),fun _ h=>h⟩
  |fn f a c=>rw [bc] at h hle;exact ⟨_,h,hle (by simp only [den,R.plain]),fun _ h=>h⟩
  |off=>rw [bc] at h hle;exact ⟨_,h,hle (by simp only [den,R.plain]),fun _ h=>h⟩
 |const v=>exact ⟨_,h,gL.refl _,fun _ h=>h⟩
 |global g=>exact ⟨_,h,gL.refl _,fun _ h=>h⟩
 |func f=>exact ⟨_,h,gL.refl _,fun _ h=>h⟩
theorem IF {x:Operand} {k:a6→Prop} (h:An fr x k):∃v,k v∧den bs v=fV (a1 (bm bs fr)) x∧∀t,x= .tmp t→eR fr t=v:=by
 cases x with
 |tmp t=>
  rw [An,mj] at h
  exact ⟨_,h,by rw [fV,lo],fun _ e=>by cases e;rfl⟩
 |const v=>
  obtain ⟨u,I,e⟩:=Ip bs h
  exact ⟨u,I,e,fun _ e=>by cases e⟩
 |global g=>exact ⟨_,h,by simp only [den,R.plain,fV],fun _ e=>by cases e⟩
 |func f=>exact ⟨_,h,by simp only [den,bo,fV],fun _ e=>by cases e⟩
theorem D4 {v:a6} (h:tF v=true):(den bs v).one=true:=by
 cases v<;>first|(simp only [den,R.one];done)|(simp [tF] at h;done)
theorem RM {x:R} {k:R→Prop} (h:oZ x k):x.one=true:=by
 cases x with
 |agg l=>exact h.elim
 |tuple l=>exact h.elim
 |lazy g x=>exact h.elim
 |aP=>exact h.elim
 |_=>rfl
theorem AN:∀{l:List a6} {k:List a6→Prop},vw l k→∃u,k u∧bo bs u=bo bs l∧(bo bs l).all R.one=true
 |[],_,h=>⟨_,h,rfl,by simp only [bo,List.all_nil]⟩
 |v::r,k,h=>by
  have jL:∀(h:bF (tF v) (vw r fun dW=>k (v::dW))),∃u,k u∧bo bs u=bo bs (v::r)∧(bo bs (v::r)).all R.one=true:=fun h=>by
   obtain ⟨I,h⟩:=dN.1 h
   obtain ⟨u,h,e,aH⟩:=AN h
   exact ⟨_,h,by simp only [bo,e],by simp only [bo,List.all_cons,D4 I,aH,Bool.and_true]⟩
  cases v with
  |aK x=>
   have I:=RM h
   obtain ⟨bp,h⟩:=qo h
   obtain ⟨u,h,e,aH⟩:=AN h
   exact ⟨_,h,by simp only [bo,e],by simp only [bo,den,bp,List.all_cons,I,aH,Bool.and_true]⟩
  |own l=>exact jL h
  |b l=>exact jL h
  |loc i o=>exact jL h
  |ms i n c=>exact jL h
  |mp i=>exact jL h
  |hY i a w j=>exact jL h
  |bO i a w j=>exact jL h
  |agg l=>exact jL h
  |ez l=>exact jL h
  |fn f a c=>exact jL h
  |off=>exact jL h
theorem AO (bs:List Nat):∀(l:List R),bo bs (tG l)=R.fe l
 |[]=>by simp only [tG,bo,R.fe]
 |x::r=>by simp only [tG,bo,q2,R.fe,AO bs r]
theorem IG {x:R} (h:x.one=true):x.eg=true∧x.cells=[x]:=by cases x<;>first|exact ⟨rfl,rfl⟩|cases h
theorem D5 {v:a6} {k:List a6→Prop} (h:Ax v k):∃u,k u∧bo bs u=(den bs v).cells∧(den bs v).eg=true∧(den bs v).cells.all R.one=true:=by
 have jL:∀(h:bF (tF v) (k [v])),∃u,k u∧bo bs u=(den bs v).cells∧(den bs v).eg=true∧(den bs v).cells.all R.one=true:=fun h=>by
  obtain ⟨I,h⟩:=dN.1 h
  have J:=D4 (bs:=bs) I
  obtain ⟨ai,aC⟩:=IG J
  exact ⟨_,h,by rw [aC];simp only [bo],ai,by rw [aC];simp only [List.all_cons,List.all_nil,J,Bool.and_true]⟩
 cases v with
 |agg l=>
  obtain ⟨u,h,e,aH⟩:=AN (bs:=bs) h
  exact ⟨_,h,by simp only [den,R.cells,e],by simp only [den,R.eg],by simp only [den,R.cells,aH]⟩
 |aK x=>
  cases x with
  |agg l=>
   obtain ⟨u,h,e,aH⟩:=AN (bs:=bs) h
   rw [AO] at e aH
   exact ⟨_,h,by simp only [den,R.plain,R.cells,e],by simp only [den,R.plain,R.eg],by simp only [den,R.plain,R.cells,aH]⟩
  |tuple l=>exact h.elim
  |lazy g l=>exact h.elim
  |aP=>exact h.elim
  |slice o l=>cases o with
   |true=>exact h.elim
   |false=>exact ⟨_,h,by simp only [bo,den,R.plain,R.cells],by simp only [den,R.plain,R.eg],by simp only [den,R.plain,R.cells,List.all_cons,R.one,List.all_nil,Bool.and_true]⟩
  |_=>exact ⟨_,h,by simp only [bo,den,R.plain,R.cells],by simp only [den,R.plain,R.eg],by simp only [den,R.plain,R.cells,List.all_cons,R.one,List.all_nil,Bool.and_true]⟩
 |own l=>exact jL h
 |b l=>exact jL h
 |loc i o=>exact jL h
 |ms i n c=>exact jL h
 |mp i=>exact jL h
 |hY i a w j=>exact jL h
 |bO i a w j=>exact jL h
 |ez l=>exact jL h
 |fn f a c=>exact jL h
 |off=>exact jL h
theorem D6:∀{l:List a6} {k:List a6→Prop},Ay l k→∃u,k u∧bo bs u=R.fe (bo bs l)
 |[],_,h=>⟨_,h,by simp only [bo,R.fe]⟩
 |v::r,k,h=>by
  obtain ⟨aL,h⟩:=dN.1 h
  obtain ⟨fX,I,ax⟩:=vh bs aL h
  obtain ⟨dW,J,aI⟩:=D6 I
  exact ⟨_,J,by simp only [bo,R.fe,ax,aI]⟩
theorem RN {v:a6} {k:a6→Prop} (h:DT v k):∃u,k u∧den bs u=(den bs v).plain:=by
 unfold DT at h
 split at h
 · obtain ⟨l',I,e⟩:=D6 (bs:=bs) h
   exact ⟨_,I,by simp only [den,R.plain,e]⟩
 · obtain ⟨aL,I⟩:=dN.1 h
   exact vh bs aL I
theorem IH (l cs:List a6) (off n:Nat):bo bs (ya l cs off n)=(bo bs l).take off++bo bs cs++(bo bs l).drop (off+n):=by
 simp only [ya,mi,List.map_append,List.map_take,List.map_drop]
theorem RO {z:Z} {v:Value} (h:tz v z=true):den bs z.tA=jc v:=by
 unfold tz at h
 split at h
 · simp only [Bool.and_eq_true,decide_eq_true_eq] at h
   obtain ⟨rfl,rfl⟩:=h
   simp only [Z.tA,den,R.plain,jc]
 · simp only [decide_eq_true_eq] at h
   simp only [Z.tA,den,R.plain,jc,h]
 · rename_i b
   cases b
   · simp only [Z.tA,den,bM.val,jc]
   · cases h
 all_goals first|(cases h;done)|simp only [Z.tA,den,R.plain,jc]
theorem yg:∀{l:List Value} {z:List Z},q3 l z=true→bo bs (kY z)=l.map jc
 |[],[],_=>by simp only [kY,bo,List.map_nil]
 |v::r,z::s,h=>by
  simp only [q3,Bool.and_eq_true] at h
  simp only [kY,bo,List.map_cons,RO h.1,yg h.2]
 |[],_::_,h=>by cases h
 |_::_,[],h=>by cases h
theorem gz.hG {P:Program} {t:Nat} {i:hk} (cN:gz P t i) (aA:i.z≠[]):∃z,bh.hG P t=some z∧z.cells=bo bs (kY i.z)∧z.eg=true∧(kY i.z).length=i.n:=by
 obtain ⟨v,I,J,ai,aC⟩:=cN.zero aA
 have ar:∀z:List Z,(kY z).length=z.length:=fun z=>by
  induction z with
  |nil=>rfl
  |cons a r aQ=>simp only [kY,List.length_cons,aQ]
 refine ⟨kS v,by simp only [bh.hG,I,J,if_true],?_,?_,by rw [ar,aC]⟩
 · unfold vn at ai
   split at ai
   · simp only [Bool.and_eq_true] at ai
     rw [yg ai.2];rfl
   · rename_i bc
     simp only [Bool.and_eq_true] at ai
     have sk:(jc v).cells=[jc v]:=by
      unfold jc
      split<;>rfl
     have u2:kS v=jc v:=by
      cases v with
      |agg cs=>exact absurd rfl (bc cs)
      |iface t u=>
       cases pO:i.z with
       |nil=>exact absurd pO aA
       |cons a r=>rw [pO] at ai;simp [q3,tz] at ai
      |_=>rfl
     rw [yg ai.2,u2,sk]
     rfl
 · unfold vn at ai
   split at ai
   · rfl
   · rename_i bc
     simp only [Bool.and_eq_true] at ai
     have aN:=ai.2
     cases pO:i.z with
     |nil=>exact absurd pO aA
     |cons a r=>
      rw [pO] at aN
      simp only [q3,Bool.and_eq_true] at aN
      have bE:=aN.1
      unfold tz at bE
      split at bE<;>first|rfl|cases bE
end
end Go.bS
end
section
namespace Go.bS
open Go Go.bh
section
variable {c:gl} {n:Nat} {bs:List Nat} {fr:bT} {L:List bz} {m:ad} {K:Fr→ad→Prop} {ops:Array Oper} {l:List Oper} {ty:TypeId} {pos:String} {af:Array Edge}
def k1 (P:Program) (n:Nat) (ops:Array Oper) (l:List Oper) (K:Fr→ad→Prop) (b0 bs:List Nat) (k:cr):Prop:=
 b0 <+: bs∧∀bb bJ m' gK,b0 <+: gK→Good gK bJ m'→k bb bJ m'→bQ P n ops l K (bm gK bb) (bK gK bJ m')
theorem k1.same {P:Program} {b0:List Nat} {k:cr} (h:k1 P n ops l K b0 bs k) {bb:bT} {bJ:List bz} {m':ad} (g:Good bs bJ m') (aj:k bb bJ m'):bQ P n ops l K (bm bs bb) (bK bs bJ m'):=h.2 bb bJ m' bs h.1 g aj
theorem k1.more {P:Program} {b0:List Nat} {k:cr} (h:k1 P n ops l K b0 bs k) (eu:List Nat) {bb:bT} {bJ:List bz} {m':ad} (g:Good (bs++eu) bJ m') (aj:k bb bJ m'):bQ P n ops l K (bm (bs++eu) bb) (bK (bs++eu) bJ m'):=h.2 bb bJ m' _ (h.1.trans (List.prefix_append _ _)) g aj
theorem o4 {d:Option Nat} {v:a6} {fr:bT} {k:bT→Prop} (h:k0 d v fr k):∃bb,k bb∧bm bs bb=dR (bm bs fr) d (den bs v):=by
 cases d with
 |some d=>exact ⟨_,h,rfl⟩
 |none=>exact ⟨_,h,rfl⟩
theorem gL.put {fw f:Fr} (h:gL fw f) (d:Option Nat) {bR x:R} (ah:lq bR x):gL (dR fw d bR) (dR f d x):=by
 cases d with
 |some d=>exact h.cons d ah
 |none=>exact h
theorem D7 (d:Nat):((some d).map ([]:List Nat).contains).getD false=false:=rfl
theorem D8 (d:Nat):((some d).map ([d]:List Nat).contains).getD false=true:=by simp
theorem II (aJ:fm c.P c.T=true) (g:Good bs L m) {d:Nat} {op:Op} {k:cr} (aj:eQ n ⟨some d,op,ty,pos,af,none⟩=true) (U:k1 c.P n ops l K c.bs bs k) {w:Bool} (h:sc c.T w fr L op fun u=>k ((d,u)::fr) L m):
 bQ c.P n ops (⟨some d,op,ty,pos,af,none⟩::l) K (bm bs fr) (bK bs L m):=by
 obtain ⟨side,z,u,aO,al,rfl,h⟩:=DS (P:=c.P) (bs:=bs) (m:=m) aJ g h
 exact bQ.bw aj aO al (U.same g h)
theorem IJ (g:Good bs L m) {d:Nat} {op:Op} {k:cr} (aj:eQ n ⟨some d,op,ty,pos,af,none⟩=true) (U:k1 c.P n ops l K c.bs bs k) (h:dY (bw c.P (bK bs L m) (bx (a1 (bm bs fr))) op) bs fun u=>k ((d,u)::fr) L m):
 bQ c.P n ops (⟨some d,op,ty,pos,af,none⟩::l) K (bm bs fr) (bK bs L m):=by
 obtain ⟨side,z,u,aO,al,rfl,h⟩:=h
 exact bQ.bw aj aO al (U.same g h)
theorem RP (g:Good bs L m) {dst:Option Nat} {t:Nat} {k:cr} (aj:eQ n ⟨dst, .assign (.tmp t),ty,pos,af,none⟩=true) (aL:gv n ⟨dst, .assign (.tmp t),ty,pos,af,none⟩=true) (U:k1 c.P n ops l K c.bs bs k) {bO:List Nat} (h:il c bO dst (.assign (.tmp t)) fr L m k):
 bQ c.P n ops (⟨dst, .assign (.tmp t),ty,pos,af,none⟩::l) K (bm bs fr) (bK bs L m):=by
 simp only [il] at h
 rw [mj] at h
 obtain ⟨D9,h⟩:=dN.1 h
 obtain ⟨u,h,hu⟩:=vh bs D9 h
 obtain ⟨bb,h,hle,_⟩:=D3 (bs:=bs) h (fun t e=>by cases e;rfl)
 refine bQ.val (stl:=[]) aj aL (by simp only [eo];rfl) trivial ?_
 have au:=lo bs fr t
 split at h
 · rename_i q bc
   obtain ⟨pR,h,aI⟩:=o4 (bs:=bs) h
   refine bQ.less ?_ (U.same g h)
   rw [aI]
   exact hle.put dst (.inl (by rw [au,bc]))
 · obtain ⟨pR,h,aI⟩:=o4 (bs:=bs) h
   refine bQ.less ?_ (U.same g h)
   rw [aI]
   exact hle.put dst (.pl (by rw [au,hu]))
theorem RQ (g:Good bs L m) {dst:Option Nat} {t:Nat} {k:cr} (aj:eQ n ⟨dst, .move (.tmp t),ty,pos,af,none⟩=true) (aL:gv n ⟨dst, .move (.tmp t),ty,pos,af,none⟩=true) (U:k1 c.P n ops l K c.bs bs k) {bO:List Nat} (h:il c bO dst (.move (.tmp t)) fr L m k):
 bQ c.P n ops (⟨dst, .move (.tmp t),ty,pos,af,none⟩::l) K (bm bs fr) (bK bs L m):=by
 simp only [il] at h
 rw [mj] at h
 obtain ⟨u,J,hu⟩:=RN (bs:=bs) h
 clear h
 have au:=lo bs fr t
 have gen:k0 dst u fr (fun fr=>k fr L m)→bQ c.P n ops (⟨dst, .move (.tmp t),ty,pos,af,none⟩::l) K (bm bs fr) (bK bs L m):=fun aq=>by
  obtain ⟨pR,I,aI⟩:=o4 (bs:=bs) aq
  cases dst with
  |none=>
   refine bQ.val (stl:=[]) aj aL (by simp only [eo];rfl) trivial ?_
   have:=U.same g I
   rw [aI] at this
   exact this
  |some d=>
   refine bQ.val (stl:=[]) aj aL (by simp only [eo,D7];rfl) trivial ?_
   have:=U.same g I
   rw [aI,hu] at this
   simp only [Fr.strip,Fr.put,dR,au] at this ⊢
   exact this
 cases dst with
 |none=>
  refine gen ?_
  split at J
  · rename_i e;cases e
  · exact J
 |some d=>
  cases bc:eR fr t with
  |own q=>
   rw [bc] at J
   simp only at J
   cases al:vx c bO d with
   |true=>
    rw [al] at J
    refine bQ.val (stl:=[d]) aj aL (by simp only [eo,D8,if_true];rfl) trivial ?_
    have:=U.same g J
    simp only [bm,hu] at this
    simp only [Fr.strip,Fr.put,dR,au]
    rw [←bc] at this
    exact this
   |false=>
    rw [al] at J
    exact gen J
  |_=>rw [bc] at J;exact gen J
theorem RR (g:Good bs L m) {dst:Option Nat} {t i:Nat} {k:cr} (aj:eQ n ⟨dst, .extract (.tmp t) i,ty,pos,af,none⟩=true) (aL:gv n ⟨dst, .extract (.tmp t) i,ty,pos,af,none⟩=true) (U:k1 c.P n ops l K c.bs bs k) {bO:List Nat} (h:il c bO dst (.extract (.tmp t) i) fr L m k):
 bQ c.P n ops (⟨dst, .extract (.tmp t) i,ty,pos,af,none⟩::l) K (bm bs fr) (bK bs L m):=by
 simp only [il] at h
 rw [mj] at h
 have au:=lo bs fr t
 cases dst with
 |none=>cases bc:eR fr t<;>rw [bc] at h<;>exact h.elim
 |some d=>
  have gen:tE (eR fr t) i (fun u=>k ((d,u)::fr) L m)→bQ c.P n ops (⟨some d, .extract (.tmp t) i,ty,pos,af,none⟩::l) K (bm bs fr) (bK bs L m):=fun h=>
   IJ g aj U (DR (P:=c.P) h (by rw [bx,au]))
  cases bc:eR fr t with
  |ez q=>
   rw [bc] at h au gen
   simp only [den] at h au
   cases ah:nth q i with
   |none=>rw [ah] at h;exact h.elim
   |some x=>
    rw [ah] at h
    obtain ⟨aI,bG⟩:=sd (bs:=bs) ah
    cases x with
    |own y=>
     simp only at h
     obtain ⟨l',I,ic⟩:=D6 (bs:=bs) h
     cases al:vx c bO d with
     |true=>
      rw [al] at I
      refine bQ.val (stl:=[d]) (ss:=[t]) (side:=i<(bo bs q).length) (m':=bK bs L m) (x:=(bo bs q).getD i .aP) aj aL (by simp only [eo,au,D8,if_true]) bG ?_
      have:=U.same g I
      simp only [bm,den,ic] at this
      simp only [Fr.strip,Fr.put,dR,au,R.plain,aI,den]
      exact this
     |false=>
      rw [al] at I
      refine bQ.val (stl:=[]) (ss:=[]) (side:=i<(bo bs q).length) (m':=bK bs L m) (x:=((bo bs q).getD i .aP).plain) aj aL (by simp only [eo,au,D7];rfl) bG ?_
      have:=U.same g I
      simp only [bm,den,R.plain] at this
      simp only [Fr.strip,Fr.put,dR,aI,den,R.plain]
      exact this
    |_=>exact gen (by simp only [tE,ah];exact h)
  |_=>rw [bc] at h gen;exact gen h
theorem wR (aJ:fm c.P c.T=true) {b0:List Nat} {new:List Nat} (ae:bs=b0++new) (dz:c.bs=b0) (g:Good bs L m) {dst:Option Nat} {t:Nat} {x:Operand} {k:cr} (aj:eQ n ⟨dst, .load t x,ty,pos,af,none⟩=true) (aL:gv n ⟨dst, .load t x,ty,pos,af,none⟩=true) (U:k1 c.P n ops l K c.bs bs k) {bO:List Nat} (h:il c bO dst (.load t x) fr L m k):
 bQ c.P n ops (⟨dst, .load t x,ty,pos,af,none⟩::l) K (bm bs fr) (bK bs L m):=by
 simp only [il] at h
 obtain ⟨v,h,e⟩:=e5 bs h
 obtain ⟨i,cN,h⟩:=et aJ h
 cases dst with
 |none=>exact h.elim
 |some d=>
  have key:q5 L i v (fun u=>k ((d,u)::fr) L m)→bQ c.P n ops (⟨some d, .load t x,ty,pos,af,none⟩::l) K (bm bs fr) (bK bs L m):=fun h=>
   IJ g aj U (IB cN g h e)
  have lr:ik c.P c.bs (some d) (.load t x) fr L m k→bQ c.P n ops (⟨some d, .load t x,ty,pos,af,none⟩::l) K (bm bs fr) (bK bs L m):=fun h=>by
   subst dz
   subst ae
   exact h.h new g n ops ty pos af l K aj aL U.2
  cases v with
  |loc b off=>
   simp only at h
   cases kq:nth L b with
   |none=>rw [kq] at h;exact key h
   |some o=>
    rw [kq] at h
    cases o with
    |obj o=>exact key h
    |cells fK=>
     simp only at h
     cases aO:nth fK off with
     |none=>rw [aO] at h;exact key h
     |some y=>
      rw [aO] at h
      cases y with
      |own q=>
       simp only at h
       cases al:vx c bO d with
       |false=>rw [al] at h;exact key h
       |true=>
        cases bW:i.k.ij with
        |true=>rw [al,bW] at h;exact key h
        |false=>
         rw [al,bW] at h
         rw [j2] at kq
         have hm:=mO g kq
         obtain ⟨aI,bG⟩:=sd (bs:=bs) aO
         refine bQ.val (stl:=[d]) (ss:=[]) (side:=ef c.P t=true∧ld c.P t=false∧off<(bo bs fK).length) (m':=(bK bs L m).bL (bs.getD b 0) (some (.cells ((bo bs fK).set off ((bo bs fK).getD off .aP).plain)))) (x:=(bo bs fK).getD off .aP) aj aL ?_ ⟨cN.is,cN.tB.trans bW,bG⟩ ?_
         · have cR:bx (a1 (bm bs fr)) x= .ptr ⟨bs.getD b 0,off,none⟩:=by rw [←e];simp only [den]
           simp only [eo,D8,if_true,cR,hm,er]
         · have:=U.same (g.set b (.cells (fK.set off (.aK (.slice false q))))) h
           rw [←mem_set g kq] at this
           have kB:bo bs (fK.set off (.aK (.slice false q)))=(bo bs fK).set off (.slice false q):=by simp only [mi,List.map_set,den,R.plain]
           simp only [bm,er,kB] at this
           simp only [Fr.strip,Fr.put,dR,aI,den,R.plain]
           exact this
      |_=>exact key h
  |aK y=>exact key h
  |hY b q w j=>
   cases pS:sh c (some d) with
   |true=>simp only [pS] at h;exact lr h
   |false=>simp only [pS] at h;exact key h
  |_=>exact lr h
theorem RS {bs:List Nat} {u:List a6} {x:R} (h:bo bs u=x.cells):u.length=x.cells.length:=by rw [←h,kW]
theorem RT (aJ:fm c.P c.T=true) {b0:List Nat} {new:List Nat} (ae:bs=b0++new) (dz:c.bs=b0) (g:Good bs L m) {dst:Option Nat} {t:Nat} {a x:Operand} {k:cr} (aY:dst=none) (aj:eQ n ⟨dst, .store t a x,ty,pos,af,none⟩=true) (aL:gv n ⟨dst, .store t a x,ty,pos,af,none⟩=true) (U:k1 c.P n ops l K c.bs bs k) {bO:List Nat} (h:il c bO dst (.store t a x) fr L m k):
 bQ c.P n ops (⟨dst, .store t a x,ty,pos,af,none⟩::l) K (bm bs fr) (bK bs L m):=by
 have lr:ik c.P c.bs dst (.store t a x) fr L m k→bQ c.P n ops (⟨dst, .store t a x,ty,pos,af,none⟩::l) K (bm bs fr) (bK bs L m):=fun h=>by
  subst dz;subst ae
  exact h.h new g n ops ty pos af l K aj aL U.2
 subst aY
 simp only [il] at h
 obtain ⟨p,h,e⟩:=e5 bs h
 split at h
 · rename_i b off
   obtain ⟨v,h,aI,lF⟩:=IF (bs:=bs) h
   obtain ⟨i,cN,h⟩:=et aJ h
   split at h
   · rename_i fK kq
     obtain ⟨cs,h,hM,vB,je⟩:=D5 (bs:=bs) h
     obtain ⟨iO,h⟩:=dN.1 h
     obtain ⟨jK,h⟩:=dN.1 h
     obtain ⟨bb,h,hle,_⟩:=D3 (bs:=bs) h lF
     rw [hv,hv] at h
     rw [j2] at kq
     have hm:=mO g kq
     have hlen:=RS hM
     rw [aI] at hM vB je hlen
     have Ea:=Nat.eq_of_beq_eq_true iO
     have RU:=Nat.le_of_ble_eq_true jK
     refine bQ.p7 (stl:=[]) (ss:=nZ x) (side:=(fV (a1 (bm bs fr)) x).eg=true∧((fV (a1 (bm bs fr)) x).cells.all R.one)=true∧(fV (a1 (bm bs fr)) x).cells.length=c.P.cellsOf t∧ef c.P t=true∧off+c.P.cellsOf t≤(bo bs fK).length)
      (m':=(bK bs L m).bL (bs.getD b 0) (some (.cells ((bo bs fK).take off++(fV (a1 (bm bs fr)) x).cells++(bo bs fK).drop (off+c.P.cellsOf t))))) aj aL ?_ ⟨vB,je,by rw [←hlen,Ea,cN.cells],cN.is,by rw [cN.cells,kW];exact RU⟩ ?_
     · have cR:bx (a1 (bm bs fr)) a= .ptr ⟨bs.getD b 0,off,none⟩:=by rw [←e];simp only [den]
       simp only [eo,cR,hm,er]
     · have:=U.same (g.set b (.cells (ya fK cs off i.n))) h
       rw [←mem_set g kq] at this
       simp only [er,IH,hM] at this
       rw [cN.cells]
       exact bQ.less hle this
   · exact lr h
 · exact lr h
theorem AP {o:bz} (g:Good bs L m) {k:Nat→List bz→Prop} (h:yb fr L o k) {b:Nat} (ae:bK bs L m b=none):k L.length (L++[o])∧Good (bs++[b]) (L++[o]) m∧bK (bs++[b]) (L++[o]) m=(bK bs L m).bL b (some (er (bs++[b]) o))∧bm (bs++[b]) fr=bm bs fr∧(bs++[b]).getD L.length 0=b∧lp bs.length L=true:=by
 obtain ⟨I,h⟩:=dN.1 h
 obtain ⟨J,h⟩:=dN.1 h
 rw [←g.len] at I J
 obtain ⟨dQ,e⟩:=vm g J ae o
 exact ⟨h,dQ,e,vl I,by rw [←g.len,List.getD_eq_getElem?_getD,List.getElem?_append_right (Nat.le_refl _)];simp,J⟩
theorem RV (bs gK:List Nat) (z:List Z):bo bs (kY z)=bo gK (kY z):=by
 induction z with
 |nil=>simp only [kY,bo]
 |cons a r aQ=>
  simp only [kY,bo,aQ]
  cases a<;>simp only [Z.tA,den]
theorem RW (aJ:fm c.P c.T=true) {b0:List Nat} {new:List Nat} (ae:bs=b0++new) (dz:c.bs=b0) (g:Good bs L m) {dst:Option Nat} {t:Nat} {k:cr} (aj:eQ n ⟨dst, .alloc t,ty,pos,af,none⟩=true) (aL:gv n ⟨dst, .alloc t,ty,pos,af,none⟩=true) (U:k1 c.P n ops l K c.bs bs k) {bO:List Nat} (h:il c bO dst (.alloc t) fr L m k):
 bQ c.P n ops (⟨dst, .alloc t,ty,pos,af,none⟩::l) K (bm bs fr) (bK bs L m):=by
 simp only [il] at h
 obtain ⟨i,cN,h⟩:=et aJ h
 split at h
 · subst dz;subst ae
   exact h.h new g n ops ty pos af l K aj aL U.2
 · rename_i eB
   rw [hv] at h
   obtain ⟨z,pG,rU,qa,_⟩:=cN.hG (fun e=>eB e)
   refine bQ.new (stl:=[]) (ss:=[]) (side:=z.eg=true) (mk:=fun b=> .ptr ⟨b,0,none⟩) (o:= .cells z.cells) aj aL (by simp only [eo,pG]) qa fun b ae=>?_
   obtain ⟨h,dQ,ax,aI,cR,_⟩:=AP g h ae
   rw [hv] at h
   obtain ⟨bb,h,kB⟩:=o4 (bs:=bs++[b]) h
   have:=U.more _ dQ h
   rw [ax,kB,aI] at this
   simp only [er,den,cR] at this
   rw [RV (bs++[b]) bs,←rU] at this
   exact this
theorem RX (g:Good bs L m) {dst:Option Nat} {t:Nat} {x:Operand} {k:cr} (aj:eQ n ⟨dst, .box t x,ty,pos,af,none⟩=true) (aL:gv n ⟨dst, .box t x,ty,pos,af,none⟩=true) (U:k1 c.P n ops l K c.bs bs k) {bO:List Nat} (h:il c bO dst (.box t x) fr L m k):
 bQ c.P n ops (⟨dst, .box t x,ty,pos,af,none⟩::l) K (bm bs fr) (bK bs L m):=by
 simp only [il] at h
 obtain ⟨v,I,aI,lF⟩:=IF (bs:=bs) h
 obtain ⟨cs,J,hM,vB,je⟩:=D5 (bs:=bs) I
 obtain ⟨bb,ai,hle,_⟩:=D3 (bs:=bs) J lF
 obtain ⟨rP,aC⟩:=dN.1 ai
 refine xz (stl:=[]) aj aL ?_
 simp only [hX,eW]
 refine ⟨by rw [←aI];exact vB,fun b ae=>?_⟩
 obtain ⟨aN,dQ,ax,cR,kB,_⟩:=AP g aC ae
 rw [hv] at aN
 obtain ⟨pR,bE,tM⟩:=o4 (bs:=bs++[b]) aN
 have:=U.more _ dQ bE
 rw [←g.len] at rP
 rw [ax,tM,cR] at this
 simp only [er,den,kB,vk (x:=[b]) rP,hM,aI] at this
 exact bQ.less (hle.put dst (.inl rfl)) this
theorem RY (aJ:fm c.P c.T=true) (g:Good bs L m) {dst:Option Nat} {t:Nat} {k:cr} (aj:eQ n ⟨dst, .makeMap t none,ty,pos,af,none⟩=true) (aL:gv n ⟨dst, .makeMap t none,ty,pos,af,none⟩=true) (U:k1 c.P n ops l K c.bs bs k) {bO:List Nat} (h:il c bO dst (.makeMap t none) fr L m k):
 bQ c.P n ops (⟨dst, .makeMap t none,ty,pos,af,none⟩::l) K (bm bs fr) (bK bs L m):=by
 simp only [il] at h
 obtain ⟨i,cN,I⟩:=et aJ h
 obtain ⟨aA,J⟩:=dN.1 I
 obtain ⟨gw,gJ,fs⟩:∃gw gJ,i.k= .mp gw gJ:=by cases ay:i.k<;>rw [ay] at aA<;>first|exact ⟨_,_,rfl⟩|cases aA
 refine bQ.new (stl:=[]) (ss:=[]) (side:=True) (mk:=fun b=> .map b) (o:= .map []) aj aL (by simp only [eo,cN.mp fs];rfl) trivial fun b ae=>?_
 obtain ⟨aN,dQ,ax,cR,kB,_⟩:=AP g J ae
 rw [hv] at aN
 obtain ⟨pR,bE,tM⟩:=o4 (bs:=bs++[b]) aN
 have:=U.more _ dQ bE
 rw [ax,tM,cR] at this
 simp only [er,den,kB] at this
 exact this
theorem toK_go:∀{l:List a6} {k:List R→Prop},toK.go l k→k (bo bs l)
 |[],_,h=>by simp only [bo];exact h
 | .aK x::r,k,h=>by
   obtain ⟨bp,I⟩:=qo (k:=fun bR=>toK.go r fun dW=>k (bR::dW)) h
   have:=toK_go (l:=r) I
   simp only [bo,den,bp]
   exact this
 | .b q::r,k,h=>by
   have:=toK_go (l:=r) (k:=fun dW=>k (.bool q.val::dW)) h
   simp only [bo,den]
   exact this
 | .own l::r,k,h=>by
   have:=toK_go (l:=r) (k:=fun dW=>k (.slice true l::dW)) h
   simp only [bo,den]
   exact this
 | .loc _ _::_,_,h| .ms _ _ _::_,_,h| .mp _::_,_,h| .hY _ _ _ _::_,_,h| .bO _ _ _ _::_,_,h| .agg _::_,_,h| .ez _::_,_,h| .fn _ _ _::_,_,h| .off::_,_,h=>h.elim
theorem RZ {x:R} {k:R→Prop} (h:vi x k):x.eg=true:=by
 cases x with
 |tuple l=>exact h.elim
 |lazy g x=>exact h.elim
 |aP=>exact h.elim
 |_=>rfl
theorem toK_sound {v:a6} {k:R→Prop} (h:toK v k):k (den bs v)∧(den bs v).eg=true:=by
 cases v with
 |aK x=>
  have ao:=RZ h
  obtain ⟨e,h⟩:=Ak h
  simp only [den,e]
  exact ⟨h,ao⟩
 |b q=>simp only [den];exact ⟨h,rfl⟩
 |agg l=>
  have I:=toK_go (bs:=bs) (l:=l) (k:=fun l'=>k (.agg l')) h
  simp only [den]
  exact ⟨I,rfl⟩
 |_=>exact h.elim
theorem toLK_sound:∀{l:List a6} {k:List R→Prop},toLK l k→k (bo bs l)∧∀x∈bo bs l,x.eg=true
 |[],_,h=>⟨by simp only [bo];exact h,by simp only [bo];simp⟩
 |v::r,k,h=>by
  obtain ⟨I,ao⟩:=toK_sound (bs:=bs) h
  obtain ⟨J,au⟩:=toLK_sound I
  refine ⟨by simp only [bo];exact J,fun x ah=>?_⟩
  simp only [bo,List.mem_cons] at ah
  rcases ah with rfl|ah
  · exact ao
  · exact au x ah
theorem yh:∀{ps:List (Nat×Operand)} {k:List (Nat×a6)→Prop},sg fr ps k→∃us,k us∧us.map (fun p=>(p.1,den bs p.2))=ps.map (fun p=>(p.1,bx (a1 (bm bs fr)) p.2))
 |[],_,h=>⟨_,h,rfl⟩
 |(i,x)::r,k,h=>by
  obtain ⟨v,I,e⟩:=e5 bs h
  obtain ⟨us,J,aI⟩:=yh I
  exact ⟨_,J,by simp only [List.map_cons,e,aI]⟩
theorem Eb:∀{ps:List (Nat×a6)} {n:Nat},idxFrom n ps=true→ps.map (·.1)=(List.range ps.length).map (n+·)
 |[],_,_=>rfl
 |(i,v)::r,n,h=>by
  simp only [idxFrom] at h
  cases ae:Nat.beq n i with
  |false=>rw [ae] at h;cases h
  |true=>
   rw [ae] at h
   have:=Eb (ps:=r) (n:=n+1) h
   simp only [List.map_cons,List.length_cons,List.range_succ_eq_map,List.map_map,this,Nat.eq_of_beq_eq_true ae,Nat.add_zero]
   congr 1
   apply List.map_congr_left
   intro a _
   simp only [Function.comp]
   omega
theorem AQ:∀(ps:List (Nat×a6)),o2 ps=ps.map (·.2)
 |[]=>rfl
 |(_,v)::r=>by simp only [o2,List.map_cons,AQ r]
theorem IK (aJ:fm c.P c.T=true) {t e:Nat} {i j:hk} (dZ:gz c.P t i) (ab:i.k= .bO e) (fD:gz c.P e j) {dd:Nat} {parts:Array (Nat×Operand)} {us:List (Nat×a6)} (he:us.map (fun p=>(p.1,den bs p.2))=parts.toList.map (fun p=>(p.1,bx (a1 (bm bs fr)) p.2)))
 (I:idxFrom 0 us=true) (J:Nat.beq us.length dd=true) (ai:Nat.ble (dd*j.n) 16777216=true) (aC:∀x∈bo bs (o2 us),x.eg=true) (aN:((bo bs (o2 us)).all fun x=>Nat.beq x.cells.length j.n)=true) {d:Option Nat} {stl:List Nat} (al:(d.map stl.contains).getD false=false):
 eo c.P m (a1 (bm bs fr)) stl d (.buildSlice t dd parts)= .val (ef c.P e=true∧0<c.P.cellsOf e∧kp c.P e=true∧dd*c.P.cellsOf e≤16777216∧parts.toList.map (·.1)=List.range dd∧∀p∈parts.toList,(bx (a1 (bm bs fr)) p.2).eg=true∧(bx (a1 (bm bs fr)) p.2).cells.length=c.P.cellsOf e) [] m (.slice true (bo bs (o2 us)))∧
 (ef c.P e=true∧0<c.P.cellsOf e∧kp c.P e=true∧dd*c.P.cellsOf e≤16777216∧parts.toList.map (·.1)=List.range dd∧∀p∈parts.toList,(bx (a1 (bm bs fr)) p.2).eg=true∧(bx (a1 (bm bs fr)) p.2).cells.length=c.P.cellsOf e):=by
 obtain ⟨jD,jE,mm,mP⟩:=dZ.bO ab
 have bc:bo bs (o2 us)=parts.toList.map fun p=>bx (a1 (bm bs fr)) p.2:=by
  have:=congrArg (List.map Prod.snd) he
  simp only [List.map_map] at this
  rw [mi,AQ,List.map_map]
  exact this
 have R0:parts.toList.map (·.1)=us.map (·.1):=by
  have:=congrArg (List.map Prod.fst) he
  simp only [List.map_map] at this
  exact this.symm
 refine ⟨by simp only [eo,al,jD,bc];rfl,jE,mm,mP,by rw [fD.cells];exact Nat.le_of_ble_eq_true ai,?_,fun p aB=>?_⟩
 · rw [R0,Eb I,←Nat.eq_of_beq_eq_true J]
   simp
 · have hm:bx (a1 (bm bs fr)) p.2∈bo bs (o2 us):=by rw [bc];exact List.mem_map_of_mem (f:=fun p=>bx (a1 (bm bs fr)) p.2) aB
   refine ⟨aC _ hm,?_⟩
   rw [List.all_eq_true] at aN
   rw [fD.cells]
   exact Nat.eq_of_beq_eq_true (aN _ hm)
theorem R1 {v:a6} {k:List a6→Prop} (h:sf.DU v k):∃u,k u∧bo bs u=(den bs v).cells∧(den bs v).eg=true:=by
 cases v with
 |agg l=>exact ⟨_,h,by simp only [den,R.cells],rfl⟩
 |aK x=>
  cases x with
  |agg l=>
   simp only [sf.DU] at h
   rw [hv] at h
   exact ⟨_,h,by simp only [den,R.plain,R.cells,AO],by simp only [den,R.plain,R.eg]⟩
  |tuple l=>exact h.elim
  |lazy g x=>exact h.elim
  |aP=>exact h.elim
  |slice o l=>
   obtain ⟨e,h⟩:=qo (k:=fun bR=>k [.aK bR]) h
   exact ⟨_,h,by simp only [den,bo,R.plain,R.cells],by simp only [den,R.plain,R.eg]⟩
  |_=>exact ⟨_,h,by simp only [den,bo,R.plain,R.cells],by simp only [den,R.plain,R.eg]⟩
 |ez l=>exact h.elim
 |off=>exact h.elim
 |_=>exact ⟨_,h,by simp only [den,bo,R.cells],by simp only [den,R.eg]⟩
theorem IL (aJ:fm c.P c.T=true) {cA:List (Nat×Nat)} {fa:Array Field} (ko:fa.toList.map (fun f=>(f.offset,f.type))=cA):∀{us:List (Nat×a6)} {cs:List a6} {k:List a6→Prop},sf c.T cA us cs k→
 ∃cells,k cells∧nn (fun i=>(fa[i]?).map fun f=>(f.offset,c.P.cellsOf f.type)) (bo bs cs) (us.map fun p=>(p.1,den bs p.2))=some (bo bs cells)∧∀p∈us,(den bs p.2).eg=true
 |[],cs,k,h=>⟨_,h,rfl,by simp⟩
 |(i,v)::r,cs,k,h=>by
  simp only [sf] at h
  cases aL:nth cA i with
  |none=>rw [aL] at h;exact h.elim
  |some q=>
   obtain ⟨off,t⟩:=q
   rw [aL] at h
   obtain ⟨j,fD,I⟩:=et aJ h
   obtain ⟨vs,J,p9,vB⟩:=R1 (bs:=bs) I
   obtain ⟨iO,ai⟩:=dN.1 J
   obtain ⟨jK,aC⟩:=dN.1 ai
   rw [hv] at aC
   obtain ⟨cells,aN,e,ao⟩:=IL aJ ko aC
   have aW:(fa[i]?).map (fun f=>(f.offset,c.P.cellsOf f.type))=some (off,j.n):=by
    rw [j2,←ko,List.getElem?_map] at aL
    cases aO:fa.toList[i]? with
    |none=>rw [aO] at aL;cases aL
    |some fd=>
     rw [aO] at aL
     simp only [Option.map_some,Option.some.injEq,Prod.mk.injEq] at aL
     obtain ⟨rfl,rfl⟩:=aL
     have:fa[i]?=some fd:=by simpa using aO
     rw [this]
     simp only [Option.map_some,fD.cells]
   refine ⟨cells,aN,?_,fun p aB=>?_⟩
   · simp only [List.map_cons,nn,aW]
     have ar:(den bs v).cells.length=j.n:=by rw [←p9,kW];exact Nat.eq_of_beq_eq_true iO
     rw [if_pos ⟨ar,by rw [kW];exact Nat.le_of_ble_eq_true jK⟩,←p9,←IH]
     exact e
   · rcases List.mem_cons.1 aB with rfl|aB
     · exact vB
     · exact ao p aB
theorem IM (aJ:fm c.P c.T=true) {t:Nat} {i:hk} (dZ:gz c.P t i) {cA:List (Nat×Nat)} (ab:i.k= .st cA) (aA:i.z≠[]) {parts:Array (Nat×Operand)} {k:List a6→Prop} (h:sg fr parts.toList fun ps=>sf c.T cA ps (kY i.z) k) {d:Option Nat} {stl:List Nat} (al:(d.map stl.contains).getD false=false):
 ∃cells side,k cells∧eo c.P m (a1 (bm bs fr)) stl d (.build t parts)= .val side [] m (.agg (bo bs cells))∧side:=by
 obtain ⟨fa,jD,jE,mm⟩:=dZ.st ab
 obtain ⟨z,kz,z2,z3,_⟩:=dZ.hG (bs:=bs) aA
 obtain ⟨us,I,e⟩:=yh (bs:=bs) h
 obtain ⟨cells,J,aI,ao⟩:=IL (bs:=bs) aJ jE I
 refine ⟨cells,z.eg=true∧(∀f∈fa.toList,ef c.P f.type=true)∧∀p∈parts.toList,(bx (a1 (bm bs fr)) p.2).eg=true,J,?_,?_⟩
 · rw [e,←z2] at aI
   simp only [eo,al,jD,kz,aI]
   rfl
 · refine ⟨z3,fun f aW=>(mm f aW).1,fun p aB=>?_⟩
   have hm:(p.1,bx (a1 (bm bs fr)) p.2)∈us.map (fun p=>(p.1,den bs p.2)):=by rw [e];exact List.mem_map_of_mem (f:=fun p=>(p.1,bx (a1 (bm bs fr)) p.2)) aB
   obtain ⟨q,aO,AR⟩:=List.mem_map.1 hm
   have:=ao q aO
   simp only [Prod.mk.injEq] at AR
   rw [←AR.2];exact this
end
end Go.bS
end
section
namespace Go.bS
open Go Go.bh
section
variable {c:gl} {n:Nat} {fr:bT} {L:List bz} {m:ad} {K:Fr→ad→Prop} {ops:Array Oper} {l:List Oper} {ty:TypeId} {pos:String} {af:Array Edge}
theorem R2 {bs:List Nat} (aJ:fm c.P c.T=true) (g:Good bs L m) {dst:Option Nat} {t:Nat} {parts:Array (Nat×Operand)} {k:cr} (aj:eQ n ⟨dst, .build t parts,ty,pos,af,none⟩=true) (aL:gv n ⟨dst, .build t parts,ty,pos,af,none⟩=true) (U:k1 c.P n ops l K c.bs bs k) {bO:List Nat} (lr:ik c.P c.bs dst (.build t parts) fr L m k→bQ c.P n ops (⟨dst, .build t parts,ty,pos,af,none⟩::l) K (bm bs fr) (bK bs L m)) (h:il c bO dst (.build t parts) fr L m k):
 bQ c.P n ops (⟨dst, .build t parts,ty,pos,af,none⟩::l) K (bm bs fr) (bK bs L m):=by
 simp only [il] at h
 cases pS:sh c dst with
 |true=>rw [pS] at h;exact lr h
 |false=>
 rw [pS] at h
 obtain ⟨i,dZ,I⟩:=et aJ h
 cases ab:i.k with
 |st cA=>
  rw [ab] at I
  obtain ⟨aA,J⟩:=dN.1 I
  rw [hv] at J
  obtain ⟨cells,side,ai,aH,al⟩:=IM (bs:=bs) (m:=bK bs L m) (stl:=[]) (d:=dst) aJ dZ ab (by intro e;rw [e] at aA;cases aA) J (by cases dst<;>rfl)
  obtain ⟨bb,aC,e⟩:=o4 (bs:=bs) ai
  refine bQ.val (stl:=[]) aj aL aH al ?_
  have:=U.same g aC
  rw [e] at this
  simp only [den] at this
  exact this
 |_=>rw [ab] at I;exact I.elim
theorem R3 {b0 new:List Nat} (aJ:fm c.P c.T=true) (dz:c.bs=b0) (g:Good (b0++new) L m) {dst:Option Nat} {t dd:Nat} {parts:Array (Nat×Operand)} {k:cr} (aj:eQ n ⟨dst, .buildSlice t dd parts,ty,pos,af,none⟩=true) (aL:gv n ⟨dst, .buildSlice t dd parts,ty,pos,af,none⟩=true) (U:k1 c.P n ops l K c.bs (b0++new) k) {bO:List Nat} (h:il c bO dst (.buildSlice t dd parts) fr L m k):
 bQ c.P n ops (⟨dst, .buildSlice t dd parts,ty,pos,af,none⟩::l) K (bm (b0++new) fr) (bK (b0++new) L m):=by
 simp only [il] at h
 cases dst with
 |none=>exact h.elim
 |some d=>
  simp only at h
  cases al:has bO d with
  |true=>
   rw [al] at h
   subst dz
   exact h.h new g n ops ty pos af l K aj aL U.2
  |false=>
   rw [al] at h
   obtain ⟨i,dZ,I⟩:=et aJ h
   unfold kA at I
   cases ab:i.k with
   |bO e=>
    rw [ab] at I
    obtain ⟨j,fD,J⟩:=et aJ I
    obtain ⟨us,ai,he⟩:=yh (bs:=b0++new) J
    obtain ⟨fH,aC⟩:=dN.1 ai
    obtain ⟨c2,aN⟩:=dN.1 aC
    obtain ⟨c3,bE⟩:=dN.1 aN
    obtain ⟨dk,ao⟩:=toLK_sound (bs:=b0++new) bE
    obtain ⟨c4,cW⟩:=dN.1 dk
    obtain ⟨aH,tl⟩:=IK (bs:=b0++new) (m:=bK (b0++new) L m) (stl:=[]) (d:=some d) aJ dZ ab fD he fH c2 c3 ao c4 rfl
    refine bQ.val (stl:=[]) aj aL aH tl ?_
    have:=U.same g cW
    simp only [bm,den] at this
    exact this
   |_=>rw [ab] at I;exact I.elim
theorem IN {b0 new:List Nat} (dz:c.bs=b0) (g:Good (b0++new) L m) {dst:Option Nat} {op:Op} {f:FuncId} {vs:List a6} {k:cr} (aj:eQ n ⟨dst,op,ty,pos,af,none⟩=true) (aL:gv n ⟨dst,op,ty,pos,af,none⟩=true) (U:k1 c.P n ops l K c.bs (b0++new) k)
 (aH:eo c.P (bK (b0++new) L m) (a1 (bm (b0++new) fr)) [] dst op= .call f (bo (b0++new) vs)) (h:oc c.P c.bs f vs fr L m fun y bJ m'=>k0 dst y fr fun fr=>k fr bJ m'):
 bQ c.P n ops (⟨dst,op,ty,pos,af,none⟩::l) K (bm (b0++new) fr) (bK (b0++new) L m):=by
 subst dz
 obtain ⟨σ,gU,R4,R5,R6,I,Hd,xk⟩:=h
 refine xm (stl:=[]) aj aL ?_
 simp only [oQ,aH]
 refine I new g _ fun x ah eu dQ=>?_
 have J:=Hd x
 have ai:=xk x ah
 generalize R4 x=y at ai ⊢
 generalize R5 x=bJ at J ai dQ ⊢
 generalize R6 x=az at ai dQ ⊢
 obtain ⟨bb,aC,e⟩:=o4 (bs:=c.bs++new++eu) ai
 have:=U.more eu dQ aC
 rw [e] at this
 have aI:bm (c.bs++new++eu) fr=bm (c.bs++new) fr:=by
  cases ae:Nat.beq bJ.length L.length with
  |true=>
   have ar:bJ.length=L.length:=Nat.eq_of_beq_eq_true ae
   have aN:=dQ.len
   have bE:=g.len
   have:eu=[]:=by
    apply List.eq_nil_of_length_eq_zero
    simp only [List.length_append] at aN bE
    omega
   rw [this,List.append_nil]
  |false=>
   rw [ae] at J
   rw [←g.len] at J
   exact vl J
 rw [aI] at this
 cases dst with
 |none=>exact this
 |some d=>exact this
theorem R7 {b0 new:List Nat} (aJ:fm c.P c.T=true) (dz:c.bs=b0) (g:Good (b0++new) L m) {dst:Option Nat} {args:Array Operand} {bC:Array TypeId} {k:cr} (aj:eQ n ⟨dst, .call ⟨.builtin .append,args,bC⟩,ty,pos,af,none⟩=true) (aL:gv n ⟨dst, .call ⟨.builtin .append,args,bC⟩,ty,pos,af,none⟩=true) (U:k1 c.P n ops l K c.bs (b0++new) k) {bO:List Nat} (h:il c bO dst (.call ⟨.builtin .append,args,bC⟩) fr L m k):
 bQ c.P n ops (⟨dst, .call ⟨.builtin .append,args,bC⟩,ty,pos,af,none⟩::l) K (bm (b0++new) fr) (bK (b0++new) L m):=by
 have lr:ik c.P c.bs dst (.call ⟨.builtin .append,args,bC⟩) fr L m k→bQ c.P n ops (⟨dst, .call ⟨.builtin .append,args,bC⟩,ty,pos,af,none⟩::l) K (bm (b0++new) fr) (bK (b0++new) L m):=fun h=>by
  subst dz
  exact h.h new g n ops ty pos af l K aj aL U.2
 simp only [il] at h
 split at h
 · rename_i s y t u d aH ao
   rw [mj] at h
   obtain ⟨w,I,e⟩:=e5 (b0++new) h
   split at I
   · rename_i sl o l' bc
     obtain ⟨i,dZ,J⟩:=et aJ I
     unfold kA at J
     cases ab:i.k with
     |bO gJ=>
      rw [ab] at J
      obtain ⟨j,fD,ai⟩:=et aJ J
      obtain ⟨fH,aC⟩:=dN.1 ai
      refine aC.h.elim (fun aC=>?_) lr
      clear ai
      obtain ⟨⟨cX,cI,kZ,oR⟩,aN⟩:=aC
      obtain rfl:=Nat.eq_of_beq_eq_true fH
      obtain ⟨jD,jE,mm,mP⟩:=dZ.bO ab
      have au:=lo (b0++new) fr s
      rw [bc] at au
      simp only [den,R.plain] at au e
      refine bQ.val (stl:=[]) (ss:=[s]) (side:=t=t∧ef c.P gJ=true∧0<c.P.cellsOf gJ∧kp c.P gJ=true∧(sl.length+l'.length)*c.P.bytesOf gJ≤140737488355328∧sl.length+l'.length≤140737488355328∧(∀x∈sl,x.cells.length=c.P.cellsOf gJ)∧∀x∈l',x.cells.length=c.P.cellsOf gJ∧x.cells.all R.one=true) (m':=bK (b0++new) L m) (x:= .slice true (sl++l')) aj aL ?_ ?_ ?_
      · simp only [eo,aH,ao,jD,au,←e]
      · rw [fD.bytes,fD.cells]
        exact ⟨rfl,jE,fD.cells▸mm,mP,cX,cI,kZ,oR⟩
      · have:=U.same g aN
        simp only [bm,den,R.plain] at this
        simp only [Fr.strip,Fr.put,dR,au,R.plain]
        exact this
     |_=>rw [ab] at J;exact J.elim
   · exact lr I
 · rename_i y t u d aH ao
   obtain ⟨w,I,e⟩:=e5 (b0++new) h
   split at I
   · rename_i o l'
     obtain ⟨i,dZ,J⟩:=et aJ I
     unfold kA at J
     cases ab:i.k with
     |bO gJ=>
      rw [ab] at J
      obtain ⟨j,fD,ai⟩:=et aJ J
      obtain ⟨fH,aC⟩:=dN.1 ai
      refine aC.h.elim (fun aC=>?_) lr
      clear ai
      obtain ⟨⟨cX,cI,kZ,oR⟩,aN⟩:=aC
      obtain rfl:=Nat.eq_of_beq_eq_true fH
      obtain ⟨jD,jE,mm,mP⟩:=dZ.bO ab
      simp only [den,R.plain] at e
      refine bQ.val (stl:=[]) (ss:=[]) (side:=t=t∧ef c.P gJ=true∧0<c.P.cellsOf gJ∧kp c.P gJ=true∧l'.length*c.P.bytesOf gJ≤140737488355328∧∀x∈l',x.cells.length=c.P.cellsOf gJ∧x.cells.all R.one=true) (m':=bK (b0++new) L m) (x:= .slice true l') aj aL ?_ ?_ ?_
      · simp only [eo,aH,ao,jD,←e]
      · rw [fD.bytes,fD.cells]
        simp only [List.length_nil,Nat.zero_add] at cX
        exact ⟨rfl,jE,fD.cells▸mm,mP,cX,oR⟩
      · have:=U.same g aN
        simp only [bm,den,List.nil_append] at this
        exact this
     |_=>rw [ab] at J;exact J.elim
   · exact lr I
 · exact h.elim
set_option maxHeartbeats 4000000 in
theorem R8 {b0 new:List Nat} (aJ:fm c.P c.T=true) (dz:c.bs=b0) (g:Good (b0++new) L m) {dst:Option Nat} {op:Op} {k:cr} (aY:∀t a x,op= .store t a x→dst=none) (aj:eQ n ⟨dst,op,ty,pos,af,none⟩=true) (aL:gv n ⟨dst,op,ty,pos,af,none⟩=true) (U:k1 c.P n ops l K c.bs (b0++new) k) {bO:List Nat} (h:il c bO dst op fr L m k):
 bQ c.P n ops (⟨dst,op,ty,pos,af,none⟩::l) K (bm (b0++new) fr) (bK (b0++new) L m):=by
 have lr:ik c.P c.bs dst op fr L m k→bQ c.P n ops (⟨dst,op,ty,pos,af,none⟩::l) K (bm (b0++new) fr) (bK (b0++new) L m):=fun h=>by
  subst dz
  exact h.h new g n ops ty pos af l K aj aL U.2
 have ba:=h
 unfold il at h
 split at h
 · exact RP g aj aL U ba
 · exact RQ g aj aL U ba
 · exact RR g aj aL U ba
 · exact wR aJ rfl dz g aj aL U ba
 · exact RT aJ rfl dz g (aY _ _ _ rfl) aj aL U ba
 · exact RW aJ rfl dz g aj aL U ba
 · exact RX g aj aL U ba
 · exact RY aJ g aj aL U ba
 · exact R2 aJ g aj aL U lr ba
 · exact R3 aJ dz g aj aL U ba
 ·
  obtain ⟨us,I,ax⟩:=vj (b0++new) h
  obtain ⟨vs,J,aI⟩:=vj (b0++new) I
  cases dst with
  |none=>exact J.elim
  |some d=>
   have aO:=U.same g J
   simp only [bm,den,ax,aI] at aO
   have:=Qr (P:=c.P) (ops:=ops) (stl:=[]) (r:=[]) (K:=bQ c.P n ops l K) (fr:=bm (b0++new) fr) (m:=bK (b0++new) L m) (d:=d) (ty:=ty) (pos:=pos) (af:=af) (gd:=none) rfl rfl rfl aO
   exact xz aj aL this
 · obtain ⟨q,I,ax⟩:=e5 (b0++new) h
   refine xz (stl:=[]) aj aL ?_
   split at I
   · obtain ⟨u,J,aI⟩:=e5 (b0++new) I
     obtain ⟨bb,ai,cR⟩:=o4 (bs:=b0++new) J
     have aO:=U.same g ai
     rw [cR,aI] at aO
     simp only [den,bM.val] at ax
     simp only [hX,eW,←ax]
     exact aO
   · obtain ⟨u,J,aI⟩:=e5 (b0++new) I
     obtain ⟨bb,ai,cR⟩:=o4 (bs:=b0++new) J
     have aO:=U.same g ai
     rw [cR,aI] at aO
     simp only [den,bM.val] at ax
     simp only [hX,eW,←ax]
     exact aO
   · exact I.elim
 · exact R7 aJ dz g aj aL U ba
 · cases pS:sh c dst with
   |true=>simp only [pS] at h;exact lr h
   |false=>
    simp only [pS] at h
    obtain ⟨us,I,ax⟩:=vj (b0++new) h
    exact IN dz g aj aL U (by simp only [eo,ax]) I
 · rw [mj] at h
   split at h
   · rename_i t args _ _ f a Az bc
     obtain ⟨us,I,ax⟩:=vj (b0++new) h
     rw [hv] at I
     refine IN dz g aj aL U ?_ I
     have au:=lo (b0++new) fr t
     rw [bc] at au
     simp only [den] at au
     simp only [eo,au,mi,List.map_append]
     rw [mi] at ax
     rw [ax]
   · exact lr h
 all_goals first|exact lr h|skip
 · cases pS:sh c dst with
   |true=>simp only [pS] at h;exact lr h
   |false=>
    simp only [pS] at h
    cases dst with
    |none=>exact h.elim
    |some d=>exact II aJ g aj U h
 cases dst with
 |none=>exact h.elim
 |some d=>exact II aJ g aj U h
end
end Go.bS
end
section
namespace Go.bS
open Go Go.bh
section
variable {c:gl} {n:Nat} {L:List bz} {m:ad} {K:Fr→ad→Prop} {ops:Array Oper} {l:List Oper} {bs:List Nat}
theorem yi {t:Nat} {v:a6}:∀{fr:bT} {k:bT→Prop},pQ fr t v k→den bs v=den bs (eR fr t)→∃bb,k bb∧bm bs bb=bm bs fr
 |[],_,h,_=>⟨_,h,rfl⟩
 |(s,x)::r,k,h,e=>by
  simp only [pQ] at h
  simp only [eR] at e
  cases ae:Nat.beq s t with
  |true=>
   rw [ae] at h e
   exact ⟨_,h,by simp only [bm];rw [show den bs v=den bs x from e]⟩
  |false=>
   rw [ae] at h e
   obtain ⟨bb,cb,b9⟩:=yi (fr:=r) h e
   exact ⟨_,cb,by simp only [bm,b9]⟩
theorem Ec {gd:Option (Nat×Bool)} {fr:bT} {on off:bT→Prop} (h:tI ops.toList gd fr on off):
 (eW ops (bm bs fr) gd=some true∧∃bb,on bb∧bm bs bb=bm bs fr)∨(eW ops (bm bs fr) gd=some false∧∃bb,off bb∧bm bs bb=bm bs fr):=by
 cases gd with
 |none=>exact .inl ⟨rfl,_,h,rfl⟩
 |some CK=>
  obtain ⟨j,b⟩:=CK
  simp only [tI] at h
  rw [j2,Array.getElem?_toList] at h
  cases a8:(ops[j]?).bind (·.dst) with
  |none=>rw [a8] at h;exact h.elim
  |some g=>
   rw [a8] at h
   simp only at h
   rw [mj] at h
   have au:=lo bs fr g
   have Ed:∀x,a1 (bm bs fr) g=x→eW ops (bm bs fr) (some (j,b))=rV x b:=fun x e=>by simp only [eW,a8,e]
   have key:∀(q:bM),eR fr g= .b q→(b=true→q.ways (pQ fr g (.b (.lit true)) on) (pQ fr g (.b (.lit false)) off))→(b=false→q.ways (pQ fr g (.b (.lit true)) off) (pQ fr g (.b (.lit false)) on))→
    (eW ops (bm bs fr) (some (j,b))=some true∧∃bb,on bb∧bm bs bb=bm bs fr)∨(eW ops (bm bs fr) (some (j,b))=some false∧∃bb,off bb∧bm bs bb=bm bs fr):=fun q aO jW jX=>by
    have aY:den bs (eR fr g)= .bool q.val:=by rw [aO];simp only [den]
    rw [Ed (.bool q.val) (au.trans aY)]
    cases ae:b with
    |true=>
     obtain ⟨cH,dO⟩:=q.xT (jW ae)
     cases bc:q.val with
     |true=>exact .inl ⟨rfl,yi (cH bc) (by rw [aY,bc];simp only [den,bM.val])⟩
     |false=>exact .inr ⟨rfl,yi (dO bc) (by rw [aY,bc];simp only [den,bM.val])⟩
    |false=>
     obtain ⟨cH,dO⟩:=q.xT (jX ae)
     cases bc:q.val with
     |true=>exact .inr ⟨rfl,yi (cH bc) (by rw [aY,bc];simp only [den,bM.val])⟩
     |false=>exact .inl ⟨rfl,yi (dO bc) (by rw [aY,bc];simp only [den,bM.val])⟩
   cases al:eR fr g with
   |b q=>
    rw [al] at h
    cases q with
    |lit z=>
     have aY:a1 (bm bs fr) g= .bool z:=by rw [au,al];simp only [den,bM.val]
     rw [Ed _ aY]
     cases z<;>cases b<;>first|exact .inl ⟨rfl,_,h,rfl⟩|exact .inr ⟨rfl,_,h,rfl⟩
    |_=>exact key _ al (fun e=>by subst e;exact h) (fun e=>by subst e;exact h)
   |off=>
    rw [al] at h
    have aY:a1 (bm bs fr) g= .lazy false .aP:=by rw [au,al];simp only [den]
    rw [Ed _ aY]
    refine .inr ⟨?_,_,h,rfl⟩
    cases b<;>rfl
   |_=>rw [al] at h;exact h.elim
def ra (o:Oper):Bool:=
 match o.op,o.dst with
 | .store _ _ _,some _=>false
 |_,_=>true
theorem R9 {o:Oper} (h:ra o=true):∀t a x,o.op= .store t a x→o.dst=none:=by
 intro t a x e
 unfold ra at h
 rw [e] at h
 cases aY:o.dst with
 |none=>rfl
 |some d=>rw [aY] at h;cases h
theorem tN {b0:List Nat} (aJ:fm c.P c.T=true) (dz:c.bs=b0) {bO:List Nat}:∀(l:List Oper) {fr:bT} {L:List bz} {m:ad} {new:List Nat} {k:cr},(∀o∈l,eQ n o=true∧gv n o=true∧ra o=true)→Good (b0++new) L m→
 q8 c ops.toList bO l fr L m k→(∀bb bJ m' eu,Good (b0++eu) bJ m'→k bb bJ m'→K (bm (b0++eu) bb) (bK (b0++eu) bJ m'))→bQ c.P n ops l K (bm (b0++new) fr) (bK (b0++new) L m)
 |[],fr,L,m,new,k,_,g,h,U=>bQ.nil (U fr L m new g h)
 |o::r,fr,L,m,new,k,cO,g,h,U=>by
  obtain ⟨dst,op,ty,pos,af,gd⟩:=o
  obtain ⟨I,J,ai⟩:=cO _ (List.mem_cons_self ..)
  rw [Rz] at h
  rcases Ec (bs:=b0++new) h with ⟨a8,bb,h,e⟩|⟨a8,bb,h,e⟩
  · refine bQ.RJ a8 ?_
    rw [←e]
    refine R8 aJ dz g (R9 (o:=⟨dst,op,ty,pos,af,gd⟩) ai) I J ⟨by rw [dz];exact List.prefix_append _ _,fun pR jZ m2 aaa aB g2 h=>?_⟩ h
    obtain ⟨eu,rfl⟩:=aB
    rw [dz] at g2 ⊢
    exact tN aJ dz r (new:=eu) (fun o av=>cO o (List.mem_cons_of_mem _ av)) g2 h U
  · refine bQ.RL a8 I ?_
    rw [←e]
    obtain ⟨pR,h,aI⟩:=o4 (bs:=b0++new) h
    have:=tN aJ dz r (new:=new) (fun o av=>cO o (List.mem_cons_of_mem _ av)) g h U
    rw [aI] at this
    simp only [den] at this
    exact this
theorem Sa {b0 new:List Nat} (aJ:fm c.P c.T=true) (dz:c.bs=b0) (g:Good (b0++new) L m) {o:Oper} {fr:bT} {k:bT→Prop} (h:AA c o.dst o.op fr L m k):
 ∃cv side x,kt c.P (bK (b0++new) L m) cv (a1 (bm (b0++new) fr)) o=some (side,x)∧side∧∃bb,k bb∧bm (b0++new) bb=dR (bm (b0++new) fr) o.dst x:=by
 obtain ⟨dst,op,ty,pos,af,gd⟩:=o
 cases dst with
 |none=>exact h.elim
 |some d=>
  simp only [AA] at h
  split at h
  · subst dz
    obtain ⟨us,I,e⟩:=vj (c.bs++new) h
    obtain ⟨y,J,ai⟩:=I
    obtain ⟨cv,aC,aN⟩:=J new g
    refine ⟨cv,_,_,by simp only [kt];rfl,?_,_,ai,?_⟩
    · rw [←e];exact aC
    · simp only [bm,dR,Fr.put,aN]
  · rename_i t parts
    obtain ⟨i,dZ,I⟩:=et aJ h
    cases ab:i.k with
    |st cA=>
     rw [ab] at I
     obtain ⟨aA,J⟩:=dN.1 I
     rw [hv] at J
     obtain ⟨cells,side,ai,aH,al⟩:=IM (bs:=b0++new) (m:=bK (b0++new) L m) (stl:=[]) (d:=some d) aJ dZ ab (by intro e;rw [e] at aA;cases aA) J rfl
     obtain ⟨u,aC,e⟩:=vg (b0++new) ai
     refine ⟨.aP,side,(R.agg (bo (b0++new) cells)).plain,by simp only [kt,aH],al,_,aC,?_⟩
     simp only [bm,den,dR,Fr.put,R.plain,e]
    |_=>rw [ab] at I;exact I.elim
  · rename_i t dd parts
    obtain ⟨i,dZ,I⟩:=et aJ h
    unfold kA at I
    cases ab:i.k with
    |bO e=>
     rw [ab] at I
     obtain ⟨j,fD,J⟩:=et aJ I
     obtain ⟨us,ai,he⟩:=yh (bs:=b0++new) J
     obtain ⟨fH,aC⟩:=dN.1 ai
     obtain ⟨c2,aN⟩:=dN.1 aC
     obtain ⟨c3,bE⟩:=dN.1 aN
     obtain ⟨dk,ao⟩:=toLK_sound (bs:=b0++new) bE
     obtain ⟨c4,cW⟩:=dN.1 dk
     obtain ⟨aH,tl⟩:=IK (bs:=b0++new) (m:=bK (b0++new) L m) (stl:=[]) (d:=some d) aJ dZ ab fD he fH c2 c3 ao c4 rfl
     refine ⟨.aP,_,(R.slice true (bo (b0++new) (o2 us))).plain,by simp only [kt,aH],tl,_,cW,?_⟩
     simp only [bm,den,dR,Fr.put,R.plain]
    |_=>rw [ab] at I;exact I.elim
  · obtain ⟨q,I,ax⟩:=e5 (b0++new) h
    split at I
    · obtain ⟨u,J,aI⟩:=e5 (b0++new) I
      simp only [den,bM.val] at ax
      exact ⟨.aP,True,_,by simp only [kt,←ax];rfl,trivial,_,J,by simp only [bm,dR,Fr.put,aI]⟩
    · obtain ⟨u,J,aI⟩:=e5 (b0++new) I
      simp only [den,bM.val] at ax
      exact ⟨.aP,True,_,by simp only [kt,←ax];rfl,trivial,_,J,by simp only [bm,dR,Fr.put,aI]⟩
    · exact I.elim
  · rename_i jB gq Sb Sc
    obtain ⟨side,z,u,aO,al,rfl,I⟩:=DS (P:=c.P) (bs:=b0++new) (m:=m) aJ g h
    refine ⟨.aP,side,_,?_,al,_,I,rfl⟩
    rw [←aO]
    unfold kt
    split
    · rename_i e;exact (jB _ _ _ e).elim
    · rename_i e;exact (Sb _ _ _ e).elim
    · rename_i e;exact (gq _ _ e).elim
    · rename_i e;exact (Sc _ _ _ e).elim
    · rfl
theorem Ee {b0 new:List Nat} (aJ:fm c.P c.T=true) (dz:c.bs=b0) (g:Good (b0++new) L m):∀(l:List Oper) {fr:bT} {k:bT→Prop},yc c ops.toList l fr L m k→
 ∃cs,hN c.P ops (bK (b0++new) L m) cs l (bm (b0++new) fr) (fun f=>∃bb,f=bm (b0++new) bb∧k bb)
 |[],fr,k,h=>⟨[],_,rfl,h⟩
 |o::r,fr,k,h=>by
  rw [RA] at h
  rcases Ec (bs:=b0++new) h with ⟨a8,bb,h,e⟩|⟨a8,bb,h,e⟩
  · obtain ⟨cv,side,x,I,J,pR,ai,aI⟩:=Sa aJ dz g h
    obtain ⟨cs,aC⟩:=Ee aJ dz g r ai
    rw [aI,e] at aC
    rw [e] at I
    by_cases ag:∃f args bC,o.op= .call ⟨.value (.func f),args,bC⟩
    · obtain ⟨f,args,bC,cR⟩:=ag
      refine ⟨cv::cs,?_⟩
      simp only [hN,List.headD_cons]
      rw [CU a8,I]
      simp only [cR,List.tail_cons]
      exact ⟨J,aC⟩
    · have Dl:kt c.P (bK (b0++new) L m) (cs.headD .aP) (a1 (bm (b0++new) fr)) o=some (side,x):=by
       rw [←I]
       unfold kt
       split
       · rename_i cR;exact absurd ⟨_,_,_,cR⟩ ag
       all_goals rfl
      refine ⟨cs,?_⟩
      simp only [hN]
      rw [CU a8,Dl]
      refine ⟨J,?_⟩
      split
      · rename_i cR;exact absurd ⟨_,_,_,cR⟩ ag
      · exact aC
  · obtain ⟨pR,ai,aI⟩:=o4 (bs:=b0++new) h
    obtain ⟨cs,aC⟩:=Ee aJ dz g r ai
    rw [aI,e] at aC
    simp only [den] at aC
    by_cases ag:∃f args bC,o.op= .call ⟨.value (.func f),args,bC⟩
    · obtain ⟨f,args,bC,cR⟩:=ag
      refine ⟨.aP::cs,?_⟩
      simp only [hN]
      rw [HD a8]
      simp only [cR,List.tail_cons]
      exact ⟨trivial,aC⟩
    · refine ⟨cs,?_⟩
      simp only [hN]
      rw [HD a8]
      refine ⟨trivial,?_⟩
      split
      · rename_i cR;exact absurd ⟨_,_,_,cR⟩ ag
      · exact aC
theorem IP:∀{jj:List (Nat×Nat)} {fr:bT} {k:bT→Prop},AB jj fr k→∃bb,k bb∧bm bs bb=(bm bs fr).alias jj
 |[],_,_,h=>⟨_,h,rfl⟩
 |(d,s)::r,fr,k,h=>by
  simp only [AB] at h
  rw [mj] at h
  obtain ⟨aL,I⟩:=dN.1 h
  obtain ⟨u,J,e⟩:=vh bs aL I
  obtain ⟨bb,ai,aI⟩:=IP J
  refine ⟨bb,ai,?_⟩
  rw [aI]
  simp only [bm,Fr.alias,Fr.put,lo,e]
section
variable {P:Program} {fr:Fr} {Q ha:Exit→Fr→ad→Prop} {hc:Code}
theorem b7.mR (aO:∀e fr m,Q e fr m→∃bb m',gL bb fr∧(∀b o,m' b=some o→m b=some o)∧ha e bb m') (h:b7 P n hc Q fr m):b7 P n hc ha fr m:=fun F lim w ca st=>
 wp_mono (h F lim w ca st) fun e _ _ ⟨l,f,az,q,fM,dL⟩=>by
  obtain ⟨fw,m',I,J,ai⟩:=aO e f az q
  exact ⟨l,fw,m',ai,(bd.less fM I).rG J,dL⟩
theorem b7.IQ {m':ad} (al:∀b o,m' b=some o→m b=some o) (h:b7 P n hc Q fr m'):b7 P n hc Q fr m:=fun F lim w ca st=>h F lim w ca (st.rG al)
theorem bQ.dX (h:bQ P n ops l K fr m):bQ P n ops l (fun f m=>(∀t x,f.get t=some x→t<n)∧K f m) fr m:=fun F lim w ca yj st aO=>
 h F lim w ca yj st fun lim' w' f m' dj aj fM dL=>aO lim' w' f m' dj ⟨fun t x ah=>by obtain ⟨_,_,_,s⟩:=fM;exact (s.dX t x ah).1,aj⟩ fM dL
theorem IS {f:Fr} {t:Nat}:∀{ks:List Nat},t∈ks→(Fr.keep ks f).get t=some ((f.get t).getD .aP)
 |s::r,h=>by
  simp only [Fr.keep,List.map_cons,Fr.get]
  by_cases e:s=t
  · subst e;rw [if_pos rfl]
  · rw [if_neg e]
    rcases List.mem_cons.1 h with rfl|h
    · exact absurd rfl e
    · exact IS (f:=f) h
theorem Ef {f:Fr} (aW:∀t x,f.get t=some x→t<n):gL f (f.keep (List.range n)):=fun t x ah=>by
 refine ⟨x,?_, .inl rfl⟩
 rw [IS (List.mem_range.2 (aW t x ah)),ah];rfl
theorem Eg (h:iL n ops []=true):iL n ops (List.range n)=true:=by
 simp only [iL,Bool.and_eq_true,List.all_eq_true] at h ⊢
 exact ⟨h.1,fun t ao=>by simpa using ao⟩
theorem IT {id:Nat} (aj:iL n ops []=true) (h:bQ P n ops ops.toList (fun fr m=>Q .normal fr m) fr m):b7 P n (.region id ops false) Q fr m:=by
 have:=Eg aj
 simp only [iL,Bool.and_eq_true] at this
 refine b7.mR (Q:=fun e f m=>∃fw,gL fw f∧Q e fw m) (fun e f m ⟨fw,I,J⟩=>⟨fw,m,I,fun _ _ h=>h,J⟩) (GQ (List.range n) this.2 ?_)
 intro F lim w ca yj st aO
 exact (bQ.dX h) F lim w ca yj st fun lim' w' f m' dj aj fM dL=>aO lim' w' f m' dj ⟨f,Ef aj.1,aj.2⟩ fM dL
theorem Sd {id:Nat} (hm:P.follows .mixedOrders=true) (p:Nat) (jj:List (Nat×Nat)) (aj:iL n ops []=true) (aY:tk ops p jj=true)
 (h:∃cs,hN P ops m cs (ops.toList.take p) fr (fun bb=>bQ P n ops (ops.toList.drop p) (fun fr m=>Q .normal fr m) (bb.alias jj) m)):b7 P n (.region id ops true) Q fr m:=by
 obtain ⟨cs,h⟩:=h
 refine b7.mR (Q:=fun e f m=>∃fw,gL fw f∧Q e fw m) (fun e f m ⟨fw,I,J⟩=>⟨fw,m,I,fun _ _ h=>h,J⟩) (P2 hm p jj cs (List.range n) (Eg aj) aY (HA _ (fun f h=>?_) h))
 intro F lim w ca yj st aO
 exact (bQ.dX h) F lim w ca yj st fun lim' w' f m' dj aj fM dL=>aO lim' w' f m' dj ⟨f,Ef aj.1,aj.2⟩ fM dL
end
def yk (xs:List Nat) (n id:Nat) (ops:Array Oper) (draw:Bool):Bool:=
 iL n ops []&&(ops.toList.all ra)&&(!draw||has xs (id*1000+999)||tk ops (tJ xs id ops.toList 0) (vy (q9 ops.toList) (ops.toList.take (tJ xs id ops.toList 0))))
theorem IU {b0 new:List Nat} (aJ:fm c.P c.T=true) (hm:c.P.follows .mixedOrders=true) (dz:c.bs=b0) (g:Good (b0++new) L m) {id:Nat} {draw:Bool} (au:yk c.xs n id ops draw=true) {fr:bT} {k:cr} {Q:Exit→Fr→ad→Prop}
 (h:si c id ops.toList draw k fr L m) (U:∀bb bJ m' eu,Good (b0++eu) bJ m'→k bb bJ m'→Q .normal (bm (b0++eu) bb) (bK (b0++eu) bJ m')):b7 c.P n (.region id ops draw) Q (bm (b0++new) fr) (bK (b0++new) L m):=by
 simp only [yk,Bool.and_eq_true] at au
 obtain ⟨⟨I,J⟩,ai⟩:=au
 have cO:∀o∈ops.toList,eQ n o=true∧gv n o=true∧ra o=true:=fun o av=>by
  simp only [iL,Bool.and_eq_true,List.all_eq_true] at I
  rw [List.all_eq_true] at J
  exact ⟨(I.1 o av).1,(I.1 o av).2,J o av⟩
 cases draw with
 |false=>exact IT I (tN aJ dz _ cO g h U)
 |true=>
  simp only [si] at h
  cases ah:has c.xs (id*1000+999) with
  |true=>rw [ah] at h;exact h.elim
  |false=>
  rw [ah] at h ai
  simp only [hv] at h
  refine Sd hm (tJ c.xs id ops.toList 0) (vy (q9 ops.toList) (ops.toList.take (tJ c.xs id ops.toList 0))) I (by simpa using ai) ?_
  obtain ⟨cs,aC⟩:=Ee aJ dz g _ h
  refine ⟨cs,HA _ (fun f aW=>?_) aC⟩
  obtain ⟨bb,rfl,aN⟩:=aW
  obtain ⟨pR,bE,e⟩:=IP (bs:=b0++new) aN
  rw [←e]
  exact tN aJ dz _ (fun o av=>cO o (List.mem_of_mem_drop av)) g bE U
end
end Go.bS
end
section
namespace Go.bS
open Go Go.bh
def od (c:List Nat) (n:Nat):Code→Bool
 | .region id ops draw=>yk c n id ops draw
 | .seq a b=>od c n a&&od c n b
 | .cond q x y=>kl q&&od c n x&&od c n y
 | .block _ b=>od c n b
 | .loop b=>od c n b
 | .skip| .ret| .exit _=>true
 |_=>false
def im (bs:List Nat) (kn:cr) (kx:Nat→cr) (kr:cr) (e:Exit) (f:Fr) (az:ad):Prop:=
 ∃fr L m eu,Good (bs++eu) L m∧f=bm (bs++eu) fr∧az=bK (bs++eu) L m∧
  match e with
  | .normal=>kn fr L m
  | .exit id=>kx id fr L m
  | .ret=>kr fr L m
  |_=>False
section
variable {c:gl} {n:Nat} {b0:List Nat}
theorem im.lM {b0 new:List Nat} {kn:cr} {kx:Nat→cr} {kr:cr} {e:Exit} {fr:bT} {L:List bz} {m:ad} (g:Good (b0++new) L m) (h:match e with| .normal=>kn fr L m| .exit id=>kx id fr L m| .ret=>kr fr L m|_=>False):im b0 kn kx kr e (bm (b0++new) fr) (bK (b0++new) L m):=
 ⟨fr,L,m,new,g,rfl,rfl,h⟩
theorem take_split {b0 new:List Nat} {n:Nat} (h:b0.length≤n):(b0++new).take n=b0++new.take (n- b0.length):=by
 rw [List.take_append,List.take_of_length_le h]
theorem Eh (bs:List Nat):∀{fr:bT} {t:Nat} {v:a6},tK fr t=some v→(bm bs fr).get t=some (den bs v)
 |[],_,_,h=>by cases h
 |(s,x)::r,t,v,h=>by
  simp only [tK] at h
  simp only [bm,Fr.get]
  cases ae:Nat.beq s t with
  |true=>
   rw [ae] at h
   rw [if_pos (Nat.eq_of_beq_eq_true ae)]
   simp only [cond_true,Option.some.injEq] at h
   rw [h]
  |false=>
   rw [ae] at h
   have:¬s=t:=by
    intro e
    subst e
    have:Nat.beq s s=true:=Nat.beq_refl s
    rw [this] at ae
    cases ae
   rw [if_neg this]
   exact Eh bs h
theorem IV (bs:List Nat) (E:Nat) (v:a6):den bs (jb E v)=(den bs v).toErr E:=by
 unfold jb
 split
 · simp only [den,R.plain,R.toErr]
 · rename_i u e
   simp only [den,R.plain,R.toErr]
   cases ae:Nat.beq u E with
   |true=>
    obtain rfl:=Nat.eq_of_beq_eq_true ae
    by_cases he:e=0
    · subst he;simp [den,R.plain]
    · simp [he,den,R.plain]
   |false=>
    have:¬u=E:=fun e=>by subst e;rw [Nat.beq_refl] at ae;cases ae
    simp [this,den,R.plain]
 · rename_i I J
   cases v with
   |aK x=>
    cases x with
    |nilIface=>exact absurd rfl I
    |iface u y=>
     simp only [den,R.plain]
     cases y with
     |int k z=>cases k<;>first|exact absurd rfl (J _ _)|simp only [R.toErr]
     |_=>simp only [R.toErr]
    |_=>simp only [den,R.plain,R.toErr]
   |_=>simp only [den,R.toErr]
theorem IW (bs:List Nat) (E:Nat) (v:a6):lq (den bs (jb E v)) (den bs v):=by
 rw [IV]
 by_cases h:(den bs v).toErr E=den bs v
 · exact .inl h
 · right
   intro w lim u os au
   have J:=toErr_rep E au
   have ai:=J.plain
   have aC:((den bs v).toErr E).plain=(den bs v).toErr E:=by
    generalize den bs v=x at h ⊢
    cases x with
    |nilIface=>simp only [R.toErr,R.plain]
    |iface u y=>
     cases y with
     |int k z=>
      cases k<;>simp only [R.toErr] at h ⊢<;>first|(split<;>simp only [R.plain])|(simp only [R.plain];done)|exact absurd rfl h
     |_=>exact absurd rfl h
    |_=>exact absurd rfl h
   rw [aC] at ai
   exact ai
theorem Se (bs:List Nat) (E:Nat) (md:List (Nat×Nat)) (t:Nat) (v:a6):lq (den bs (AD E md t v)) (den bs v):=by
 unfold AD
 split
 · cases md.any (fun p=>Nat.beq p.1 t) with
   |true=>exact .inl (by simp only [cond_true,den,bM.val])
   |false=>exact .inl rfl
 · exact .inl (by simp only [den,bM.val])
 · cases md.any (fun p=>Nat.beq p.1 t) with
   |true=>exact .pl (by simp only [cond_true,den,R.plain])
   |false=>exact .inl rfl
 · exact .inl (by simp only [den,R.plain,AO])
 · cases md.any (fun p=>Nat.beq p.1 t) with
   |true=>exact IW bs E _
   |false=>exact .inl rfl
theorem AS (bs:List Nat) (E:Nat) (md:List (Nat×Nat)):∀(ks:List Nat) (fr:bT),gL (bm bs (gb E md ks fr)) (bm bs fr)
 |[],fr,t,x,h=>by simp only [gb,bm,Fr.get] at h;cases h
 |s::r,fr,t,x,h=>by
  simp only [gb] at h
  cases al:tK fr s with
  |none=>rw [al] at h;exact AS bs E md r fr t x h
  |some v=>
   rw [al] at h
   simp only [bm,Fr.get] at h
   by_cases e:s=t
   · subst e
     rw [if_pos rfl] at h
     refine ⟨_,Eh bs al,?_⟩
     have:den bs (AD E md s v)=x:=by simpa using h
     rw [←this]
     exact Se bs E md s v
   · rw [if_neg e] at h
     exact AS bs E md r fr t x h
theorem IX (bs:List Nat):∀(l:List a6),bo bs (tL l)=bo bs l
 |[]=>rfl
 |v::r=>by cases v<;>simp only [tL,bo,den,bM.val,IX bs r]
theorem Sf (bs:List Nat) (o:bz):er bs (yd o)=er bs o:=by
 cases o with
 |cells l=>simp only [yd,er,IX]
 |obj o=>rfl
theorem Ei (bs:List Nat):∀(L:List bz),(o3 L).map (er bs)=L.map (er bs)
 |[]=>rfl
 |o::r=>by simp only [o3,List.map_cons,Sf,Ei bs r]
theorem IY (n:Nat):∀(l:List a6),sb n (tL l)=sb n l
 |[]=>rfl
 |v::r=>by cases v<;>simp only [tL,sb,tx,xY,IY n r]
theorem AT (n:Nat):∀(L:List bz),lp n (o3 L)=lp n L
 |[]=>rfl
 | .cells l::r=>by simp only [o3,yd,lp,Ao,IY,AT n r]
 | .obj o::r=>by simp only [o3,yd,lp,Ao,AT n r]
theorem IZ:∀(L:List bz),(o3 L).length=L.length
 |[]=>rfl
 |o::r=>by simp only [o3,List.length_cons,IZ r]
theorem yl {md:List (Nat×Nat)} {ks:List Nat} {k:Nat} {fr:bT} {L:List bz} {m:ad} {s:vz} {new:List Nat} (dz:c.bs=b0) (g:Good (b0++new) L m) (h:fits c md ks k fr L m s):
 Good (b0++new.take (k- b0.length)) s.2.1 s.2.2∧gL (bm (b0++new.take (k- b0.length)) s.1) (bm (b0++new) fr)∧(∀b o,bK (b0++new.take (k- b0.length)) s.2.1 s.2.2 b=some o→bK (b0++new) L m b=some o)∧(b0++new.take (k- b0.length)).length=k:=by
 obtain ⟨I,J⟩:=h
 subst I
 subst dz
 simp only [Bool.and_eq_true] at J
 obtain ⟨⟨⟨cX,cI⟩,kZ⟩,oR⟩:=J
 have ie:=Nat.le_of_ble_eq_true kZ
 have iC:=Nat.le_of_ble_eq_true oR
 have ar:=g.len
 have vC:=take_split (new:=new) iC
 have hlen:((c.bs++new).take k).length=k:=by rw [List.length_take];omega
 rw [←vC]
 have I0:(c.bs++new)=(c.bs++new).take k++(c.bs++new).drop k:=(List.take_append_drop _ _).symm
 have hS:bK ((c.bs++new).take k) (o3 (L.take k)) m=bK ((c.bs++new).take k) (L.take k) m:=by simp only [bK,j3,Ei]
 rw [AT] at cI
 refine ⟨⟨?_,by rw [hlen,IZ,List.length_take];omega,fun b ae=>g.fresh b (List.mem_of_mem_take ae)⟩,?_,fun b o ae=>?_,hlen⟩
 · exact g.iR.sublist (List.take_sublist _ _)
 · have e:bm (c.bs++new) (gb c.E md ks fr)=bm ((c.bs++new).take k) (gb c.E md ks fr):=by
    conv=>lhs;rw [I0]
    exact vl (by rw [hlen];exact cX)
   rw [←e]
   exact AS _ _ _ ks fr
 · simp only at ae
   rw [hS] at ae
   have qO:∀(A:List (Nat×ed)) (az:ad),(A.map Prod.fst).Nodup→∀b o,az.aX A b=some o→(∃i,A[i]?=some (b,o))∨(b∉A.map Prod.fst∧az b=some o):=fun A az cd b o ae=>by
    by_cases hm:b∈A.map Prod.fst
    · left
      obtain ⟨i,ab⟩:=List.getElem?_of_mem hm
      rw [List.getElem?_map] at ab
      cases ck:A[i]? with
      |none=>rw [ck] at ab;cases ab
      |some p=>
       rw [ck] at ab
       obtain ⟨c7,dn⟩:=p
       simp only [Option.map_some,Option.some.injEq] at ab
       subst ab
       have:=oa (m:=az) i cd ck
       rw [this] at ae
       simp only [Option.some.injEq] at ae
       subst ae
       exact ⟨i,ck⟩
    · right
      rw [nt hm] at ae
      exact ⟨hm,ae⟩
   have Sg:((j3 ((c.bs++new).take k) (L.take k)).map Prod.fst).Nodup:=by
    rw [o0 (by rw [hlen,List.length_take];omega)]
    exact g.iR.sublist (List.take_sublist _ _)
   rcases qO _ m Sg b o ae with ⟨i,ab⟩|⟨ai,aC⟩
   · have CP:i<k:=by
      rcases Nat.lt_or_ge i k with h|h
      · exact h
      · rw [List.getElem?_eq_none] at ab
        · cases ab
        · simp only [j3,List.length_zip,hlen,List.length_map,List.length_take];omega
     refine oa i g.nodup ?_
     have e:(L.take k).map (er (c.bs++new))=(L.take k).map (er ((c.bs++new).take k)):=by
      conv=>lhs;rw [I0]
      exact Dw (by rw [hlen];exact cI)
     have aA:j3 ((c.bs++new).take k) (L.take k)=(j3 (c.bs++new) L).take k:=by
      simp only [j3,←e,List.map_take,List.zip,List.take_zipWith]
     rw [aA,List.getElem?_take_of_lt CP] at ab
     exact ab
   · by_cases hm:b∈(c.bs++new)
     · rw [g.fresh b hm] at aC;cases aC
     · rw [bK,nt (by rw [o0 g.len];exact hm)]
       exact aC
theorem Ej {bs:List Nat} {t:Nat}:∀{fr:bT},(bm bs fr).get t=none→eR fr t= .aK .aP
 |[],_=>rfl
 |(s,x)::r,a8=>by
  simp only [bm,Fr.get] at a8
  by_cases e:s=t
  · rw [if_pos e] at a8;cases a8
  · rw [if_neg e] at a8
    have ae:Nat.beq s t=false:=by
     cases ae:Nat.beq s t with
     |false=>rfl
     |true=>exact absurd (Nat.eq_of_beq_eq_true ae) e
    simp only [eR,ae,cond_false]
    exact Ej a8
set_option maxHeartbeats 2000000 in
theorem I1 (aJ:fm c.P c.T=true) (hm:c.P.follows .mixedOrders=true) (dz:c.bs=b0) {id:Nat} {ops:Array Oper} {draw:Bool} {kn:cr} {kx:Nat→cr} {kr:cr} {fr:bT} {L:List bz} {m:ad} {new:List Nat} (g:Good (b0++new) L m) (aj:yk c.xs n id ops draw=true)
 (h:vA c id ops.toList draw kn fr L m):b7 c.P n (.region id ops draw) (im b0 kn kx kr) (bm (b0++new) fr) (bK (b0++new) L m):=by
 simp only [vA] at h
 have key:si c id ops.toList draw kn fr L m→b7 c.P n (.region id ops draw) (im b0 kn kx kr) (bm (b0++new) fr) (bK (b0++new) L m):=fun h=>
  IU aJ hm dz g aj h fun bb bJ m' eu dQ aj=>⟨bb,bJ,m',eu,dQ,rfl,rfl,aj⟩
 have Ek:AG (fun kn fr L m=>si c id ops.toList draw kn fr L m) kn fr L m→b7 c.P n (.region id ops draw) (im b0 kn kx kr) (bm (b0++new) fr) (bK (b0++new) L m):=fun h=>by
  obtain ⟨sj,I,J⟩:=h
  refine b7.mR (fun e f az aB=>?_) (IU (Q:=im b0 sj kx kr) aJ hm dz g aj J fun bb bJ m' eu dQ aj=>⟨bb,bJ,m',eu,dQ,rfl,rfl,aj⟩)
  obtain ⟨bb,bJ,m',eu,dQ,rfl,rfl,cb⟩:=aB
  cases e with
  |normal=>
   obtain ⟨md,t,e,ks,⟨q,aO,he⟩,b4⟩:=I _ _ _ cb
   refine ⟨bm (b0++eu) ((t, .b (.raw e))::gb 0 md ks bb),_,?_,fun _ _ h=>h,im.lM (kn:=kn) (kx:=kx) (kr:=kr) (e:= .normal) dQ b4⟩
   intro s x ah
   simp only [bm,Fr.get] at ah
   by_cases es:t=s
   · subst es
     rw [if_pos rfl] at ah
     refine ⟨_,Eh _ aO, .inl ?_⟩
     have:den (b0++eu) (.b (.raw e))=x:=by simpa using ah
     rw [←this]
     simp only [den,bM.val,he]
   · rw [if_neg es] at ah
     exact AS _ 0 md ks bb s x ah
  |exit id=>exact ⟨_,_,gL.refl _,fun _ _ h=>h,im.lM (kn:=kn) (kx:=kx) (kr:=kr) (e:= .exit id) dQ cb⟩
  |ret=>exact ⟨_,_,gL.refl _,fun _ _ h=>h,im.lM (kn:=kn) (kx:=kx) (kr:=kr) (e:= .ret) dQ cb⟩
  |_=>exact cb.elim
 have I2:∀p:Prop,(p→b7 c.P n (.region id ops draw) (im b0 kn kx kr) (bm (b0++new) fr) (bK (b0++new) L m))→Told fr p→b7 c.P n (.region id ops draw) (im b0 kn kx kr) (bm (b0++new) fr) (bK (b0++new) L m):=fun p aB h=>by
  intro F lim w ca st
  refine aB (h.h fun t=>?_) F lim w ca st
  clear aB h Ek key aj
  cases a8:(bm (b0++new) fr).get t with
  |none=>
   have:eR fr t= .aK .aP:=Ej a8
   rw [this]
   simp only [DX,R.plain,xH,qW]
  |some x=>
   have ah:den (b0++new) (eR fr t)=x:=by rw [←lo,a1,a8];rfl
   obtain ⟨os,b6,bA,al⟩:=st
   have au:=(al.dX t x a8).2
   rw [←ah] at au
   cases bc:eR fr t with
   |aK y=>
    rw [bc] at au
    cases y with
    |int cM z=>
     simp only [den,R.plain] at au
     exact (lE au).2
    |slice o l=>
     simp only [den,R.plain] at au
     exact ⟨Db au,HU au⟩
    |_=>
     have ae:=Db au
     simp only [den] at ae
     exact ae
   |own l=>
    rw [bc] at au
    simp only [den] at au
    exact ⟨Db au,HU au⟩
   |_=>simp only [DX]
 cases al:has c.st id with
 |false=>
  cases ay:has c.x8 id with
  |false=>rw [al,ay] at h;exact key h
  |true=>rw [al,ay] at h;exact Ek h
 |true=>
  cases ay:has c.x8 id with
  |false=>rw [al,ay] at h;exact I2 _ key h
  |true=>rw [al,ay] at h;exact I2 _ Ek h
set_option maxHeartbeats 2000000 in
theorem qs (aJ:fm c.P c.T=true) (hm:c.P.follows .mixedOrders=true) (dz:c.bs=b0):∀(hc:Code) {kn:cr} {kx:Nat→cr} {kr:cr} {fr:bT} {L:List bz} {m:ad} {new:List Nat},Good (b0++new) L m→od c.xs n hc=true→
 mQ c hc kn kx kr fr L m→b7 c.P n hc (im b0 kn kx kr) (bm (b0++new) fr) (bK (b0++new) L m)
 | .skip,kn,kx,kr,fr,L,m,new,g,_,h=>jF (im.lM g h)
 | .ret,kn,kx,kr,fr,L,m,new,g,_,h=>hU (im.lM g h)
 | .exit id,kn,kx,kr,fr,L,m,new,g,_,h=>Cj (im.lM g h)
 | .region id ops draw,kn,kx,kr,fr,L,m,new,g,aj,h=>by
   simp only [od] at aj
   rw [RE] at h
   cases bc:has c.cv id with
   |false=>
    rw [bc] at h
    exact I1 aJ hm dz g aj h
   |true=>
    rw [bc] at h
    subst dz
    rcases h.h with h|h
    · refine h.h new g n _ _ fun bb bJ m' gK aB dQ cb=>?_
      obtain ⟨eu,rfl⟩:=aB
      exact I1 aJ hm rfl dQ aj cb
    · simp only [yk,Bool.and_eq_true] at aj
      refine h.h new g n _ aj.1.1 fun bb bJ m' gK aB dQ cb=>?_
      obtain ⟨eu,rfl⟩:=aB
      exact im.lM (kn:=kn) (kx:=kx) (kr:=kr) (e:= .normal) dQ cb
 | .seq a b,kn,kx,kr,fr,L,m,new,g,aj,h=>by
   simp only [od,Bool.and_eq_true] at aj
   rw [RF] at h
   refine GP ?_
   cases ab:DZ a with
   |true=>
    rw [ab] at h
    refine b7.mono (qs aJ hm dz a g aj.1 h) fun e f az aB=>?_
    obtain ⟨bb,bJ,m',eu,dQ,rfl,rfl,cb⟩:=aB
    cases e with
    |normal=>
     exact qs aJ hm dz b dQ aj.2 cb
    |exit id=>exact im.lM (kn:=kn) (kx:=kx) (kr:=kr) (e:= .exit id) dQ cb
    |ret=>exact im.lM (kn:=kn) (kx:=kx) (kr:=kr) (e:= .ret) dQ cb
    |_=>exact cb.elim
   |false=>
    rw [ab] at h
    obtain ⟨sj,I,J⟩:=h
    refine b7.mono (qs aJ hm dz a g aj.1 J) fun e f az aB=>?_
    obtain ⟨bb,bJ,m',eu,dQ,rfl,rfl,cb⟩:=aB
    cases e with
    |normal=>
     rcases I _ _ _ cb with ai|⟨md,ks,k,s,ai,aC⟩
     · exact qs aJ hm dz b dQ aj.2 ai
     · obtain ⟨g1,hle,qO,_⟩:=yl dz dQ ai
       exact b7.less hle (b7.IQ qO (qs aJ hm dz b g1 aj.2 aC))
    |exit id=>exact im.lM (kn:=kn) (kx:=kx) (kr:=kr) (e:= .exit id) dQ cb
    |ret=>exact im.lM (kn:=kn) (kx:=kx) (kr:=kr) (e:= .ret) dQ cb
    |_=>exact cb.elim
 | .cond q x y,kn,kx,kr,fr,L,m,new,g,aj,h=>by
   simp only [od,Bool.and_eq_true] at aj
   rw [RG] at h
   obtain ⟨v,I,e⟩:=e5 (b0++new) h
   split at I
   · rename_i s
     obtain ⟨cH,dO⟩:=s.xT I
     simp only [den] at e
     exact uI (b:=s.val) (by rw [←wX,←e]) aj.1.1 (fun bc=>qs aJ hm dz x g aj.1.2 (cH bc)) (fun bc=>qs aJ hm dz y g aj.2 (dO bc))
   · exact I.elim
 | .block id body,kn,kx,kr,fr,L,m,new,g,aj,h=>by
   simp only [od] at aj
   rw [RH] at h
   refine uH ?_
   refine b7.mono (qs aJ hm dz body g aj h) fun e f az aB=>?_
   obtain ⟨bb,bJ,m',eu,dQ,rfl,rfl,cb⟩:=aB
   cases e with
   |normal=>exact im.lM (kn:=kn) (kx:=kx) (kr:=kr) (e:= .normal) dQ cb
   |exit j=>
    simp only [Ch]
    simp only at cb
    by_cases El:j=id
    · subst El
      rw [Nat.beq_refl] at cb
      rw [if_pos rfl]
      exact im.lM (kn:=kn) (kx:=kx) (kr:=kr) (e:= .normal) dQ cb
    · rw [if_neg El]
      have:Nat.beq j id=false:=by
       cases ae:Nat.beq j id with
       |false=>rfl
       |true=>exact absurd (Nat.eq_of_beq_eq_true ae) El
      rw [this] at cb
      exact im.lM (kn:=kn) (kx:=kx) (kr:=kr) (e:= .exit j) dQ cb
   |ret=>exact im.lM (kn:=kn) (kx:=kx) (kr:=kr) (e:= .ret) dQ cb
   |_=>exact cb.elim
 | .loop body,kn,kx,kr,fr,L,m,new,g,aj,h=>by
   simp only [od] at aj
   rw [RI] at h
   obtain ⟨σ,S,gU,n8,md,ks,k,ny,aq,aM,I⟩:=h
   obtain ⟨g1,hle,qO,hlen⟩:=yl dz g aq
   refine b7.less hle (b7.IQ qO ?_)
   · refine CT (σ:=σ×List Nat) (fun x=>bm (b0++x.2) (S x.1).1) (fun x=>bK (b0++x.2) (S x.1).2.1 (S x.1).2.2) (fun x=>gU x.1∧Good (b0++x.2) (S x.1).2.1 (S x.1).2.2) (fun x=>n8 x.1) ⟨ny,new.take (k ny- b0.length)⟩ rfl rfl ⟨aM,g1⟩ fun x ah=>?_
     have J:=I x.1 ah.1
     rw [hv,hv] at J
     refine b7.mR (fun e f az aB=>?_) (qs aJ hm dz body ah.2 aj J)
     obtain ⟨bb,bJ,m',eu,dQ,rfl,rfl,cb⟩:=aB
     cases e with
     |normal=>
      obtain ⟨bR,f1,f2,f3⟩:=cb
      obtain ⟨g2,Sh,Si,Ig⟩:=yl dz dQ f1
      exact ⟨_,_,Sh,Si,⟨bR,eu.take (k bR- b0.length)⟩,rfl,rfl,⟨f2,g2⟩,f3⟩
     |exit id=>exact ⟨_,_,gL.refl _,fun _ _ h=>h,im.lM (kn:=kn) (kx:=kx) (kr:=kr) (e:= .exit id) dQ cb⟩
     |ret=>exact ⟨_,_,gL.refl _,fun _ _ h=>h,im.lM (kn:=kn) (kx:=kx) (kr:=kr) (e:= .ret) dQ cb⟩
     |_=>exact cb.elim
 | .scope _,_,_,_,_,_,_,_,_,aj,_=>by cases aj
 | .label _,_,_,_,_,_,_,_,_,aj,_=>by cases aj
 | .goto _,_,_,_,_,_,_,_,_,aj,_=>by cases aj
 | .refuse _,_,_,_,_,_,_,_,_,aj,_=>by cases aj
 | .rangeFunc _ _ _ _,_,_,_,_,_,_,_,_,aj,_=>by cases aj
end
end Go.bS
end
