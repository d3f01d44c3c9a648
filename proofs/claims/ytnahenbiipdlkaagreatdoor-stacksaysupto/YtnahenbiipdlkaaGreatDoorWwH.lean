/-
  The abstract layer, part 1: abstract values (trees), how a Go value in a world reads as one, and what keeps that reading. No program in sight.
-/
import Derived.WalkKit
section
namespace Go.bg
open Go
inductive ab where
 |bool (b:Bool)
 |int (k:IntKind) (n:Int)
 |str (s:List UInt8)
 |ptr (a:Addr)
 |fT
 |ref (l:List ab)
 |slice (own:Bool) (l:List ab)
 |ms (a:Addr) (len cap:Nat)
 |map (b:Nat)
 |jm
 |func (fn:Fn) (first captured:List ab)
 |jU
 |gb
 |iface (t:TypeId) (v:ab)
 |nilIface
 |err (t:TypeId) (e:Int)
 |opt (b:Bool)
 |agg (l:List ab)
 |tuple (l:List ab)
 |lazy (g:Bool) (v:ab)
 |aV
instance:Inhabited ab:=⟨.aV⟩
def ab.cells:ab→List ab
 | .agg l=>l
 |x=>[x]
mutual
def ab.plain:ab→ab
 | .slice _ l=> .slice false l
 | .agg l=> .agg (ab.fD l)
 | .tuple l=> .tuple (ab.fD l)
 | .lazy g x=> .lazy g x.plain
 | .bool b=> .bool b
 | .int k n=> .int k n
 | .str s=> .str s
 | .ptr a=> .ptr a
 | .fT=> .fT
 | .ref l=> .ref l
 | .ms a n c=> .ms a n c
 | .map b=> .map b
 | .jm=> .jm
 | .func f a b=> .func f a b
 | .jU=> .jU
 | .gb=> .gb
 | .iface t v=> .iface t v
 | .nilIface=> .nilIface
 | .err t e=> .err t e
 | .opt b=> .opt b
 | .aV=> .aV
def ab.fD:List ab→List ab
 |[]=>[]
 |x::r=>x.plain::ab.fD r
end
theorem ab.iG (l:List ab):ab.fD l=l.map ab.plain:=by
 induction l with
 |nil=>rfl
 |cons x r aO=>simp [ab.fD,aO]
theorem nV (l:List ab) (i:Nat):(ab.fD l).getD i .aV=(l.getD i .aV).plain:=by
 rw [ab.iG]
 simp only [List.getD_eq_getElem?_getD,List.getElem?_map]
 cases l[i]?<;>simp [ab.plain]
inductive aN (w:World) (lim:Nat→Nat):Value→ab→List Nat→Prop
 |bool (b:Bool):aN w lim (.bool b) (.bool b) []
 |int (k:IntKind) (n:Int) (ba:k.min≤n) (ad:n≤k.max):aN w lim (.int k n) (.int k n) []
 |str (s:ByteArray) (h:s.size≤140737488355328):aN w lim (.string s) (.str s.data.toList) []
 |ptr (a:Addr):aN w lim (.pointer (some a)) (.ptr a) []
 |fT:aN w lim (.pointer none) .fT []
 |ref (b off:Nat) (l:List ab) (cv:Nat→Value) (av:off+l.length≤lim b) (ao:∀i,i<l.length→w.cell? ⟨b,off+i,none⟩=some (cv i))
   (aA:∀i,i<l.length→aN w lim (cv i) (l.getD i .aV) []):aN w lim (.pointer (some ⟨b,off,none⟩)) (.ref l) []
 |gb (own:Bool):aN w lim (.slice none 0 0) (.slice own []) []
 |empty (a:Addr) (cap:Nat) (hm:cap≤maxLen):aN w lim (.slice (some a) 0 cap) (.slice false []) []
 |slice (b off n cap sz:Nat) (l:List ab) (cv:Nat→Nat→Value) (aM:l.length=n) (fB:n≤cap) (hm:cap≤maxLen) (dI:n≤140737488355328)
   (cF:∀i,i<n→(l.getD i .aV).cells.length=sz) (fU:off+n*sz≤lim b)
   (ao:∀i j,i<n→j<sz→w.cell? ⟨b,off+i*sz+j,none⟩=some (cv i j))
   (aA:∀i j,i<n→j<sz→aN w lim (cv i j) ((l.getD i .aV).cells.getD j .aV) []):aN w lim (.slice (some ⟨b,off,none⟩) n cap) (.slice false l) []
 |own (b n cap sz:Nat) (l:List ab) (cv:Nat→Nat→Value) (cur:Array Value) (e:TypeId) (aM:l.length=n) (fB:n≤cap) (hm:cap≤maxLen) (dI:n≤140737488355328)
   (aJ:0<n∨cap=0) (ah:w.heap[b]?=some (.cells cur e (0,0))) (kD:cur.size=cap*sz)
   (cF:∀i,i<n→(l.getD i .aV).cells.length=sz) (fU:n*sz=lim b)
   (ao:∀i j,i<n→j<sz→w.cell? ⟨b,i*sz+j,none⟩=some (cv i j))
   (aA:∀i j,i<n→j<sz→aN w lim (cv i j) ((l.getD i .aV).cells.getD j .aV) []):aN w lim (.slice (some ⟨b,0,none⟩) n cap) (.slice true l) [b]
 |ms (a:Addr) (len cap:Nat) (h:len≤cap) (hm:cap≤maxLen):aN w lim (.slice (some a) len cap) (.ms a len cap) []
 |map (b:Nat):aN w lim (.map (some b)) (.map b) []
 |jm:aN w lim (.map none) .jm []
 |func (fn:Fn) (f c:Array Value) (bL gj:List ab) (aZ:f.size=bL.length) (ao:c.size=gj.length) (wS:∀i,i<bL.length→aN w lim (f.getD i undef) (bL.getD i .aV) [])
   (wT:∀i,i<gj.length→aN w lim (c.getD i undef) (gj.getD i .aV) []):aN w lim (.func fn f c) (.func fn bL gj) []
 |jU:aN w lim .nilFunc .jU []
 |oF (a:Option Addr):aN w lim (.slice a 0 0) .gb []
 |iface (t:TypeId) (v:Value) (x:ab) (h:aN w lim v x []):aN w lim (.iface t v) (.iface t x) []
 |nilIface:aN w lim .nilIface .nilIface []
 |mf (t:TypeId):aN w lim .nilIface (.err t 0) []
 |jn (t:TypeId) (e:Int) (h:e≠0) (ba:IntKind.i64.min≤e) (ad:e≤IntKind.i64.max):aN w lim (.iface t (.int .i64 e)) (.err t e) []
 |oG:aN w lim .nilIface (.opt false) []
 |oH (t:TypeId) (v:Value):aN w lim (.iface t v) (.opt true) []
 |agg (cs:Array Value) (xs:List ab) (os:Nat→List Nat) (h:cs.size=xs.length) (aA:∀i,i<xs.length→aN w lim (cs.getD i undef) (xs.getD i .aV) (os i)):
   aN w lim (.agg cs) (.agg xs) ((List.range xs.length).flatMap os)
 |tuple (cs:Array Value) (xs:List ab) (os:Nat→List Nat) (h:cs.size=xs.length) (aA:∀i,i<xs.length→aN w lim (cs.getD i undef) (xs.getD i .aV) (os i)):
   aN w lim (.tuple cs) (.tuple xs) ((List.range xs.length).flatMap os)
 |oI (v:Value) (x:ab) (os:List Nat) (h:aN w lim v x os):aN w lim v (.lazy true x) os
 |mg (x:ab):aN w lim undef (.lazy false x) []
 |aV (v:Value):aN w lim v .aV []
section
variable {w w':World} {lim lim':Nat→Nat} {v:Value} {x:ab} {os:List Nat}
theorem aN.ho (h:aN w lim v x os) (av:∀b,lim b≤lim' b) (ao:∀b o,o<lim b→w'.cell? ⟨b,o,none⟩=w.cell? ⟨b,o,none⟩)
 (aL:∀c∈os,w'.heap[c]?=w.heap[c]?∧lim' c=lim c):aN w' lim' v x os:=by
 induction h with
 |bool b=>exact .bool b
 |int k n ba ad=>exact .int k n ba ad
 |str s h=>exact .str s h
 |ptr a=>exact .ptr a
 |fT=>exact .fT
 |ref b off l cv nc jV aA aO=>
  exact .ref b off l cv (Nat.le_trans nc (av b)) (fun i ad=>by rw [ao b (off+i) (by omega)];exact jV i ad) (fun i ad=>aO i ad (by simp))
 |gb own=>exact .gb own
 |empty a cap hm=>exact .empty a cap hm
 |slice b off n cap sz l cv aM fB hm dI cF fU jV aA aO=>
  refine .slice b off n cap sz l cv aM fB hm dI cF (Nat.le_trans fU (av b)) (fun i j ad aD=>?_) (fun i j ad aD=>aO i j ad aD (by simp))
  rw [ao b _ ?_]
  · exact jV i j ad aD
  · have:i*sz+sz≤n*sz:=by rw [←Nat.succ_mul];exact Nat.mul_le_mul_right _ ad
    omega
 |own b n cap sz l cv cur e aM fB hm dI aJ ah kD cF fU jV aA aO=>
  have F6:=aL b (by simp)
  refine .own b n cap sz l cv cur e aM fB hm dI aJ (F6.1.trans ah) kD cF (fU.trans F6.2.symm) (fun i j ad aD=>?_) (fun i j ad aD=>aO i j ad aD (by simp))
  rw [ao b _ ?_]
  · exact jV i j ad aD
  · have:i*sz+sz≤n*sz:=by rw [←Nat.succ_mul];exact Nat.mul_le_mul_right _ ad
    omega
 |ms a len cap h hm=>exact .ms a len cap h hm
 |map b=>exact .map b
 |jm=>exact .jm
 |func fn f c bL gj aZ jV wS wT F7 F8=>exact .func fn f c bL gj aZ jV (fun i ad=>F7 i ad (by simp)) (fun i ad=>F8 i ad (by simp))
 |jU=>exact .jU
 |oF a=>exact .oF a
 |iface t v x h aO=>exact .iface t v x (aO (by simp))
 |nilIface=>exact .nilIface
 |mf t=>exact .mf t
 |jn t e h ba ad=>exact .jn t e h ba ad
 |oG=>exact .oG
 |oH t v=>exact .oH t v
 |agg cs xs os h aA aO=>exact .agg cs xs os h (fun i ad=>aO i ad (fun c ao=>aL c (List.mem_flatMap.2 ⟨i,by simpa using ad,ao⟩)))
 |tuple cs xs os h aA aO=>exact .tuple cs xs os h (fun i ad=>aO i ad (fun c ao=>aL c (List.mem_flatMap.2 ⟨i,by simpa using ad,ao⟩)))
 |oI v x os h aO=>exact .oI v x os (aO aL)
 |mg x=>exact .mg x
 |aV v=>exact .aV v
theorem flatMap_nil (n:Nat):(List.range n).flatMap (fun _=>([]:List Nat))=[]:=by
 induction n<;>simp_all
theorem aN.plain (h:aN w lim v x os):aN w lim v x.plain []:=by
 induction h with
 |bool b=>exact .bool b
 |int k n ba ad=>exact .int k n ba ad
 |str s h=>exact .str s h
 |ptr a=>exact .ptr a
 |fT=>exact .fT
 |ref b off l cv av ao aA aO=>exact .ref b off l cv av ao aA
 |gb own=>exact .gb false
 |empty a cap hm=>exact .empty a cap hm
 |slice b off n cap sz l cv aM fB hm dI cF fU ao aA aO=>exact .slice b off n cap sz l cv aM fB hm dI cF fU ao aA
 |own b n cap sz l cv cur e aM fB hm dI aJ ah kD cF fU ao aA aO=>exact .slice b 0 n cap sz l cv aM fB hm dI cF (by omega) (fun i j ad aD=>by simpa using ao i j ad aD) aA
 |ms a len cap h hm=>exact .ms a len cap h hm
 |map b=>exact .map b
 |jm=>exact .jm
 |func fn f c bL gj aZ ao wS wT F7 F8=>exact .func fn f c bL gj aZ ao wS wT
 |jU=>exact .jU
 |oF a=>exact .oF a
 |iface t v x h aO=>exact .iface t v x h
 |nilIface=>exact .nilIface
 |mf t=>exact .mf t
 |jn t e h ba ad=>exact .jn t e h ba ad
 |oG=>exact .oG
 |oH t v=>exact .oH t v
 |agg cs xs os h aA aO=>
  have:=aN.agg (w:=w) (lim:=lim) cs (ab.fD xs) (fun _=>[]) (by simp [ab.iG,h]) (fun i ad=>by rw [nV];exact aO i (by simpa [ab.iG] using ad))
  rw [flatMap_nil] at this
  exact this
 |tuple cs xs os h aA aO=>
  have:=aN.tuple (w:=w) (lim:=lim) cs (ab.fD xs) (fun _=>[]) (by simp [ab.iG,h]) (fun i ad=>by rw [nV];exact aO i (by simpa [ab.iG] using ad))
  rw [flatMap_nil] at this
  exact this
 |oI v x os h aO=>exact .oI v _ _ aO
 |mg x=>exact .mg _
 |aV v=>exact .aV v
theorem aN.F9 (h:aN w lim v x os):∀c∈os,c<w.heap.size:=by
 induction h with
 |own b n cap sz l cv cur e aM fB hm dI aJ ah kD cF fU ao aA aO=>
  intro c ao
  simp only [List.mem_singleton] at ao
  subst ao
  exact (Array.getElem?_eq_some_iff.1 ah).1
 |agg cs xs os h aA aO=>
  intro c ao
  obtain ⟨i,ad,ao⟩:=List.mem_flatMap.1 ao
  exact aO i (by simpa using ad) c ao
 |tuple cs xs os h aA aO=>
  intro c ao
  obtain ⟨i,ad,ao⟩:=List.mem_flatMap.1 ao
  exact aO i (by simpa using ad) c ao
 |oI v x os h aO=>exact aO
 |_=>intro c ao;cases ao
end
end Go.bg
end
section
namespace Go.bg
open Go
abbrev Fr:=List (Nat×ab)
def Fr.get:Fr→Nat→Option ab
 |[],_=>none
 |(s,x)::r,t=>if s=t then some x else Fr.get r t
def Fr.put (fr:Fr) (t:Nat) (x:ab):Fr:=(t,x)::fr
theorem Fr.p6 (fr:Fr) (t s:Nat) (x:ab):(fr.put t x).get s=if t=s then some x else fr.get s:=rfl
def Fr.keep (ks:List Nat) (fr:Fr):Fr:=ks.map fun t=>(t,(fr.get t).getD .aV)
inductive gr where
 |cells (l:List ab)
 |map (l:List (ab×ab))
 |iter (r:Nat) (l:List (ab×ab)) (seen:List Nat)
 |bX (e eb:TypeId) (l:List ab)
 |nd (e:TypeId) (z:Nat×Nat) (cs:Array Value)
abbrev ae:=Nat→Option gr
def ae.cE (m:ae) (b:Nat) (o:Option gr):ae:=fun c=>if c=b then o else m c
inductive Place where
 |none
 |slot (t:Nat)
 |ph (b i:Nat)
 |k4
 deriving DecidableEq
inductive kh (w:World) (lim:Nat→Nat) (b:Nat):gr→(Nat→List Nat)→Prop
 |cells (cs:Array Value) (e:TypeId) (l:List ab) (os:Nat→List Nat) (ah:w.heap[b]?=some (.cells cs e (0,0))) (aw:cs.size=l.length)
   (aA:∀i,i<l.length→aN w lim (cs.getD i undef) (l.getD i .aV) (os i)):kh w lim b (.cells l) os
 |map (es:Array MapEntry) (clock:Nat) (l:List (ab×ab)) (ah:w.heap[b]?=some (.map es clock)) (aw:es.size=l.length) (dI:l.length≤140737488355328)
   (al:∀i,i<l.length→aN w lim (es.getD i default).key (l.getD i (.aV, .aV)).1 []) (bw:∀i,i<l.length→aN w lim (es.getD i default).val (l.getD i (.aV, .aV)).2 [])
   (p7:∀i j,i<j→j<l.length→(es.getD i default).born<(es.getD j default).born) (pj:∀i,i<l.length→(es.getD i default).born<clock) (os:Nat→List Nat):kh w lim b (.map l) os
 |iter (es:Array MapEntry) (clock r:Nat) (l:List (ab×ab)) (seen:List Nat) (ah:w.heap[b]?=some (.map es clock)) (aw:es.size=l.length) (dI:l.length≤140737488355328)
   (al:∀i,i<l.length→aN w lim (es.getD i default).key (l.getD i (.aV, .aV)).1 []) (bw:∀i,i<l.length→aN w lim (es.getD i default).val (l.getD i (.aV, .aV)).2 [])
   (p7:∀i j,i<j→j<l.length→(es.getD i default).born<(es.getD j default).born) (pj:∀i,i<l.length→(es.getD i default).born<clock)
   (aA:w.heap[r]?=some (.mapIter (some b) clock (seen.map fun i=>(es.getD i default).born).toArray clock)) (uv:∀i∈seen,i<l.length) (os:Nat→List Nat) (jF:r∈os 0):kh w lim b (.iter r l seen) os
 |bX (p v:Value) (e eb:TypeId) (l:List ab) (os:Nat→List Nat) (ah:w.heap[b]?=some (.cells #[p,v] e (0,0))) (aQ:p= .pointer none∨p= .pointer (some ⟨b,0,none⟩)) (aA:aN w lim v (.slice true l) (os 1))
   (bc:v= .slice none 0 0∨∃g n c cur,v= .slice (some ⟨g,0,none⟩) n c∧g∈os 1∧l≠[]∧w.heap[g]?=some (.cells cur eb (0,0))):kh w lim b (.bX e eb l) os
 |nd (e:TypeId) (z:Nat×Nat) (cs:Array Value) (os:Nat→List Nat) (ah:w.heap[b]?=some (.cells cs e z)):kh w lim b (.nd e z cs) os
structure p8 (F:Nat→Prop) (lim:Nat→Nat) (w:World) (n:Nat) (fr:Fr) (m:ae) (ca:Act) (bL:List Nat) (os:Nat→List Nat) (cI:Nat→Nat→List Nat) (bW:Nat→Place):Prop where
 size:ca.tmps.size=n
 defers:ca.defers=[]
 eL:∀t x,fr.get t=some x→t<n∧aN w lim (ca.tmps.getD t undef) x (os t)
 mem:∀b o,m b=some o→kh w lim b o (cI b)∧lim b=0∧¬F b
 fj:∀t x,fr.get t=some x→(os t).Nodup∧∀c∈os t,bW c= .slot t
 eF:∀b o,m b=some o→∀i,(cI b i).Nodup∧∀c∈cI b i,bW c= .ph b i
 gK:bL.Nodup∧∀c∈bL,bW c= .k4
 free:∀c,bW c≠ .none→¬F c∧m c=none∧c<w.heap.size
 fresh:∀b,w.heap.size≤b→lim b=0∧¬F b∧m b=none
def bd (F:Nat→Prop) (lim:Nat→Nat) (w:World) (n:Nat) (fr:Fr) (m:ae) (ca:Act) (bL:List Nat):Prop:=
 ∃os cI bW,p8 F lim w n fr m ca bL os cI bW
structure dW (F:Nat→Prop) (w:World) (lim:Nat→Nat) (w':World) (lim':Nat→Nat):Prop where
 os:w'.os=w.os
 tape:w'.tape=w.tape
 output:w'.output=w.output
 size:w.heap.size≤w'.heap.size
 res:∀b,F b→w'.heap[b]?=w.heap[b]?∧lim' b=lim b
 mono:∀b,lim b≤lim' b
 cell:∀b o,o<lim b→w'.cell? ⟨b,o,none⟩=w.cell? ⟨b,o,none⟩
theorem dW.refl (F:Nat→Prop) (w:World) (lim:Nat→Nat):dW F w lim w lim:=⟨rfl,rfl,rfl,Nat.le_refl _,fun _ _=>⟨rfl,rfl⟩,fun _=>Nat.le_refl _,fun _ _ _=>rfl⟩
theorem dW.trans {F:Nat→Prop} {w w' iH:World} {lim lim' jW:Nat→Nat} (h:dW F w lim w' lim') (k:dW F w' lim' iH jW):dW F w lim iH jW:=
 ⟨k.os.trans h.os,k.tape.trans h.tape,k.output.trans h.output,Nat.le_trans h.size k.size,
  fun b ah=>⟨(k.res b ah).1.trans (h.res b ah).1,(k.res b ah).2.trans (h.res b ah).2⟩,fun b=>Nat.le_trans (h.mono b) (k.mono b),
  fun b o aL=>(k.cell b o (Nat.lt_of_lt_of_le aL (h.mono b))).trans (h.cell b o aL)⟩
theorem dW.weaken {F nW:Nat→Prop} {w w':World} {lim lim':Nat→Nat} (h:dW nW w lim w' lim') (ez:∀b,F b→nW b):dW F w lim w' lim':=
 ⟨h.os,h.tape,h.output,h.size,fun b ah=>h.res b (ez b ah),h.mono,h.cell⟩
theorem dW.drew (F:Nat→Prop) (w:World) (lim:Nat→Nat):dW F w lim w.drew lim:=⟨rfl,rfl,rfl,Nat.le_refl _,fun _ _=>⟨rfl,rfl⟩,fun _=>Nat.le_refl _,fun _ _ _=>rfl⟩
theorem oJ (w:World) (o:Obj):(w.alloc o).heap[w.heap.size]?=some o:=by
 show (w.heap.push o)[w.heap.size]?=some o
 simp
theorem k5 (w:World) (o:Obj) (i:Nat) (h:i<w.heap.size):(w.alloc o).heap[i]?=w.heap[i]?:=by
 show (w.heap.push o)[i]?=w.heap[i]?
 rw [Array.getElem?_push,if_neg (Nat.ne_of_lt h)]
section
variable {F:Nat→Prop} {lim lim':Nat→Nat} {w w':World} {n:Nat} {fr:Fr} {m:ae} {ca:Act} {bL:List Nat}
theorem kh.ho {b:Nat} {o:gr} {os:Nat→List Nat} (h:kh w lim b o os) (ah:w'.heap[b]?=w.heap[b]?) (av:∀b,lim b≤lim' b)
 (ao:∀b o,o<lim b→w'.cell? ⟨b,o,none⟩=w.cell? ⟨b,o,none⟩) (aL:∀i,∀c∈os i,w'.heap[c]?=w.heap[c]?∧lim' c=lim c):kh w' lim' b o os:=by
 cases h with
 |cells cs e l os gf aw aA=>
  exact .cells cs e l os (ah.trans gf) aw (fun i ad=>(aA i ad).ho av ao (aL i))
 |map es clock l gf aw dI al bw J aa _=>
  exact .map es clock l (ah.trans gf) aw dI (fun i ad=>(al i ad).ho av ao (by simp)) (fun i ad=>(bw i ad).ho av ao (by simp)) J aa os
 |iter es clock r l seen gf aw dI al bw J aa aA uv _ jF=>
  exact .iter es clock r l seen (ah.trans gf) aw dI (fun i ad=>(al i ad).ho av ao (by simp)) (fun i ad=>(bw i ad).ho av ao (by simp)) J aa ((aL 0 r jF).1.trans aA) uv os jF
 |bX p v e eb l os gf aQ aA bc=>
  exact .bX p v e eb l os (ah.trans gf) aQ (aA.ho av ao (aL 1)) (by
   rcases bc with bc|⟨g,n,c,cur,J,aa,aj,aG⟩
   · exact .inl bc
   · exact .inr ⟨g,n,c,cur,J,aa,aj,(aL 1 g aa).1.trans aG⟩)
 |nd e z cs os gf=>exact .nd e z cs _ (ah.trans gf)
theorem bd.world (h:bd F lim w n fr m ca bL) (cF:w.heap.size≤w'.heap.size) (av:∀b,lim b≤lim' b) (ao:∀b o,o<lim b→w'.cell? ⟨b,o,none⟩=w.cell? ⟨b,o,none⟩)
 (MD:∀c,c<w.heap.size→(¬F c∧m c=none→False)∨(w'.heap[c]?=w.heap[c]?∧lim' c=lim c)) (hm:∀b,m b≠none→w'.heap[b]?=w.heap[b]?∧lim' b=lim b)
 (BI:∀b,w'.heap.size≤b→lim' b=0):bd F lim' w' n fr m ca bL:=by
 obtain ⟨os,cI,bW,h⟩:=h
 have jG:∀c,bW c≠ .none→w'.heap[c]?=w.heap[c]?∧lim' c=lim c:=fun c p9=>by
  have aZ:=h.free c p9
  rcases MD c aZ.2.2 with al|al
  · exact (al ⟨aZ.1,aZ.2.1⟩).elim
  · exact al
 refine ⟨os,cI,bW,h.size,h.defers,fun t x an=>⟨(h.eL t x an).1,(h.eL t x an).2.ho av ao (fun c nf=>jG c (by rw [(h.fj t x an).2 c nf];simp))⟩,fun b o ah=>?_,h.fj,h.eF,h.gK,
  fun c p9=>⟨(h.free c p9).1,(h.free c p9).2.1,Nat.lt_of_lt_of_le (h.free c p9).2.2 cF⟩,fun b ah=>⟨BI b ah,(h.fresh b (Nat.le_trans cF ah)).2⟩⟩
 have mh:=hm b (by rw [ah];simp)
 exact ⟨(h.mem b o ah).1.ho mh.1 av ao (fun i c nf=>jG c (by rw [(h.eF b o ah i).2 c nf];simp)),mh.2.trans (h.mem b o ah).2.1,(h.mem b o ah).2.2⟩
theorem bd.heap (h:bd F lim w n fr m ca bL) (aC:w'.heap=w.heap):bd F lim w' n fr m ca bL:=by
 have iT:∀b o,w'.cell? ⟨b,o,none⟩=w.cell? ⟨b,o,none⟩:=fun b o=>by simp [World.cell?,aC]
 refine h.world (by rw [aC];exact Nat.le_refl _) (fun _=>Nat.le_refl _) (fun b o _=>iT b o) (fun c _=> .inr ⟨by rw [aC],rfl⟩) (fun b _=>⟨by rw [aC],rfl⟩) (fun b ah=>?_)
 obtain ⟨os,cI,bW,h⟩:=h
 exact (h.fresh b (by rw [←aC];exact ah)).1
theorem Ga (w:World) (o:Obj) {b:Nat} (ah:b<w.heap.size) (i:Nat):(w.alloc o).cell? ⟨b,i,none⟩=w.cell? ⟨b,i,none⟩:=
 World.cell?_alloc_lt w o ⟨b,i,none⟩ ah
theorem bd.rh (h:bd F lim w n fr m ca bL) {b o:Nat} (aL:o<lim b):b<w.heap.size:=by
 obtain ⟨os,cI,bW,h⟩:=h
 rcases Nat.lt_or_ge b w.heap.size with ah|ah
 · exact ah
 · have:=(h.fresh b ah).1;omega
theorem bd.qa (h:bd F lim w n fr m ca bL) {b:Nat} (ah:F b):b<w.heap.size:=by
 obtain ⟨os,cI,bW,h⟩:=h
 rcases Nat.lt_or_ge b w.heap.size with gf|gf
 · exact gf
 · exact ((h.fresh b gf).2.1 ah).elim
theorem bd.qb (h:bd F lim w n fr m ca bL) {b:Nat} (ah:m b≠none):b<w.heap.size:=by
 obtain ⟨os,cI,bW,h⟩:=h
 rcases Nat.lt_or_ge b w.heap.size with gf|gf
 · exact gf
 · exact (ah (h.fresh b gf).2.2).elim
theorem bd.ri (h:bd F lim w n fr m ca bL):lim w.heap.size=0:=by
 obtain ⟨os,cI,bW,h⟩:=h
 exact (h.fresh _ (Nat.le_refl _)).1
theorem bd.alloc (h:bd F lim w n fr m ca bL) (o:Obj) (k:Nat):bd F (fun b=>if b=w.heap.size then k else lim b) (w.alloc o) n fr m ca bL:=by
 have ak:=h.ri
 refine h.world (by simp) (fun b=>?_) (fun b i ad=>Ga w o (h.rh ad) i) (fun c ao=> .inr ⟨k5 w o c ao,by rw [if_neg (by omega)]⟩)
  (fun b ah=>⟨k5 w o b (h.qb ah),by rw [if_neg (Nat.ne_of_lt (h.qb ah))]⟩) (fun b ah=>?_)
 · by_cases ah:b=w.heap.size
   · subst ah;rw [ak];exact Nat.zero_le _
   · rw [if_neg ah];exact Nat.le_refl _
 · simp at ah
   rw [if_neg (by omega)]
   obtain ⟨os,cI,bW,h⟩:=h
   exact (h.fresh b (by omega)).1
theorem dW.alloc (h:bd F lim w n fr m ca bL) (o:Obj) (k:Nat):dW F w lim (w.alloc o) (fun b=>if b=w.heap.size then k else lim b):=by
 have ak:=h.ri
 refine ⟨rfl,rfl,rfl,by simp,fun b ah=>⟨k5 w o b (h.qa ah),by rw [if_neg (Nat.ne_of_lt (h.qa ah))]⟩,fun b=>?_,fun b i ad=>Ga w o (h.rh ad) i⟩
 by_cases ah:b=w.heap.size
 · subst ah;rw [ak];exact Nat.zero_le _
 · rw [if_neg ah];exact Nat.le_refl _
theorem bd.set (h:bd F lim w n fr m ca []) {d:Nat} (aY:d<n) {v:Value} {x:ab} (an:aN w lim v x []):bd F lim w n (fr.put d x) m (ca.put (some d) v) []:=by
 obtain ⟨os,cI,bW,h⟩:=h
 refine ⟨fun t=>if t=d then [] else os t,cI,bW,by simp [Act.put,h.size],h.defers,fun t y aK=>?_,h.mem,fun t y aK=>?_,h.eF,h.gK,h.free,h.fresh⟩
 · rw [Fr.p6] at aK
   by_cases aq:t=d
   · subst aq
     simp only [↓reduceIte,Option.some.injEq] at aK ⊢
     subst aK
     refine ⟨aY,?_⟩
     simpa [Act.put,Array.getD,h.size,aY] using an
   · rw [if_neg (fun e=>aq e.symm)] at aK
     rw [if_neg aq]
     refine ⟨(h.eL t y aK).1,?_⟩
     have:=(h.eL t y aK).2
     have fk:¬d=t:=fun e=>aq e.symm
     simp only [Act.put,Array.getD_eq_getD_getElem?,Array.getElem?_setIfInBounds,fk,if_false] at this ⊢
     exact this
 · rw [Fr.p6] at aK
   by_cases aq:t=d
   · simp [aq]
   · rw [if_neg (fun e=>aq e.symm)] at aK
     simp only [if_neg aq]
     exact h.fj t y aK
theorem bd.Gb (h:bd F lim w n fr m ca bL) {d:Nat} (aY:d<n) {v:Value} {x:ab} (an:aN w lim v x bL):bd F lim w n (fr.put d x) m (ca.put (some d) v) []:=by
 obtain ⟨os,cI,bW,h⟩:=h
 refine ⟨fun t=>if t=d then bL else os t,cI,fun c=>if bW c= .k4 then .slot d else if bW c= .slot d then .none else bW c,by simp [Act.put,h.size],h.defers,fun t y aK=>?_,h.mem,fun t y aK=>?_,fun b o ah=>?_,by simp,fun c ao=>?_,h.fresh⟩
 · rw [Fr.p6] at aK
   by_cases aq:t=d
   · subst aq
     simp only [↓reduceIte,Option.some.injEq] at aK ⊢
     subst aK
     refine ⟨aY,?_⟩
     simpa [Act.put,Array.getD,h.size,aY] using an
   · rw [if_neg (fun e=>aq e.symm)] at aK
     rw [if_neg aq]
     refine ⟨(h.eL t y aK).1,?_⟩
     have:=(h.eL t y aK).2
     have fk:¬d=t:=fun e=>aq e.symm
     simp only [Act.put,Array.getD_eq_getD_getElem?,Array.getElem?_setIfInBounds,fk,if_false] at this ⊢
     exact this
 · rw [Fr.p6] at aK
   by_cases aq:t=d
   · simp only [aq,↓reduceIte]
     exact ⟨h.gK.1,fun c ao=>by simp [h.gK.2 c ao]⟩
   · rw [if_neg (fun e=>aq e.symm)] at aK
     simp only [if_neg aq]
     refine ⟨(h.fj t y aK).1,fun c ao=>?_⟩
     simp [(h.fj t y aK).2 c ao,aq]
 · exact fun i=>⟨(h.eF b o ah i).1,fun c ao=>by simp [(h.eF b o ah i).2 c ao]⟩
 · by_cases J:bW c= .k4
   · exact h.free c (by rw [J];simp)
   · simp only [J,↓reduceIte] at ao
     by_cases aa:bW c= .slot d
     · simp [aa] at ao
     · simp only [aa,↓reduceIte] at ao
       exact h.free c ao
theorem bd.take (h:bd F lim w n fr m ca []) {s:Nat} {x:ab} (aw:fr.get s=some x):
 ∃os,bd F lim w n (fr.put s x.plain) m ca os∧aN w lim (ca.tmps.getD s undef) x os:=by
 obtain ⟨os,cI,bW,h⟩:=h
 refine ⟨os s,⟨fun t=>if t=s then [] else os t,cI,fun c=>if bW c= .slot s then .k4 else if bW c= .k4 then .none else bW c,h.size,h.defers,fun t y aK=>?_,h.mem,fun t y aK=>?_,fun b o ah=>?_,?_,fun c ao=>?_,h.fresh⟩,(h.eL s x aw).2⟩
 · rw [Fr.p6] at aK
   by_cases aq:t=s
   · subst aq
     simp only [↓reduceIte,Option.some.injEq] at aK ⊢
     subst aK
     exact ⟨(h.eL t x aw).1,(h.eL t x aw).2.plain⟩
   · rw [if_neg (fun e=>aq e.symm)] at aK
     simpa [if_neg aq] using h.eL t y aK
 · rw [Fr.p6] at aK
   by_cases aq:t=s
   · simp [aq]
   · rw [if_neg (fun e=>aq e.symm)] at aK
     simp only [if_neg aq]
     refine ⟨(h.fj t y aK).1,fun c ao=>?_⟩
     simp [(h.fj t y aK).2 c ao,aq]
 · exact fun i=>⟨(h.eF b o ah i).1,fun c ao=>by simp [(h.eF b o ah i).2 c ao]⟩
 · exact ⟨(h.fj s x aw).1,fun c ao=>by simp [(h.fj s x aw).2 c ao]⟩
 · by_cases J:bW c= .slot s
   · exact h.free c (by rw [J];simp)
   · simp only [J,↓reduceIte] at ao
     by_cases aa:bW c= .k4
     · simp [aa] at ao
     · simp only [aa,↓reduceIte] at ao
       exact h.free c ao
theorem bd.drop (h:bd F lim w n fr m ca bL):bd F lim w n fr m ca []:=by
 obtain ⟨os,cI,bW,h⟩:=h
 exact ⟨os,cI,bW,h.size,h.defers,h.eL,h.mem,h.fj,h.eF,⟨by simp,by simp⟩,h.free,h.fresh⟩
theorem bd.sub {bf:Fr} (h:bd F lim w n fr m ca bL) (aw:∀t x,bf.get t=some x→fr.get t=some x∨(x= .aV∧t<n)):bd F lim w n bf m ca bL:=by
 obtain ⟨os,cI,bW,h⟩:=h
 classical
 refine ⟨fun t=>if bf.get t=fr.get t then os t else [],cI,bW,h.size,h.defers,fun t x an=>?_,h.mem,fun t x an=>?_,h.eF,h.gK,h.free,h.fresh⟩
 · by_cases he:bf.get t=fr.get t
   · simp only [he,if_true]
     exact h.eL t x (he▸an)
   · simp only [if_neg he]
     rcases aw t x an with J|⟨J,aa⟩
     · exact (he (an.trans J.symm)).elim
     · subst J;exact ⟨aa, .aV _⟩
 · by_cases he:bf.get t=fr.get t
   · simp only [he,if_true]
     exact h.fj t x (he▸an)
   · simp [if_neg he]
theorem Fr.ME (ks:List Nat) (fr:Fr) (t:Nat) (x:ab) (h:(Fr.keep ks fr).get t=some x):t∈ks∧(fr.get t).getD .aV=x:=by
 induction ks with
 |nil=>simp [Fr.keep,Fr.get] at h
 |cons k ks aO=>
  simp only [Fr.keep,List.map_cons,Fr.get] at h
  by_cases al:k=t
  · subst al
    simp only [↓reduceIte,Option.some.injEq] at h
    exact ⟨by simp,h⟩
  · rw [if_neg al] at h
    have:=aO h
    exact ⟨by simp [this.1],this.2⟩
theorem bd.keep (h:bd F lim w n fr m ca bL) {ks:List Nat} (al:∀t∈ks,t<n):bd F lim w n (fr.keep ks) m ca bL:=by
 refine h.sub fun t x an=>?_
 have:=Fr.ME ks fr t x an
 cases bc:fr.get t with
 |none=>rw [bc] at this;exact .inr ⟨this.2.symm,al t this.1⟩
 |some y=>rw [bc] at this;simp at this;exact .inl (by rw [this.2])
theorem bd.sA {m':ae} (h:bd F lim w n fr m ca bL) (aw:∀b o,m' b=some o→m b=some o):bd F lim w n fr m' ca bL:=by
 obtain ⟨os,cI,bW,h⟩:=h
 have aM:∀b,m b=none→m' b=none:=fun b ah=>by
  cases gf:m' b with
  |none=>rfl
  |some o=>rw [aw b o gf] at ah;cases ah
 exact ⟨os,cI,bW,h.size,h.defers,h.eL,fun b o ah=>h.mem b o (aw b o ah),h.fj,fun b o ah=>h.eF b o (aw b o ah),h.gK,
  fun c ao=>⟨(h.free c ao).1,aM c (h.free c ao).2.1,(h.free c ao).2.2⟩,fun b ah=>⟨(h.fresh b ah).1,(h.fresh b ah).2.1,aM b (h.fresh b ah).2.2⟩⟩
theorem bd.BJ (h:bd F lim w n fr m ca bL) (cs:Array Value) (e:TypeId) (l:List ab) (aw:cs.size=l.length) (aA:∀i,i<l.length→aN w lim (cs.getD i undef) (l.getD i .aV) []):
 m w.heap.size=none∧bd F lim (w.alloc (.cells cs e)) n fr (m.cE w.heap.size (some (.cells l))) ca bL:=by
 have ak:=h.ri
 have dZ:=h.alloc (.cells cs e) 0
 have fU:(fun b=>if b=w.heap.size then 0 else lim b)=lim:=by funext b;by_cases ah:b=w.heap.size<;>simp [ah,ak]
 rw [fU] at dZ
 have ft:=dW.alloc h (.cells cs e) 0
 rw [fU] at ft
 have ez:¬F w.heap.size:=fun aZ=>absurd (h.qa aZ) (Nat.lt_irrefl _)
 have hm:m w.heap.size=none:=by
  cases ah:m w.heap.size with
  |none=>rfl
  |some o=>exact absurd (h.qb (b:=w.heap.size) (by rw [ah];simp)) (Nat.lt_irrefl _)
 obtain ⟨qc,MF,MG,aJ⟩:=h
 refine ⟨hm,?_⟩
 obtain ⟨os,cI,bW,dZ⟩:=dZ
 refine ⟨qc,fun b i=>if b=w.heap.size then [] else MF b i,MG,aJ.size,aJ.defers,fun t x an=>?_,fun b o ah=>?_,aJ.fj,fun b o ah=>?_,aJ.gK,fun c ao=>?_,fun b ah=>?_⟩
 · refine ⟨(aJ.eL t x an).1,(aJ.eL t x an).2.ho (fun _=>Nat.le_refl _) ft.cell (fun c ao=>⟨k5 w _ c ?_,rfl⟩)⟩
   exact (aJ.free c (by rw [(aJ.fj t x an).2 c ao];simp)).2.2
 · by_cases nX:b=w.heap.size
   · subst nX
     simp only [ae.cE,↓reduceIte,Option.some.injEq] at ah ⊢
     subst ah
     refine ⟨?_,ak,ez⟩
     exact kh.cells (w:=w.alloc (.cells cs e)) (lim:=lim) (b:=w.heap.size) cs e l (fun _=>[]) (oJ w _) aw
      (fun i ad=>(aA i ad).ho (fun _=>Nat.le_refl _) ft.cell (by simp))
   · simp only [ae.cE,if_neg nX] at ah ⊢
     have cl:b<w.heap.size:=by
      rcases Nat.lt_or_ge b w.heap.size with gf|gf
      · exact gf
      · have:=(aJ.fresh b gf).2.2;rw [ah] at this;cases this
     refine ⟨(aJ.mem b o ah).1.ho (k5 w _ b cl) (fun _=>Nat.le_refl _) ft.cell (fun i c ao=>⟨k5 w _ c ?_,rfl⟩),(aJ.mem b o ah).2⟩
     exact (aJ.free c (by rw [(aJ.eF b o ah i).2 c ao];simp)).2.2
 · by_cases nX:b=w.heap.size
   · simp [nX]
   · simp only [ae.cE,if_neg nX] at ah ⊢
     exact aJ.eF b o ah
 · have:=aJ.free c ao
   refine ⟨this.1,?_,by simp;omega⟩
   simp only [ae.cE]
   rw [if_neg (by omega)]
   exact this.2.1
 · simp at ah
   have:=aJ.fresh b (by omega)
   refine ⟨this.1,this.2.1,?_⟩
   simp only [ae.cE]
   rw [if_neg (by omega)]
   exact this.2.2
end
end Go.bg
end
section
namespace Go.bg
open Go
def iU:Value→ab
 | .bool b=> .bool b
 | .int k n=> .int k n
 | .string s=> .str s.data.toList
 | .pointer none=> .fT
 | .slice none _ _=> .slice true []
 | .map none=> .jm
 | .nilFunc=> .jU
 | .nilIface=> .nilIface
 |_=> .aV
def jX:Value→ab
 | .agg cs=> .agg (cs.toList.map iU)
 | .iface t v=> .iface t (iU v)
 |v=>iU v
def sB:Value→Bool
 | .int k n=>decide (k.min≤n)&&decide (n≤k.max)
 | .string s=>decide (s.size≤140737488355328)
 | .slice none n c=>n==0&&c==0
 |_=>true
def pk:Value→Bool
 | .agg cs=>cs.toList.all sB
 | .iface _ v=>sB v
 |v=>sB v
def k6:Operand→Bool
 | .const v=>pk v
 |_=>true
section
variable {w:World} {lim:Nat→Nat}
theorem BK {v:Value} (h:sB v=true):aN w lim v (iU v) []:=by
 cases v with
 |bool b=>exact .bool b
 |int k n=>simp [sB] at h;exact .int k n h.1 h.2
 |string s=>simp [sB] at h;exact .str s h
 |pointer a=>cases a with
  |none=>exact .fT
  |some a=>exact .aV _
 |slice a n c=>cases a with
  |none=>simp [sB] at h;obtain ⟨rfl,rfl⟩:=h;exact .gb true
  |some a=>exact .aV _
 |map r=>cases r with
  |none=>exact .jm
  |some r=>exact .aV _
 |nilFunc=>exact .jU
 |nilIface=>exact .nilIface
 |_=>exact .aV _
theorem BL {v:Value} (h:pk v=true):aN w lim v (jX v) []:=by
 cases v with
 |agg cs=>
  simp only [pk,List.all_eq_true] at h
  have:=aN.agg (w:=w) (lim:=lim) cs (cs.toList.map iU) (fun _=>[]) (by simp) (fun i ad=>by
   have fo:i<cs.size:=by simpa using ad
   have aF:cs.getD i undef=cs[i]:=by simp [Array.getD,fo]
   have az:(cs.toList.map iU).getD i .aV=iU cs[i]:=by simp [List.getD,fo]
   rw [aF,az]
   exact BK (h _ (by simp)))
  rw [flatMap_nil] at this
  exact this
 |iface t v=>exact .iface t v _ (BK h)
 |_=>exact BK h
end
def kE (fr:Fr):Operand→ab
 | .tmp t=>((fr.get t).getD .aV).plain
 | .const v=>jX v
 | .global g=> .ptr ⟨g,0,none⟩
 | .func f=> .func (.func f) [] []
section
variable {F:Nat→Prop} {lim:Nat→Nat} {w:World} {n:Nat} {fr:Fr} {m:ae} {ca:Act} {bL:List Nat}
theorem wU (h:bd F lim w n fr m ca bL) {x:Operand} (an:k6 x=true):∃os,aN w lim (ca.eval x) (kE fr x) os∧os=[]:=by
 obtain ⟨os,cI,bW,h⟩:=h
 refine ⟨[],?_,rfl⟩
 cases x with
 |tmp t=>
  simp only [kE,Act.eval]
  cases bc:fr.get t with
  |none=>exact .aV _
  |some x=>exact (h.eL t x bc).2.plain
 |const v=>exact BL an
 |global g=>exact .ptr _
 |func f=>exact .func _ #[] #[] [] [] rfl rfl (by simp) (by simp)
end
def kF (P:Program) (t:TypeId):Bool:=
 match P.underlying t with
 |some (.struct _)|some (.array _ _)=>true
 |_=>false
def eV (P:Program) (t:TypeId):Bool:=(P.underlying t).isSome
def sC (P:Program) (t:TypeId):ab→ab→Option (Prop×Bool)
 | .int k a, .int en b=>some (k=en∧P.underlying t=some (.int k),a==b)
 | .str a, .str b=>some (P.underlying t=some .string,a==b)
 | .bool a, .bool b=>some (P.underlying t=some .bool,a==b)
 |_,_=>none
def sD (P:Program) (xs dn:List ab):List Field→Option (Prop×Bool)
 |[]=>some (True,true)
 |f::c6=>
  match sC P f.type (xs.getD f.offset .aV) (dn.getD f.offset .aV),sD P xs dn c6 with
  |some (s,b),some (hJ,gL)=>some (s∧f.name≠ "_"∧hJ,b&&gL)
  |_,_=>none
def oK (P:Program) (op:BinOp) (t:TypeId) (x y:ab):Option (Prop×ab):=
 match op,x,y with
 | .add, .int k a, .int en b=>if k=en then some (True, .int k (k.wrap (a+b))) else none
 | .sub, .int k a, .int en b=>if k=en then some (True, .int k (k.wrap (a- b))) else none
 | .mul, .int k a, .int en b=>if k=en then some (True, .int k (k.wrap (a*b))) else none
 | .quo, .int k a, .int en b=>if k=en then some (b≠0, .int k (k.wrap (a.tdiv b))) else none
 | .rem, .int k a, .int en b=>if k=en then some (b≠0∧k.min≤a.tmod b∧a.tmod b≤k.max, .int k (a.tmod b)) else none
 | .and, .int k a, .int en b=>if k=en then some (True, .int k (k.wrap (BitVec.ofInt k.bits a &&& BitVec.ofInt k.bits b).toNat)) else none
 | .or, .int k a, .int en b=>if k=en then some (True, .int k (k.wrap (BitVec.ofInt k.bits a ||| BitVec.ofInt k.bits b).toNat)) else none
 | .xor, .int k a, .int en b=>if k=en then some (True, .int k (k.wrap (BitVec.ofInt k.bits a ^^^ BitVec.ofInt k.bits b).toNat)) else none
 | .shl, .int k a, .int _ b=>some (0≤b, .int k (k.wrap (a*2^(min b.toNat k.bits))))
 | .shr, .int k a, .int _ b=>some (0≤b∧k.min≤a.fdiv (2^(min b.toNat k.bits))∧a.fdiv (2^(min b.toNat k.bits))≤k.max, .int k (a.fdiv (2^(min b.toNat k.bits))))
 | .eql, .int k a, .int en b=>if k=en then some (True, .bool (a==b)) else none
 | .neq, .int k a, .int en b=>if k=en then some (True, .bool (!(a==b))) else none
 | .lss, .int k a, .int en b=>if k=en then some (True, .bool (decide (a<b))) else none
 | .leq, .int k a, .int en b=>if k=en then some (True, .bool (decide (a≤b))) else none
 | .gtr, .int k a, .int en b=>if k=en then some (True, .bool (decide (b<a))) else none
 | .geq, .int k a, .int en b=>if k=en then some (True, .bool (decide (b≤a))) else none
 | .add, .str a, .str b=>some (a.length+b.length≤140737488355328, .str (a++b))
 | .eql, .str a, .str b=>some (True, .bool (a==b))
 | .neq, .str a, .str b=>some (True, .bool (!(a==b)))
 | .lss, .str a, .str b=>some (True, .bool (Op.bytesLess a b))
 | .leq, .str a, .str b=>some (True, .bool (Op.bytesLess a b||a==b))
 | .gtr, .str a, .str b=>some (True, .bool (!(Op.bytesLess a b||a==b)))
 | .geq, .str a, .str b=>some (True, .bool (!(Op.bytesLess a b)))
 | .eql, .bool a, .bool b=>some (P.underlying t=some .bool, .bool (a==b))
 | .neq, .bool a, .bool b=>some (P.underlying t=some .bool, .bool (!(a==b)))
 | .eql, .nilIface, .iface _ _| .eql, .iface _ _, .nilIface=>some ((match P.underlying t with|some (.interface _)=>true|_=>false)=true, .bool false)
 | .neq, .nilIface, .iface _ _| .neq, .iface _ _, .nilIface=>some ((match P.underlying t with|some (.interface _)=>true|_=>false)=true, .bool true)
 | .eql, .iface u (.int k a), .iface mi (.int en b)=>some ((match P.underlying t with|some (.interface _)=>true|_=>false)=true∧k=en∧P.underlying u=some (.int k)∧(P.info? u).map (·.comparable)=some true, .bool (u==mi&&a==b))
 | .neq, .iface u (.int k a), .iface mi (.int en b)=>some ((match P.underlying t with|some (.interface _)=>true|_=>false)=true∧k=en∧P.underlying u=some (.int k)∧(P.info? u).map (·.comparable)=some true, .bool (!(u==mi&&a==b)))
 | .eql, .ptr _, .fT| .eql, .fT, .ptr _| .eql, .ref _, .fT| .eql, .fT, .ref _=>some ((match P.underlying t with|some (.pointer _)=>true|_=>false)=true, .bool false)
 | .neq, .ptr _, .fT| .neq, .fT, .ptr _| .neq, .ref _, .fT| .neq, .fT, .ref _=>some ((match P.underlying t with|some (.pointer _)=>true|_=>false)=true, .bool true)
 | .eql, .fT, .fT=>some ((match P.underlying t with|some (.pointer _)=>true|_=>false)=true, .bool true)
 | .neq, .fT, .fT=>some ((match P.underlying t with|some (.pointer _)=>true|_=>false)=true, .bool false)
 | .eql, .agg xs, .agg dn=>
   match P.underlying t with
   |some (.struct c6)=>(sD P xs dn c6.toList).map fun p=>(P.stoodInHeld t=false∧P.eqGuardType P.depth t=false∧p.1, .bool p.2)
   |_=>none
 | .neq, .agg xs, .agg dn=>
   match P.underlying t with
   |some (.struct c6)=>(sD P xs dn c6.toList).map fun p=>(P.stoodInHeld t=false∧P.eqGuardType P.depth t=false∧p.1, .bool (!p.2))
   |_=>none
 |_,_,_=>none
def ng (P:Program) (op:BinOp) (t:TypeId) (x y:Operand) (a b:ab):Option (Prop×ab):=
 match op,a,b with
 | .eql, .nilIface, .nilIface=>some ((match P.underlying t with|some (.interface _)=>true|_=>false)=true∧((x matches .const _)||(y matches .const _))=true, .bool true)
 | .neq, .nilIface, .nilIface=>some ((match P.underlying t with|some (.interface _)=>true|_=>false)=true∧((x matches .const _)||(y matches .const _))=true, .bool false)
 | .eql, .err _ e, .nilIface=>some ((match P.underlying t with|some (.interface _)=>true|_=>false)=true∧((x matches .const _)||(y matches .const _))=true, .bool (e==0))
 | .neq, .err _ e, .nilIface=>some ((match P.underlying t with|some (.interface _)=>true|_=>false)=true∧((x matches .const _)||(y matches .const _))=true, .bool (!(e==0)))
 | .eql, .opt b, .nilIface=>some ((match P.underlying t with|some (.interface _)=>true|_=>false)=true∧((x matches .const _)||(y matches .const _))=true, .bool (!b))
 | .neq, .opt b, .nilIface=>some ((match P.underlying t with|some (.interface _)=>true|_=>false)=true∧((x matches .const _)||(y matches .const _))=true, .bool b)
 | .eql, .err iV e, .iface u (.int k c)=>some ((match P.underlying t with|some (.interface _)=>true|_=>false)=true∧ .i64=k∧P.underlying iV=some (.int .i64)∧(P.info? iV).map (·.comparable)=some true∧iV=u∧c≠0, .bool (e==c))
 | .neq, .err iV e, .iface u (.int k c)=>some ((match P.underlying t with|some (.interface _)=>true|_=>false)=true∧ .i64=k∧P.underlying iV=some (.int .i64)∧(P.info? iV).map (·.comparable)=some true∧iV=u∧c≠0, .bool (!(e==c)))
 |_,_,_=>oK P op t a b
def apart (P:Program) (t:TypeId) (l:List ab) (off:Nat):ab:=
 if kF P t then .agg ((l.drop off).take (P.cellsOf t)) else l.getD off .aV
def jY (P:Program) (t:TypeId) (l:List ab) (off:Nat):Prop:=
 eV P t=true∧(if kF P t then off+P.cellsOf t≤l.length else off<l.length)
def k7 (low:Option ab) (d:Nat):Option Int:=
 match low with
 |none=>some d
 |some (.int _ n)=>some n
 |_=>none
def bC (c:UInt8):ab:= .int .u8 c.toNat
def byteOf:ab→UInt8
 | .int _ n=>UInt8.ofNat n.toNat
 |_=>0
theorem MH (c:UInt8):byteOf (bC c)=c:=by simp [byteOf,bC]
theorem MI (l:List UInt8):(l.map bC).map byteOf=l:=by
 rw [List.map_map]
 have:byteOf∘bC=id:=by funext c;exact MH c
 rw [this,List.map_id]
def un:ab→ab
 | .lazy true x=>x
 |x=>x
def bS (P:Program) (m:ae) (a:Operand→ab):Op→Option (Prop×ab)
 | .move x| .assign x=>some (True,a x)
 | .pick c x y=>
   match un (a c),a x,a y with
   | .bool b, .bool p, .bool q=>some (True, .bool (if b then p else q))
   | .bool b, .lazy g (.bool p), .bool q=>some (b=true→g=true, .bool (if b then p else q))
   | .bool b, .bool p, .lazy g (.bool q)=>some (b=false→g=true, .bool (if b then p else q))
   | .bool b, .lazy g (.bool p), .lazy h (.bool q)=>some ((b=true→g=true)∧(b=false→h=true), .bool (if b then p else q))
   |_,_,_=>none
 | .load t x=>
   match a x with
   | .ref l=>some (jY P t l 0,apart P t l 0)
   | .ptr ⟨b,off,none⟩=>
     match m b with
     |some (.cells l)=>some (jY P t l off,(apart P t l off).plain)
     |_=>none
   |_=>none
 | .nilCheck x=>
   match a x with
   | .ref l=>some (True, .ref l)
   | .ptr p=>some (True, .ptr p)
   | .func (.func f) b c=>some (True, .func (.func f) b c)
   |_=>none
 | .binOp op t x y _=>ng P op t x y (a x) (a y)
 | .unOp op _ x=>
   match op,a x with
   | .not, .bool b=>some (True, .bool (!b))
   | .neg, .int k n=>some (True, .int k (k.wrap (0- n)))
   |_,_=>none
 | .convert s d x=>
   match P.underlying d,a x with
   |some (.int k), .int _ n=>some (eV P s=true, .int k (k.wrap n))
   |some .string, .str l=>some (eV P s=true, .str l)
   |some .string, .slice _ l=>some (∃e,P.underlying s=some (.slice e)∧P.underlying e=some (.int .u8)∧∀x∈l,∃k:Int,x= .int .u8 k, .str (l.map byteOf))
   |_,_=>none
 | .makeInterface t x=>
   match P.underlying t with
   |some (.interface _)=>none
   |some _=>some (True, .iface t (a x))
   |none=>none
 | .fieldAddr s x f=>
   match P.underlying s with
   |some (.struct c6)=>
    match c6[f]? with
    |some fd=>
     match a x with
     | .ref l=>some (eV P fd.type=true∧P.cellsOf fd.type≠0∧fd.offset<l.length, .ref (l.drop fd.offset))
     | .ptr ⟨b,off,none⟩=>some (eV P fd.type=true∧P.cellsOf fd.type≠0, .ptr ⟨b,off+fd.offset,none⟩)
     |_=>none
    |none=>none
   |_=>none
 | .field t x f=>
   match P.underlying t with
   |some (.struct c6)=>
    match c6[f]?,a x with
    |some fd, .agg l=>some (jY P fd.type l fd.offset,apart P fd.type l fd.offset)
    |_,_=>none
   |_=>none
 | .indexAddr t x i=>
   match P.underlying t with
   |some (.slice e)=>
    match a x,a i with
    | .slice _ l, .int _ k=>some (eV P e=true∧P.cellsOf e≠0∧0≤k∧k<l.length∧(l.getD k.toNat .aV).cells.length=P.cellsOf e, .ref (l.getD k.toNat .aV).cells)
    | .ms ⟨b,off,none⟩ len _, .int _ k=>some (eV P e=true∧0≤k∧k<len, .ptr ⟨b,off+k.toNat*P.cellsOf e,none⟩)
    |_,_=>none
   |_=>none
 | .index t x i=>
   match P.underlying t,a x,a i with
   |some .string, .str l, .int _ k=>some (0≤k∧k<l.length, .int .u8 (l.getD k.toNat 0).toNat)
   |_,_,_=>none
 | .extract x i=>
   match a x with
   | .tuple l=>some (i<l.length,l.getD i .aV)
   |_=>none
 | .slice t x ba ad none=>
   match P.underlying t,a x with
   |some .string, .str l=>
    match k7 (ba.map a) 0,k7 (ad.map a) l.length with
    |some p,some q=>some (0≤p∧p≤q∧q≤l.length, .str ((l.drop p.toNat).take (q- p).toNat))
    |_,_=>none
   |some (.slice e), .slice _ l=>
    match k7 (ba.map a) 0,k7 (ad.map a) l.length with
    |some p,some q=>some (eV P e=true∧0≤p∧p≤q∧q≤l.length∧∀x∈l,x.cells.length=P.cellsOf e, .slice false ((l.drop p.toNat).take (q- p).toNat))
    |_,_=>none
   |some (.slice e), .ms ⟨b,off,none⟩ len cap=>
    match k7 (ba.map a) 0,k7 (ad.map a) len with
    |some p,some q=>some (eV P e=true∧0≤p∧p≤q∧q≤len,if p<cap then .ms ⟨b,off+p.toNat*P.cellsOf e,none⟩ (q- p).toNat (cap- p.toNat) else .gb)
    |_,_=>none
   |_,_=>none
 | .typeAssert x _ t true=>
   match P.underlying t,a x with
   |some (.interface _),_=>none
   |some _, .iface u v=>if u=t then some (True, .tuple [v, .bool true]) else none
   |some _, .err u e=>if u=t then some ((P.info? t).bind (·.zero)=some (.int .i64 0), .tuple [.int .i64 e, .bool (!(e==0))]) else none
   |_,_=>none
 | .call ⟨.builtin .len,args,di⟩=>
   match args[0]?,di[0]? with
   |some x,some t=>
    match P.underlying t,a x with
    |some .string, .str l=>some (True, .int .i64 l.length)
    |some (.slice _), .slice _ l=>some (True, .int .i64 l.length)
    |some (.slice _), .ms _ n _=>some (n≤9223372036854775807, .int .i64 n)
    |some (.slice _), .gb=>some (True, .int .i64 0)
    |some (.map _ _), .jm=>some (True, .int .i64 0)
    |some (.map _ _), .map b=>
     match m b with
     |some (.map l)=>some (True, .int .i64 l.length)
     |_=>none
    |_,_=>none
   |_,_=>none
 | .call ⟨.builtin .max,args,_⟩=>
   match args.toList with
   |[x,y]=>
    match a x,a y with
    | .int k p, .int en q=>if k=en then some (True, .int k (if q>p then q else p)) else none
    |_,_=>none
   |_=>none
 | .call ⟨.builtin .min,args,_⟩=>
   match args.toList with
   |[x,y]=>
    match a x,a y with
    | .int k p, .int en q=>if k=en then some (True, .int k (if q<p then q else p)) else none
    |_,_=>none
   |_=>none
 |_=>none
end Go.bg
end
section
namespace Go.bg
open Go
theorem nY (k:IntKind) (n:Int):k.min≤k.wrap n∧k.wrap n≤k.max:=by
 cases k<;>simp [IntKind.min,IntKind.max,IntKind.wrap,IntKind.signed,IntKind.bits]<;>(repeat' split)<;>omega
theorem BM (k:IntKind) (n:Int) (J:k.min≤n) (aa:n≤k.max):k.wrap n=n:=by
 cases k<;>simp [IntKind.min,IntKind.max,IntKind.wrap,IntKind.signed,IntKind.bits] at*<;>(repeat' split)<;>omega
section
variable {P:Program} {w:World} {lim:Nat→Nat}
theorem fV {t:TypeId} {d:TypeDesc} (h:P.underlying t=some d):(underlying t).run P w= .ok d w:=run_underlying h w
theorem mj {t:TypeId} (h:eV P t=true):(sizeOf t).run P w= .ok (P.cellsOf t) w:=by
 cases ad:P.info? t with
 |none=>simp [eV,Program.underlying,ad] at h
 |some i=>simp [sizeOf,typeInfo,ad,Program.cellsOf]
theorem uw {t:TypeId} (h:eV P t=true):(isAgg t).run P w= .ok (kF P t) w:=by
 cases aY:P.underlying t with
 |none=>simp [eV,aY] at h
 |some d=>simp [isAgg,fV aY,kF,aY];cases d<;>simp
theorem MJ (d:Nat) {t u mi:TypeId} {k:IntKind} {a b:Int} (aq:(match P.underlying t with|some (.interface _)=>true|_=>false)=true)
 (hu:P.underlying u=some (.int k)) (ao:(P.info? u).map (·.comparable)=some true):
 (Op.equalIn (d+2) t (.iface u (.int k a)) (.iface mi (.int k b))).run P w= .ok (u==mi&&a==b) w:=by
 cases aY:P.underlying t with
 |none=>simp [aY] at aq
 |some e=>
  cases e<;>simp [aY] at aq
  rename_i ms
  cases ad:P.info? u with
  |none=>simp [ad] at ao
  |some i=>
   have MK:i.comparable=true:=by simpa [ad] using ao
   by_cases e:u=mi
   · subst e
     simp [Op.equalIn,fV aY,typeInfo,ad,MK,fV hu]
   · simp [Op.equalIn,fV aY,e]
theorem ML (d:Nat) {t:TypeId} {u:TypeId} {v:Value} (aq:(match P.underlying t with|some (.interface _)=>true|_=>false)=true):(Op.equalIn (d+1) t .nilIface (.iface u v)).run P w= .ok false w:=by
 cases aY:P.underlying t with
 |none=>simp [aY] at aq
 |some e=>cases e<;>simp [aY] at aq;simp [Op.equalIn,fV aY]
theorem BN {t:TypeId} {u:TypeId} {v:Value} (aq:(match P.underlying t with|some (.interface _)=>true|_=>false)=true):(Op.equal t .nilIface (.iface u v)).run P w= .ok false w:=ML 9999 aq
theorem MM (d:Nat) {t:TypeId} {u:TypeId} {v:Value} (aq:(match P.underlying t with|some (.interface _)=>true|_=>false)=true):(Op.equalIn (d+1) t (.iface u v) .nilIface).run P w= .ok false w:=by
 cases aY:P.underlying t with
 |none=>simp [aY] at aq
 |some e=>cases e<;>simp [aY] at aq;simp [Op.equalIn,fV aY]
theorem wV {t:TypeId} {u:TypeId} {v:Value} (aq:(match P.underlying t with|some (.interface _)=>true|_=>false)=true):(Op.equal t (.iface u v) .nilIface).run P w= .ok false w:=MM 9999 aq
theorem MN (d:Nat) {t:TypeId} (aq:(match P.underlying t with|some (.interface _)=>true|_=>false)=true):(Op.equalIn (d+1) t .nilIface .nilIface).run P w= .ok true w:=by
 cases aY:P.underlying t with
 |none=>simp [aY] at aq
 |some e=>cases e<;>simp [aY] at aq;simp [Op.equalIn,fV aY]
theorem ux {t:TypeId} (aq:(match P.underlying t with|some (.interface _)=>true|_=>false)=true):(Op.equal t .nilIface .nilIface).run P w= .ok true w:=MN 9999 aq
theorem MO (d:Nat) {t:TypeId} {a:Addr} (aq:(match P.underlying t with|some (.pointer _)=>true|_=>false)=true):(Op.equalIn (d+1) t (.pointer (some a)) (.pointer none)).run P w= .ok false w:=by
 cases aY:P.underlying t with
 |none=>simp [aY] at aq
 |some e=>cases e<;>simp [aY] at aq;simp [Op.equalIn,fV aY]
theorem MP {t:TypeId} {a:Addr} (aq:(match P.underlying t with|some (.pointer _)=>true|_=>false)=true):(Op.equal t (.pointer (some a)) (.pointer none)).run P w= .ok false w:=MO 9999 aq
theorem MQ (d:Nat) {t:TypeId} {a:Addr} (aq:(match P.underlying t with|some (.pointer _)=>true|_=>false)=true):(Op.equalIn (d+1) t (.pointer none) (.pointer (some a))).run P w= .ok false w:=by
 cases aY:P.underlying t with
 |none=>simp [aY] at aq
 |some e=>cases e<;>simp [aY] at aq;simp [Op.equalIn,fV aY]
theorem MR {t:TypeId} {a:Addr} (aq:(match P.underlying t with|some (.pointer _)=>true|_=>false)=true):(Op.equal t (.pointer none) (.pointer (some a))).run P w= .ok false w:=MQ 9999 aq
theorem MS (d:Nat) {t:TypeId} (aq:(match P.underlying t with|some (.pointer _)=>true|_=>false)=true):(Op.equalIn (d+1) t (.pointer none) (.pointer none)).run P w= .ok true w:=by
 cases aY:P.underlying t with
 |none=>simp [aY] at aq
 |some e=>cases e<;>simp [aY] at aq;simp [Op.equalIn,fV aY]
theorem MT {t:TypeId} (aq:(match P.underlying t with|some (.pointer _)=>true|_=>false)=true):(Op.equal t (.pointer none) (.pointer none)).run P w= .ok true w:=MS 9999 aq
theorem MU (d:Nat) {t:TypeId} {a b:Bool} (aq:P.underlying t=some .bool):(Op.equalIn (d+1) t (.bool a) (.bool b)).run P w= .ok (a==b) w:=by
 simp [Op.equalIn,fV aq]
theorem MV {t:TypeId} {a b:Bool} (aq:P.underlying t=some .bool):(Op.equal t (.bool a) (.bool b)).run P w= .ok (a==b) w:=MU 9999 aq
theorem BO {t u mi:TypeId} {k:IntKind} {a b:Int} (aq:(match P.underlying t with|some (.interface _)=>true|_=>false)=true)
 (hu:P.underlying u=some (.int k)) (ao:(P.info? u).map (·.comparable)=some true):
 (Op.equal t (.iface u (.int k a)) (.iface mi (.int k b))).run P w= .ok (u==mi&&a==b) w:=MJ 9998 aq hu ao
theorem MW {t:TypeId} {k8 jH:Value} {x y:ab} {side:Prop} {b:Bool} (d:Nat) (h:sC P t x y=some (side,b)) (aw:side) {jZ j0:List Nat} (an:aN w lim k8 x jZ) (aK:aN w lim jH y j0):
 (Op.equalIn (d+1) t k8 jH).run P w= .ok b w∧kF P t=false:=by
 unfold sC at h
 split at h
 · simp only [Option.some.injEq,Prod.mk.injEq] at h
   obtain ⟨rfl,rfl⟩:=h
   obtain ⟨rfl,aq⟩:=aw
   cases an
   cases aK
   exact ⟨run_equalIn_int w d t _ _ _ _ aq,by simp [kF,aq]⟩
 · simp only [Option.some.injEq,Prod.mk.injEq] at h
   obtain ⟨rfl,rfl⟩:=h
   cases an
   cases aK
   refine ⟨?_,by simp [kF,aw]⟩
   rw [run_equalIn_string w d t _ _ aw,ByteArray.toList_eq,ByteArray.toList_eq]
 · simp only [Option.some.injEq,Prod.mk.injEq] at h
   obtain ⟨rfl,rfl⟩:=h
   cases an
   cases aK
   exact ⟨run_equalIn_bool' w d t _ _ aw,by simp [kF,aw]⟩
 · cases h
theorem MX {t:TypeId} {x y:ab} {side:Prop} {b:Bool} (h:sC P t x y=some (side,b)) (aw:side):eV P t=true:=by
 unfold sC at h
 split at h
 · simp only [Option.some.injEq,Prod.mk.injEq] at h
   obtain ⟨rfl,rfl⟩:=h
   simp [eV,aw.2]
 · simp only [Option.some.injEq,Prod.mk.injEq] at h
   obtain ⟨rfl,rfl⟩:=h
   simp [eV,aw]
 · simp only [Option.some.injEq,Prod.mk.injEq] at h
   obtain ⟨rfl,rfl⟩:=h
   simp [eV,aw]
 · cases h
theorem MY {t:TypeId} {x y:ab} {r:Prop×Bool} (h:sC P t x y=some r):x≠ .aV∧y≠ .aV:=by
 unfold sC at h
 split at h
 · exact ⟨(nomatch ·),(nomatch ·)⟩
 · exact ⟨(nomatch ·),(nomatch ·)⟩
 · exact ⟨(nomatch ·),(nomatch ·)⟩
 · cases h
theorem Gc {l:List ab} {i:Nat} (h:l.getD i .aV≠ .aV):i<l.length:=by
 by_cases ad:i<l.length
 · exact ad
 · exact (h (by simp [List.getD,List.getElem?_eq_none (Nat.not_lt.1 ad)])).elim
theorem Gd {t:TypeId} {cs:Array Value} {k:Nat} (hu:eV P t=true) (aT:kF P t=false) (al:k<cs.size):(part t cs k).run P w= .ok (cs.getD k undef) w:=by
 have this:cs[k]?=some (cs.getD k undef):=by simp [Array.getD,al]
 unfold part
 simp only [Sem.run_bind,uw hu,aT,Result.andThen_ok,this]
 rfl
theorem MZ {qd qe:Array Value} {xs dn:List ab} (an:qd.size=xs.length) (aK:qe.size=dn.length) {jZ j0:Nat→List Nat} (rx:∀i,i<xs.length→aN w lim (qd.getD i undef) (xs.getD i .aV) (jZ i)) (M0:∀i,i<dn.length→aN w lim (qe.getD i undef) (dn.getD i .aV) (j0 i)) (d:Nat):
 ∀(c6:List Field) {side:Prop} {b:Bool},sD P xs dn c6=some (side,b)→side→(Op.eqFields (d+1) qd qe c6).run P w= .ok b w:=by
 intro c6
 induction c6 with
 |nil=>
  intro side b h aw
  simp only [sD,Option.some.injEq,Prod.mk.injEq] at h
  rw [←h.2];rfl
 |cons f c6 aO=>
  intro side b h aw
  unfold sD at h
  split at h
  · next s hW hJ j1 J aa=>
    simp only [Option.some.injEq,Prod.mk.injEq] at h
    obtain ⟨rfl,rfl⟩:=h
    obtain ⟨lI,aM,ml⟩:=aw
    obtain ⟨hK,fw⟩:=MY J
    have hC:=Gc hK
    have hd:=Gc fw
    have hu:=MX J lI
    obtain ⟨aF,az⟩:=MW d J lI (rx _ hC) (M0 _ hd)
    have Ge:=Gd (P:=P) (w:=w) hu az (show f.offset<qd.size by omega)
    have M1:=Gd (P:=P) (w:=w) hu az (show f.offset<qe.size by omega)
    simp only [Op.eqFields,if_pos aM,Sem.run_bind,Ge,M1,aF,Result.andThen_ok,Sem.run_ite,Sem.run_pure]
    cases hW with
    |true=>simpa using aO aa ml
    |false=>simp
  · cases h
theorem Gf {t:TypeId} {jZ j0:Operand} {c6:Array Field} {k8 jH:Value} {xs dn:List ab} {side:Prop} {b:Bool} (aq:P.underlying t=some (.struct c6)) (b4:P.stoodInHeld t=false) (bc:P.eqGuardType P.depth t=false)
 (h:sD P xs dn c6.toList=some (side,b)) (aw:side) {o fE:List Nat} (an:aN w lim k8 (.agg xs) o) (aK:aN w lim jH (.agg dn) fE):
 (do eqGuard .eql t jZ j0 k8 jH;binOp .eql t k8 jH:Sem Value).run P w= .ok (.bool b) w∧(do eqGuard .neq t jZ j0 k8 jH;binOp .neq t k8 jH:Sem Value).run P w= .ok (.bool (!b)) w:=by
 cases an with
 |agg qd _ Wq J jf=>
  cases aK with
  |agg qe _ M3 aa jI=>
   have aZ:P.fieldsOf t=c6:=by simp [Program.fieldsOf,aq]
   have key:=MZ J aa jf jI 9998 _ h aw
   have he:(Op.equalIn 10000 t (.agg qd) (.agg qe)).run P w= .ok b w:=by
    rw [run_equalIn_struct w 9999 t qd qe (by rw [aZ];exact aq) b4,aZ];exact key
   constructor
   · simp only [Sem.run_bind,run_eqGuard_agg w _ t jZ j0 qd qe bc,Result.andThen_ok,run_eql_struct,he]
   · simp only [Sem.run_bind,run_eqGuard_agg w _ t jZ j0 qd qe bc,Result.andThen_ok,run_neq_struct,he]
set_option maxHeartbeats 4000000 in
theorem M4 {op:BinOp} {t:TypeId} {jZ j0:Operand} {k8 jH:Value} {x y r:ab} {side:Prop} (h:oK P op t x y=some (side,r)) (aw:side)
 (an:aN w lim k8 x []) (aK:aN w lim jH y []):∃v,(do eqGuard op t jZ j0 k8 jH;binOp op t k8 jH:Sem Value).run P w= .ok v w∧aN w lim v r []:=by
 unfold oK at h
 split at h
 case h_17=>
  simp only [Option.some.injEq,Prod.mk.injEq] at h
  obtain ⟨rfl,rfl⟩:=h
  cases an with|str s lI=>
  cases aK with|str hJ ml=>
  have cF:s.size+hJ.size≤140737488355328:=by simpa using aw
  refine ⟨.string (s++hJ),?_,?_⟩
  · simp [eqGuard,binOp,run_string_add_sum w s hJ (by omega)]
  · have:=aN.str (w:=w) (lim:=lim) (s++hJ) (by simpa using cF)
    simpa using this
 case h_9=>
  simp only [Option.some.injEq,Prod.mk.injEq] at h
  obtain ⟨rfl,rfl⟩:=h
  cases an with|int k a ba ad=>
  cases aK with|int en b BP fo=>
  have ah:=Int.not_lt.2 aw
  refine ⟨_,?_, .int _ _ (nY _ _).1 (nY _ _).2⟩
  simp [eqGuard,binOp,Op.shift,ah]
 case h_10=>
  simp only [Option.some.injEq,Prod.mk.injEq] at h
  obtain ⟨rfl,rfl⟩:=h
  cases an with|int k a ba ad=>
  cases aK with|int en b BP fo=>
  obtain ⟨dK,kG,nh⟩:=aw
  have ah:=Int.not_lt.2 dK
  refine ⟨_,?_, .int _ _ kG nh⟩
  simp [eqGuard,binOp,Op.shift,ah]
 case h_42=>
  split at h
  · next c6 jJ=>
    obtain ⟨p,aQ,h⟩:=Option.map_eq_some_iff.1 h
    obtain ⟨ps,M5⟩:=p
    simp only [Prod.mk.injEq] at h
    obtain ⟨rfl,rfl⟩:=h
    exact ⟨_,(Gf jJ aw.1 aw.2.1 aQ aw.2.2 an aK).1, .bool _⟩
  · cases h
 case h_43=>
  split at h
  · next c6 jJ=>
    obtain ⟨p,aQ,h⟩:=Option.map_eq_some_iff.1 h
    obtain ⟨ps,M5⟩:=p
    simp only [Prod.mk.injEq] at h
    obtain ⟨rfl,rfl⟩:=h
    exact ⟨_,(Gf jJ aw.1 aw.2.1 aQ aw.2.2 an aK).2, .bool _⟩
  · cases h
 all_goals first
  |(simp only [Option.some.injEq,Prod.mk.injEq] at h
    obtain ⟨rfl,rfl⟩:=h
    cases an with|str s lI=>
    cases aK with|str hJ ml=>
    refine ⟨_,?_, .bool _⟩
    simp [eqGuard,binOp,Op.stringOp,ByteArray.toList_eq]
    done)
  |(split at h
    · rename_i al
      subst al
      simp only [Option.some.injEq,Prod.mk.injEq] at h
      obtain ⟨rfl,rfl⟩:=h
      cases an with|int k a ba ad=>
      cases aK with|int en b BP fo=>
      first
      |(refine ⟨_,?_, .int _ _ (nY _ _).1 (nY _ _).2⟩
        simp [eqGuard,binOp,Op.intArith,Op.intBits,Op.intDiv,aw]
        done)
      |(refine ⟨_,?_, .bool _⟩
        simp [eqGuard,binOp,Op.intCmp,bne]
        done)
      |(refine ⟨_,?_, .int _ _ aw.2.1 aw.2.2⟩
        simp [eqGuard,binOp,Op.intDiv,aw.1]
        done)
    · cases h)
  |(simp only [Option.some.injEq,Prod.mk.injEq] at h
    obtain ⟨rfl,rfl⟩:=h
    cases an with|int k a ba ad=>
    cases aK with|int en b BP fo=>
    first
    |(refine ⟨_,?_, .int _ _ (nY _ _).1 (nY _ _).2⟩
      simp [eqGuard,binOp,Op.shift,show ¬b<0 from by omega]
      done)
    |(refine ⟨_,?_, .int _ _ aw.2.1 aw.2.2⟩
      simp [eqGuard,binOp,Op.shift,show ¬b<0 from by omega]
      done))
  |(simp only [Option.some.injEq,Prod.mk.injEq] at h
    obtain ⟨rfl,rfl⟩:=h
    cases an with|bool a=>
    cases aK with|bool b=>
    refine ⟨_,?_, .bool _⟩
    simp [eqGuard,binOp,MV aw]
    done)
  |(simp only [Option.some.injEq,Prod.mk.injEq] at h
    obtain ⟨rfl,rfl⟩:=h
    cases an
    cases aK
    refine ⟨_,?_, .bool _⟩
    simp [eqGuard,binOp,BN aw,wV aw]
    done)
  |(simp only [Option.some.injEq,Prod.mk.injEq] at h
    obtain ⟨rfl,rfl⟩:=h
    cases an
    cases aK
    refine ⟨_,?_, .bool _⟩
    simp [eqGuard,binOp,MP aw,MR aw,MT aw]
    done)
  |(simp only [Option.some.injEq,Prod.mk.injEq] at h
    obtain ⟨rfl,rfl⟩:=h
    obtain ⟨J,rfl,aj,aG⟩:=aw
    cases an with|iface _ _ _ an=>
    cases aK with|iface _ _ _ aK=>
    cases an
    cases aK
    refine ⟨_,?_, .bool _⟩
    simp [eqGuard,binOp,BO J aj aG]
    done)
  |cases h
  |skip
theorem M6 {op:BinOp} {t:TypeId} {jZ j0:Operand} {k8 jH:Value} {x y r:ab} {side:Prop} (h:ng P op t jZ j0 x y=some (side,r)) (aw:side)
 (an:aN w lim k8 x []) (aK:aN w lim jH y []):∃v,(do eqGuard op t jZ j0 k8 jH;binOp op t k8 jH:Sem Value).run P w= .ok v w∧aN w lim v r []:=by
 unfold ng at h
 split at h
 · simp only [Option.some.injEq,Prod.mk.injEq] at h
   obtain ⟨rfl,rfl⟩:=h
   cases an
   cases aK
   refine ⟨_,?_, .bool _⟩
   have aa:=aw.2
   simp [eqGuard,binOp,ux aw.1]
   cases jZ<;>cases j0<;>simp_all
 · simp only [Option.some.injEq,Prod.mk.injEq] at h
   obtain ⟨rfl,rfl⟩:=h
   cases an
   cases aK
   refine ⟨_,?_, .bool _⟩
   have aa:=aw.2
   simp [eqGuard,binOp,ux aw.1]
   cases jZ<;>cases j0<;>simp_all
 · simp only [Option.some.injEq,Prod.mk.injEq] at h
   obtain ⟨rfl,rfl⟩:=h
   cases aK
   cases an with
   |mf iV=>
    refine ⟨_,?_, .bool _⟩
    have aa:=aw.2
    simp [eqGuard,binOp,ux aw.1]
    cases jZ<;>cases j0<;>simp_all
   |jn iV e aJ ba ad=>
    refine ⟨_,?_, .bool _⟩
    simp [eqGuard,binOp,wV aw.1,aJ]
 · simp only [Option.some.injEq,Prod.mk.injEq] at h
   obtain ⟨rfl,rfl⟩:=h
   cases aK
   cases an with
   |mf iV=>
    refine ⟨_,?_, .bool _⟩
    have aa:=aw.2
    simp [eqGuard,binOp,ux aw.1]
    cases jZ<;>cases j0<;>simp_all
   |jn iV e aJ ba ad=>
    refine ⟨_,?_, .bool _⟩
    simp [eqGuard,binOp,wV aw.1,aJ]
 · simp only [Option.some.injEq,Prod.mk.injEq] at h
   obtain ⟨rfl,rfl⟩:=h
   cases aK
   cases an with
   |oG=>
    refine ⟨_,?_, .bool _⟩
    have aa:=aw.2
    simp [eqGuard,binOp,ux aw.1]
    cases jZ<;>cases j0<;>simp_all
   |oH iV v=>
    refine ⟨_,?_, .bool _⟩
    simp [eqGuard,binOp,wV aw.1]
 · simp only [Option.some.injEq,Prod.mk.injEq] at h
   obtain ⟨rfl,rfl⟩:=h
   cases aK
   cases an with
   |oG=>
    refine ⟨_,?_, .bool _⟩
    have aa:=aw.2
    simp [eqGuard,binOp,ux aw.1]
    cases jZ<;>cases j0<;>simp_all
   |oH iV v=>
    refine ⟨_,?_, .bool _⟩
    simp [eqGuard,binOp,wV aw.1]
 · simp only [Option.some.injEq,Prod.mk.injEq] at h
   obtain ⟨rfl,rfl⟩:=h
   obtain ⟨J,rfl,aj,aG,rfl,aR⟩:=aw
   cases aK with|iface _ _ _ aK=>
   cases aK
   cases an with
   |mf iV=>
    refine ⟨_,?_, .bool _⟩
    simp [eqGuard,binOp,BN J,Ne.symm aR]
   |jn iV e aJ ba ad=>
    refine ⟨_,?_, .bool _⟩
    simp [eqGuard,binOp,BO J aj aG]
 · simp only [Option.some.injEq,Prod.mk.injEq] at h
   obtain ⟨rfl,rfl⟩:=h
   obtain ⟨J,rfl,aj,aG,rfl,aR⟩:=aw
   cases aK with|iface _ _ _ aK=>
   cases aK
   cases an with
   |mf iV=>
    refine ⟨_,?_, .bool _⟩
    simp [eqGuard,binOp,BN J,Ne.symm aR]
   |jn iV e aJ ba ad=>
    refine ⟨_,?_, .bool _⟩
    simp [eqGuard,binOp,BO J aj aG]
 · exact M4 h aw an aK
end
end Go.bg
end
section
namespace Go.bg
open Go
section
variable {P:Program} {w:World} {lim:Nat→Nat}
theorem addr_add (b off i:Nat):(⟨b,off,none⟩:Addr).add i=⟨b,off+i,none⟩:=by
 unfold Addr.add
 split
 · rename_i h;subst h;rfl
 · rfl
theorem Gg (b off n:Nat) (f:Nat→Value) (h:∀j,j<n→w.cell? ⟨b,off+j,none⟩=some (f j)):
 (loadCells ⟨b,off,none⟩ n).run P w= .ok ((List.range n).map f).toArray w:=by
 have:=run_loadCells_list (P:=P) w ⟨b,off,none⟩ ((List.range n).map f) (fun j v bw=>by
  rw [addr_add]
  by_cases aD:j<n
  · simp [aD] at bw
    rw [h j aD,bw]
  · simp [aD] at bw)
 simpa using this
theorem M7 (n i:Nat) (f:Nat→Value) (ad:i<n):((List.range n).map f).toArray.getD i undef=f i:=by
 simp [Array.getD,ad]
theorem M8 (n:Nat) (f:Nat→Value) (xs:List ab) (aM:xs.length=n) (h:∀i,i<n→aN w lim (f i) (xs.getD i .aV) []):
 aN w lim (.agg ((List.range n).map f).toArray) (.agg xs) []:=by
 have:=aN.agg (w:=w) (lim:=lim) ((List.range n).map f).toArray xs (fun _=>[]) (by simp [aM]) (fun i ad=>by rw [M7 n i f (by omega)];exact h i (by omega))
 rw [flatMap_nil] at this
 exact this
theorem BQ (l:List ab) (off k i:Nat) (ad:i<k):((l.drop off).take k).getD i .aV=l.getD (off+i) .aV:=by
 simp [List.getD_eq_getElem?_getD,List.getElem?_take,ad]
theorem wW {t:TypeId} {b off:Nat} {l:List ab} {f:Nat→Value} {k:Nat} (dc:jY P t l k)
 (ao:∀i,i<l.length→w.cell? ⟨b,off+i,none⟩=some (f i)) (aA:∀i,i<l.length→aN w lim (f i) (l.getD i .aV) []):
 ∃v,(loadVar t ⟨b,off+k,none⟩).run P w= .ok v w∧aN w lim v (apart P t l k) []:=by
 obtain ⟨hu,dc⟩:=dc
 by_cases aT:kF P t=true
 · simp only [aT,if_true] at dc
   have av:=Gg (P:=P) (w:=w) b (off+k) (P.cellsOf t) (fun j=>f (k+j)) (fun j aD=>by rw [Nat.add_assoc];exact ao (k+j) (by omega))
   refine ⟨.agg ((List.range (P.cellsOf t)).map fun j=>f (k+j)).toArray,?_,?_⟩
   · simp [loadVar,uw hu,aT,mj hu,av]
   · simp only [apart,aT,if_true]
     refine M8 _ _ _ (by simp;omega) (fun i ad=>?_)
     rw [BQ _ _ _ _ ad]
     exact aA (k+i) (by omega)
 · simp only [aT] at dc
   refine ⟨f k,?_,?_⟩
   · simp [loadVar,uw hu,aT,ao k dc]
   · simp only [apart,aT]
     exact aA k dc
theorem M9 {t:TypeId} {cs:Array Value} {l:List ab} {k:Nat} (dc:jY P t l k) (aw:cs.size=l.length)
 (aA:∀i,i<l.length→aN w lim (cs.getD i undef) (l.getD i .aV) []):∃v,(part t cs k).run P w= .ok v w∧aN w lim v (apart P t l k) []:=by
 obtain ⟨hu,dc⟩:=dc
 by_cases aT:kF P t=true
 · simp only [aT,if_true] at dc
   refine ⟨.agg (cs.extract k (k+P.cellsOf t)),?_,?_⟩
   · simp [part,uw hu,aT,mj hu]
   · simp only [apart,aT,if_true]
     have:=aN.agg (w:=w) (lim:=lim) (cs.extract k (k+P.cellsOf t)) ((l.drop k).take (P.cellsOf t)) (fun _=>[]) (by simp [aw];omega) (fun i ad=>by
      have fo:i<P.cellsOf t:=by simp at ad;omega
      rw [BQ _ _ _ _ fo]
      have:=aA (k+i) (by omega)
      have e:(cs.extract k (k+P.cellsOf t)).getD i undef=cs.getD (k+i) undef:=by
       simp [Array.getD_eq_getD_getElem?,Array.getElem?_extract]
       rw [if_pos (by omega)]
      rw [e];exact this)
     rw [flatMap_nil] at this
     exact this
 · simp only [aT] at dc
   refine ⟨cs.getD k undef,?_,?_⟩
   · have:k<cs.size:=by rw [aw];exact dc
     simp [part,uw hu,aT,this]
   · simp only [apart,aT]
     exact aA k dc
theorem BR {os:Nat→List Nat} {n:Nat} (h:(List.range n).flatMap os=[]):∀i,i<n→os i=[]:=by
 intro i ad
 simp [List.flatMap_eq_nil_iff] at h
 exact h i ad
theorem Na {v:Value} {xs:List ab} {o:List Nat} (h:aN w lim v (.agg xs) o) (aL:o=[]):∃cs:Array Value,v= .agg cs∧cs.size=xs.length∧∀i,i<xs.length→aN w lim (cs.getD i undef) (xs.getD i .aV) []:=by
 cases h with
 |agg cs _ os h aA=>exact ⟨cs,rfl,h,fun i ad=>by have:=aA i ad;rwa [BR aL i ad] at this⟩
theorem Nb {v:Value} {xs:List ab} (h:aN w lim v (.agg xs) []):∃cs:Array Value,v= .agg cs∧cs.size=xs.length∧∀i,i<xs.length→aN w lim (cs.getD i undef) (xs.getD i .aV) []:=Na h rfl
theorem Nc {v:Value} {xs:List ab} {o:List Nat} (h:aN w lim v (.tuple xs) o) (aL:o=[]):∃cs:Array Value,v= .tuple cs∧cs.size=xs.length∧∀i,i<xs.length→aN w lim (cs.getD i undef) (xs.getD i .aV) []:=by
 cases h with
 |tuple cs _ os h aA=>exact ⟨cs,rfl,h,fun i ad=>by have:=aA i ad;rwa [BR aL i ad] at this⟩
theorem Nd {v:Value} {xs:List ab} (h:aN w lim v (.tuple xs) []):∃cs:Array Value,v= .tuple cs∧cs.size=xs.length∧∀i,i<xs.length→aN w lim (cs.getD i undef) (xs.getD i .aV) []:=Nc h rfl
theorem BS {b:Nat} {l:List ab} {os:Nat→List Nat} (h:kh w lim b (.cells l) os):∃(cs:Array Value) (e:TypeId) (oss:Nat→List Nat),w.heap[b]?=some (.cells cs e (0,0))∧cs.size=l.length∧
 ∀i,i<l.length→aN w lim (cs.getD i undef) (l.getD i .aV) (oss i):=by
 cases h with
 |cells cs e l _ ah aw aA=>exact ⟨cs,e,os,ah,aw,aA⟩
theorem y7 {v:Value} {own:Bool} {l:List ab} {os:List Nat} (h:aN w lim v (.slice own l) os):aN w lim v (.slice false l) []:=h.plain
theorem wX {v:Value} {l:List ab} (h:aN w lim v (.slice false l) []):
 (l=[]∧v= .slice none 0 0)∨(l=[]∧∃a cap,v= .slice (some a) 0 cap∧cap≤maxLen)∨
 ∃b off cap sz,∃cv:Nat→Nat→Value,v= .slice (some ⟨b,off,none⟩) l.length cap∧l.length≤cap∧cap≤maxLen∧l.length≤140737488355328∧(∀i,i<l.length→(l.getD i .aV).cells.length=sz)∧off+l.length*sz≤lim b∧
  (∀i j,i<l.length→j<sz→w.cell? ⟨b,off+i*sz+j,none⟩=some (cv i j))∧(∀i j,i<l.length→j<sz→aN w lim (cv i j) ((l.getD i .aV).cells.getD j .aV) []):=by
 cases h with
 |gb own=>exact .inl ⟨rfl,rfl⟩
 |empty a cap hm=>exact .inr (.inl ⟨rfl,a,cap,rfl,hm⟩)
 |slice b off n cap sz l cv aM fB hm dI cF fU ao aA=>subst aM;exact .inr (.inr ⟨b,off,cap,sz,cv,rfl,fB,hm,dI,cF,fU,ao,aA⟩)
theorem BT {v:Value} {l:List ab} (h:aN w lim v (.slice false l) []):∃a cap,v= .slice a l.length cap∧l.length≤140737488355328:=by
 rcases wX h with ⟨rfl,rfl⟩|⟨rfl,a,cap,rfl,_⟩|⟨b,off,cap,sz,cv,rfl,_,_,h,_⟩
 · exact ⟨none,0,rfl,by simp⟩
 · exact ⟨some a,cap,rfl,by simp⟩
 · exact ⟨_,cap,rfl,h⟩
theorem some_inj {α β:Type} {a bZ:α} {b gL:β} (h:some (a,b)=some (bZ,gL)):a=bZ∧b=gL:=by simpa using h
def ni (P:Program) (w:World) (lim:Nat→Nat) (ca:Act) (o:Oper) (x:ab):Prop:=∃v,(execOp ca.eval o).run P w= .ok (.value v) w∧aN w lim v x []
theorem uy {v:Value} {b:Bool} {o:List Nat} (h:aN w lim v (.bool b) o):v= .bool b:=by cases h;rfl
theorem mm {v:Value} {k:IntKind} {n:Int} {o:List Nat} (h:aN w lim v (.int k n) o):v= .int k n∧k.min≤n∧n≤k.max:=by cases h;exact ⟨rfl,‹_›,‹_›⟩
theorem BU {v:Value} {l:List UInt8} {o:List Nat} (h:aN w lim v (.str l) o):∃s:ByteArray,v= .string s∧s.data.toList=l∧s.size≤140737488355328:=by cases h;exact ⟨_,rfl,rfl,‹_›⟩
theorem rj {v:Value} {a:Addr} {o:List Nat} (h:aN w lim v (.ptr a) o):v= .pointer (some a):=by cases h;rfl
theorem wY {v:Value} {x:ab} {o:List Nat} (h:aN w lim v (.lazy true x) o):aN w lim v x o:=by cases h;assumption
def ab.num:ab→Int
 | .int _ n=>n
 |_=>0
theorem y8 {Gh Gi:Value} {p q b:Bool} (aQ:b=true→aN w lim Gh (.bool p) []) (aU:b=false→aN w lim Gi (.bool q) []):
 aN w lim (if b then Gh else Gi) (.bool (if b then p else q)) []:=by
 cases b
 · simpa using aU rfl
 · simpa using aQ rfl
theorem Gj {v:Value} {x:ab} {os:List Nat} (h:aN w lim v x os):aN w lim v (un x) os:=by
 unfold un
 split
 · exact wY h
 · exact h
theorem Nf {m:ae} {a:Operand→ab} {ca:Act} {o:Oper} {c p q:Operand} (aL:o.op= .pick c p q) {side:Prop} {x:ab} (h:bS P m a (.pick c p q)=some (side,x)) (aw:side)
 (ao:aN w lim (ca.eval c) (a c) []) (aQ:aN w lim (ca.eval p) (a p) []) (aU:aN w lim (ca.eval q) (a q) []):ni P w lim ca o x:=by
 simp only [bS] at h
 replace ao:=Gj ao
 have fin:∀b:Bool,ca.eval c= .bool b→∀r,aN w lim (if b then ca.eval p else ca.eval q) r []→ni P w lim ca o r:=fun b ah r aA=>
  ⟨if b then ca.eval p else ca.eval q,by cases b<;>simp [execOp,aL,ah,asBool],aA⟩
 split at h
 · next b pn cj sE sF sG=>
   obtain ⟨rfl,rfl⟩:=some_inj h
   rw [sE] at ao;rw [sF] at aQ;rw [sG] at aU
   exact fin b (uy ao) _ (y8 (fun _=>aQ) (fun _=>aU))
 · next b g pn cj sE sF sG=>
   obtain ⟨rfl,rfl⟩:=some_inj h
   rw [sE] at ao;rw [sF] at aQ;rw [sG] at aU
   exact fin b (uy ao) _ (y8 (fun ah=>by rw [aw ah] at aQ;exact wY aQ) (fun _=>aU))
 · next b pn g cj sE sF sG=>
   obtain ⟨rfl,rfl⟩:=some_inj h
   rw [sE] at ao;rw [sF] at aQ;rw [sG] at aU
   exact fin b (uy ao) _ (y8 (fun _=>aQ) (fun ah=>by rw [aw ah] at aU;exact wY aU))
 · next b g pn eW cj sE sF sG=>
   obtain ⟨rfl,rfl⟩:=some_inj h
   rw [sE] at ao;rw [sF] at aQ;rw [sG] at aU
   exact fin b (uy ao) _ (y8 (fun ah=>by rw [aw.1 ah] at aQ;exact wY aQ) (fun ah=>by rw [aw.2 ah] at aU;exact wY aU))
 · cases h
theorem Ng {m:ae} {a:Operand→ab} {ca:Act} {o:Oper} {t:TypeId} {y:Operand} (aL:o.op= .load t y) {side:Prop} {x:ab} (h:bS P m a (.load t y)=some (side,x)) (aw:side)
 (aK:aN w lim (ca.eval y) (a y) []) (hm:∀b hf,m b=some hf→∃os,kh w lim b hf os):ni P w lim ca o x:=by
 simp only [bS] at h
 split at h
 · rename_i l fx
   obtain ⟨rfl,rfl⟩:=some_inj h
   rw [fx] at aK
   generalize he:ca.eval y=e at aK
   cases aK with
   |ref b off l cv av ao aA=>
    obtain ⟨v,J,aa⟩:=wW (P:=P) aw ao aA
    simp only [Nat.add_zero] at J
    exact ⟨v,by simp [execOp,aL,he,Instr.loadAt,Instr.sureAddr,J],aa⟩
 · rename_i b off fx
   rw [fx] at aK
   split at h
   · rename_i l ah
     obtain ⟨rfl,rfl⟩:=some_inj h
     obtain ⟨os,gu⟩:=hm _ _ ah
     obtain ⟨cs,e,oss,rk,cF,aA⟩:=BS gu
     generalize he:ca.eval y=e at aK
     cases aK with
     |ptr=>
      obtain ⟨v,J,aa⟩:=wW (P:=P) (w:=w) (lim:=lim) (t:=t) (b:=b) (off:=0) (l:=ab.fD l) (f:=fun i=>cs.getD i undef) (k:=off) (by simpa [jY,ab.iG] using aw)
       (fun i ad=>by
         have fo:i<cs.size:=by simpa [ab.iG,cF] using ad
         simp [World.cell?,rk,Array.getD,fo])
       (fun i ad=>by rw [nV];exact (aA i (by simpa [ab.iG] using ad)).plain)
      simp only [Nat.zero_add] at J
      refine ⟨v,by simp [execOp,aL,he,Instr.loadAt,Instr.sureAddr,J],?_⟩
      have:apart P t (ab.fD l) off=(apart P t l off).plain:=by
       unfold apart
       split
       · simp [ab.plain,ab.iG,List.map_drop,List.map_take]
       · rw [nV]
      rw [←this];exact aa
   · cases h
 · cases h
set_option maxHeartbeats 1000000 in
theorem Nh {m:ae} {a:Operand→ab} {ca:Act} {o:Oper} {s d:TypeId} {y:Operand} (aL:o.op= .convert s d y) {side:Prop} {x:ab} (h:bS P m a (.convert s d y)=some (side,x)) (aw:side)
 (aK:aN w lim (ca.eval y) (a y) []):ni P w lim ca o x:=by
 simp only [bS] at h
 generalize he:ca.eval y=e at aK
 split at h
 · rename_i k en n aY fx
   obtain ⟨rfl,rfl⟩:=some_inj h
   rw [fx] at aK
   cases aK with
   |int _ _ ba ad=>
    cases hu:P.underlying s with
    |none=>simp [eV,hu] at aw
    |some u=>
     refine ⟨.int k (k.wrap n),?_, .int _ _ (nY _ _).1 (nY _ _).2⟩
     simp [execOp,aL,he,convert,fV hu,fV aY,Conv.intToInt]
 · rename_i l aY fx
   obtain ⟨rfl,rfl⟩:=some_inj h
   rw [fx] at aK
   cases aK with
   |str b ah=>
    cases hu:P.underlying s with
    |none=>simp [eV,hu] at aw
    |some u=>
     refine ⟨.string b,?_, .str b ah⟩
     simp [execOp,aL,he,convert,fV hu,fV aY]
 · rename_i own l aY fx
   obtain ⟨rfl,rfl⟩:=some_inj h
   obtain ⟨bR,hu,Ni,kH⟩:=aw
   rw [fx] at aK
   have qf:=y7 aK
   have BV:∀(qg:Option Addr) (n c:Nat),(convert s d (.slice qg n c)).run P w=(Conv.bytesToString (.slice qg n c)).run P w:=fun qg n c=>run_convert_bytes_string w s d bR qg n c hu Ni aY
   have BW:∀bs:List UInt8,bs.length≤140737488355328→aN w lim (.string ⟨bs.toArray⟩) (.str bs) []:=fun bs ah=>by
    have:=aN.str (w:=w) (lim:=lim) ⟨bs.toArray⟩ (by simpa [ByteArray.size] using ah)
    simpa using this
   rcases wX qf with ⟨rfl,rfl⟩|⟨rfl,qg,cap,rfl,_⟩|⟨b,off,cap,sz,cv,rfl,fB,hm,dI,cF,fU,ao,aA⟩
   · exact ⟨.string ⟨#[]⟩,by simp [execOp,aL,he,BV,Conv.bytesToString];rfl,BW [] (by simp)⟩
   · have aJ:=run_bytesToString (P:=P) w qg 0 cap [] (by simp [loadCells,loadCellsFrom])
     refine ⟨.string ⟨#[]⟩,by simp [execOp,aL,he,BV,aJ];rfl,BW [] (by simp)⟩
   · have oL:∀i,i<l.length→(l.getD i .aV).cells=[l.getD i .aV]∧∃k:Int,l.getD i .aV= .int .u8 k:=fun i ad=>by
      have iv:l.getD i .aV∈l:=by simp [List.getD_eq_getElem?_getD,ad]
      obtain ⟨k,al⟩:=kH _ iv
      rw [al];exact ⟨rfl,k,rfl⟩
     have sH:0<l.length→sz=1:=fun av=>by rw [←cF 0 av,(oL 0 av).1];rfl
     have iT:∀i,i<l.length→∃k:Int,w.cell? ⟨b,off+i,none⟩=some (.int .u8 k)∧l.getD i .aV= .int .u8 k:=fun i ad=>by
      have ak:=sH (by omega)
      subst ak
      have J:=ao i 0 ad (by omega)
      have aa:=aA i 0 ad (by omega)
      obtain ⟨Nj,k,al⟩:=oL i ad
      rw [Nj] at aa
      simp only [List.getD_cons_zero,al] at aa
      refine ⟨k,?_,al⟩
      have aj:cv i 0= .int .u8 k:=(mm aa).1
      rw [←aj];simpa using J
     have Nk:∀i,i<l.length→w.cell? ⟨b,off+i,none⟩=some (Value.int .u8 (l.getD i .aV).num):=fun i ad=>by
      obtain ⟨k,J,aa⟩:=iT i ad
      rw [aa];exact J
     have av:=Gg (P:=P) (w:=w) b off l.length (fun i=>Value.int .u8 (l.getD i .aV).num) Nk
     have Nl:((List.range l.length).map fun i=>Value.int .u8 (l.getD i .aV).num)=((List.range l.length).map fun i=>(l.getD i .aV).num).map (Value.int .u8):=by
      rw [List.map_map];rfl
     rw [Nl] at av
     have aJ:=run_bytesToString (P:=P) w ⟨b,off,none⟩ l.length cap _ av
     have ah:(List.range l.length).map (fun i=>UInt8.ofNat (l.getD i .aV).num.toNat)=l.map byteOf:=by
      apply List.ext_getElem?
      intro i
      by_cases ad:i<l.length
      · obtain ⟨k,J,aa⟩:=iT i ad
        simp only [List.getD_eq_getElem?_getD,List.getElem?_eq_getElem ad,Option.getD_some] at aa
        simp [ad,aa,byteOf,ab.num]
      · simp [ad]
     refine ⟨_,by simp only [execOp,aL,he,Sem.run_bind,BV,aJ];rfl,?_⟩
     rw [foldl_push_bytes,List.map_map]
     have az:((fun n:Int=>UInt8.ofNat n.toNat)∘fun i=>(l.getD i .aV).num)=fun i=>UInt8.ofNat (l.getD i .aV).num.toNat:=rfl
     rw [az,ah]
     have:=BW (l.map byteOf) (by simpa using dI)
     simpa using this
 · cases h
end
end Go.bg
end
section
namespace Go.bg
open Go
section
variable {P:Program} {w:World} {lim:Nat→Nat}
theorem Gk {b off:Nat} {f:Field} (hu:eV P f.type=true) (aM:P.cellsOf f.type≠0):(fieldPlace ⟨b,off,none⟩ f).run P w= .ok ⟨b,off+f.offset,none⟩ w:=by
 simp [fieldPlace,mj hu,aM,addr_add]
theorem Nn (l:List ab) (off i:Nat):(l.drop off).getD i .aV=l.getD (off+i) .aV:=by
 simp [List.getD_eq_getElem?_getD]
theorem Gl {m:ae} {a:Operand→ab} {ca:Act} {o:Oper} {s:TypeId} {y:Operand} {f:Nat} (aL:o.op= .fieldAddr s y f) {side:Prop} {x:ab} (h:bS P m a (.fieldAddr s y f)=some (side,x)) (aw:side)
 (aK:aN w lim (ca.eval y) (a y) []):ni P w lim ca o x:=by
 simp only [bS] at h
 generalize he:ca.eval y=e at aK
 split at h
 · next c6 jJ=>
   split at h
   · next fd uz=>
     split at h
     · next l fx=>
       obtain ⟨rfl,rfl⟩:=some_inj h
       obtain ⟨J,aa,aj⟩:=aw
       rw [fx] at aK
       cases aK with
       |ref b off l cv av ao aA=>
        refine ⟨.pointer (some ⟨b,off+fd.offset,none⟩),by simp [execOp,aL,he,Instr.fieldAt,fV jJ,uz,Instr.sureAddr,Gk J aa],?_⟩
        exact .ref b (off+fd.offset) (l.drop fd.offset) (fun i=>cv (fd.offset+i)) (by simp;omega) (fun i ad=>by
         simp at ad;rw [Nat.add_assoc];exact ao _ (by omega)) (fun i ad=>by simp at ad;rw [Nn];exact aA _ (by omega))
     · next b off fx=>
       obtain ⟨rfl,rfl⟩:=some_inj h
       rw [fx] at aK
       have:=rj aK
       subst this
       exact ⟨.pointer (some ⟨b,off+fd.offset,none⟩),by simp [execOp,aL,he,Instr.fieldAt,fV jJ,uz,Instr.sureAddr,Gk aw.1 aw.2], .ptr _⟩
     · cases h
   · cases h
 · cases h
theorem No {m:ae} {a:Operand→ab} {ca:Act} {o:Oper} {s:TypeId} {y:Operand} {f:Nat} (aL:o.op= .field s y f) {side:Prop} {x:ab} (h:bS P m a (.field s y f)=some (side,x)) (aw:side)
 (aK:aN w lim (ca.eval y) (a y) []):ni P w lim ca o x:=by
 simp only [bS] at h
 generalize he:ca.eval y=e at aK
 split at h
 · next c6 jJ=>
   split at h
   · next fd l uz fx=>
     obtain ⟨rfl,rfl⟩:=some_inj h
     rw [fx] at aK
     obtain ⟨cs,rfl,J,aa⟩:=Nb aK
     obtain ⟨v,aj,aG⟩:=M9 (P:=P) aw J aa
     exact ⟨v,by simp [execOp,aL,he,Instr.field,fV jJ,uz,asAgg,aj],aG⟩
   · cases h
 · cases h
theorem wZ {v:Value} {a:Addr} {n c:Nat} {o:List Nat} (h:aN w lim v (.ms a n c) o):v= .slice (some a) n c∧n≤c∧c≤maxLen:=by cases h;exact ⟨rfl,‹_›,‹_›⟩
theorem Np {m:ae} {a:Operand→ab} {ca:Act} {o:Oper} {t:TypeId} {y i:Operand} (aL:o.op= .indexAddr t y i) {side:Prop} {x:ab} (h:bS P m a (.indexAddr t y i)=some (side,x)) (aw:side)
 (aK:aN w lim (ca.eval y) (a y) []) (ad:aN w lim (ca.eval i) (a i) []):ni P w lim ca o x:=by
 simp only [bS] at h
 generalize he:ca.eval y=e at aK
 generalize y9:ca.eval i=Nq at ad
 split at h
 · next el oL=>
   split at h
   · next own l k n jo w0=>
     obtain ⟨rfl,rfl⟩:=some_inj h
     obtain ⟨J,aa,aj,aG,aR⟩:=aw
     rw [jo] at aK;rw [w0] at ad
     obtain ⟨rfl,_,_⟩:=mm ad
     have cl:n.toNat<l.length:=by omega
     rcases wX (y7 aK) with ⟨rfl,_⟩|⟨rfl,_⟩|⟨b,off,cap,sz,cv,rfl,fB,hm,dI,cF,fU,ao,aA⟩
     · simp at cl
     · simp at cl
     · have ak:sz=P.cellsOf el:=by rw [←cF _ cl,aR]
       refine ⟨.pointer (some ⟨b,off+n.toNat*P.cellsOf el,none⟩),?_,?_⟩
       · simp [execOp,aL,he,y9,Instr.indexAt,asIntOf,fV oL,aj,aG,mj J,addr_add]
       · refine .ref b _ _ (cv n.toNat) ?_ (fun j aD=>?_) (fun j aD=>?_)
         · rw [aR,ak.symm]
           have:n.toNat*sz+sz≤l.length*sz:=by rw [←Nat.succ_mul];exact Nat.mul_le_mul_right _ cl
           omega
         · rw [aR,←ak] at aD;rw [←ak];exact ao _ j cl aD
         · rw [aR,←ak] at aD;exact aA _ j cl aD
   · next b off len cap k n jo w0=>
     obtain ⟨rfl,rfl⟩:=some_inj h
     obtain ⟨J,aj,aG⟩:=aw
     rw [jo] at aK;rw [w0] at ad
     obtain ⟨rfl,_,_⟩:=mm ad
     obtain ⟨rfl,_,_⟩:=wZ aK
     refine ⟨.pointer (some ⟨b,off+n.toNat*P.cellsOf el,none⟩),?_, .ptr _⟩
     simp [execOp,aL,he,y9,Instr.indexAt,asIntOf,fV oL,aj,aG,mj J,addr_add]
   · cases h
 · cases h
theorem Nr {m:ae} {a:Operand→ab} {ca:Act} {o:Oper} {t:TypeId} {y i:Operand} (aL:o.op= .index t y i) {side:Prop} {x:ab} (h:bS P m a (.index t y i)=some (side,x)) (aw:side)
 (aK:aN w lim (ca.eval y) (a y) []) (ad:aN w lim (ca.eval i) (a i) []):ni P w lim ca o x:=by
 simp only [bS] at h
 generalize he:ca.eval y=e at aK
 generalize y9:ca.eval i=Nq at ad
 split at h
 · next l k n hu jo w0=>
   obtain ⟨rfl,rfl⟩:=some_inj h
   obtain ⟨aj,aG⟩:=aw
   rw [jo] at aK;rw [w0] at ad
   obtain ⟨rfl,_,_⟩:=mm ad
   obtain ⟨s,rfl,rfl,cF⟩:=BU aK
   have cl:n.toNat<s.data.size:=by simp only [Array.length_toList] at aG;omega
   refine ⟨.int .u8 (s.data[n.toNat]).toNat,?_,?_⟩
   · have bc:s[n.toNat]?=some (s.data[n.toNat]):=by
      rw [getElem?_pos s n.toNat cl];rfl
     simp [execOp,aL,he,y9,Instr.index,asIntOf,fV hu,aj,bc]
   · have aF:s.data.toList.getD n.toNat 0=s.data[n.toNat]:=by rw [List.getD_eq_getElem?_getD,Array.getElem?_toList,Array.getElem?_eq_getElem cl,Option.getD_some]
     rw [aF]
     have:=(s.data[n.toNat]).toNat_lt
     exact .int .u8 _ (by simp [IntKind.min,IntKind.signed]) (by simp [IntKind.max,IntKind.signed,IntKind.bits];omega)
 · cases h
theorem Ns {m:ae} {a:Operand→ab} {ca:Act} {o:Oper} {y:Operand} {i:Nat} (aL:o.op= .extract y i) {side:Prop} {x:ab} (h:bS P m a (.extract y i)=some (side,x)) (aw:side)
 (aK:aN w lim (ca.eval y) (a y) []):ni P w lim ca o x:=by
 simp only [bS] at h
 generalize he:ca.eval y=e at aK
 split at h
 · next l fx=>
   obtain ⟨rfl,rfl⟩:=some_inj h
   rw [fx] at aK
   obtain ⟨cs,rfl,J,aa⟩:=Nd aK
   have ad:i<cs.size:=by rw [J];exact aw
   refine ⟨cs.getD i undef,?_,aa i aw⟩
   simp [execOp,aL,he,Instr.extract,ad]
 · cases h
theorem Gm {a:Operand→ab} {ca:Act} {ba:Option Operand} {d:Nat} {p:Int} (h:k7 (ba.map a) d=some p) (aA:∀y,ba=some y→aN w lim (ca.eval y) (a y) []):
 (ba=none∧p=d)∨(∃y k,ba=some y∧ca.eval y= .int k p):=by
 cases ba with
 |none=>simp [k7] at h;exact .inl ⟨rfl,h.symm⟩
 |some y=>
  have:=aA y rfl
  simp only [Option.map_some,k7] at h
  split at h
  · next qh=>cases qh
  · next k n jo=>
    simp at h;subst h
    simp at jo
    rw [jo] at this
    exact .inr ⟨y,k,rfl,(mm this).1⟩
  · cases h
theorem w1 (za:Bool) (len cap:Nat) {a:Operand→ab} {ca:Act} {ba ad:Option Operand} {p q:Int} (aQ:k7 (ba.map a) 0=some p) (aU:k7 (ad.map a) len=some q)
 (kG:∀y,ba=some y→aN w lim (ca.eval y) (a y) []) (nh:∀y,ad=some y→aN w lim (ca.eval y) (a y) []) (aJ:0≤p) (J:p≤q) (aa:q≤cap):
 (Instr.sliceBounds za len cap (ba.map ca.eval) (ad.map ca.eval) none).run P w= .ok (p.toNat,q.toNat,cap) w:=by
 have aF:(p≤(q.toNat:Int)):=by omega
 rcases Gm aQ kG with ⟨rfl,rfl⟩|⟨y,k,rfl,aK⟩<;>rcases Gm aU nh with ⟨rfl,rfl⟩|⟨po,en,rfl,qf⟩
 · simp [Instr.sliceBounds]
 · simp [Instr.sliceBounds,Instr.sliceBound,qf,asIntOf,show 0≤q from by omega,aa]
 · simp [Instr.sliceBounds,Instr.sliceBound,aK,asIntOf,aJ,J]
 · have az:((q.toNat:Nat):Int)=q:=by omega
   simp only [Instr.sliceBounds,Instr.sliceBound,Option.map_some,Sem.run_bind,Sem.run_pure,Result.andThen_ok,aK,qf,asIntOf,Sem.run_ite,az,aJ,J,aa,show 0≤q from by omega,and_self,if_true]
theorem Nt {m:ae} {a:Operand→ab} {ca:Act} {o:Oper} {t:TypeId} {y:Operand} {ba ad:Option Operand} (aL:o.op= .slice t y ba ad none) {side:Prop} {x:ab} (h:bS P m a (.slice t y ba ad none)=some (side,x)) (aw:side)
 (aK:aN w lim (ca.eval y) (a y) []) (kG:∀y,ba=some y→aN w lim (ca.eval y) (a y) []) (nh:∀y,ad=some y→aN w lim (ca.eval y) (a y) []):ni P w lim ca o x:=by
 simp only [bS] at h
 generalize he:ca.eval y=e at aK
 split at h
 · next l hu jo=>
   split at h
   · next p q aQ aU=>
     obtain ⟨rfl,rfl⟩:=some_inj h
     obtain ⟨aJ,J,aa⟩:=aw
     rw [jo] at aK
     obtain ⟨s,rfl,rfl,cF⟩:=BU aK
     have ah:=w1 (P:=P) (w:=w) false s.size s.size aQ (by simpa using aU) kG nh aJ J (by simpa using aa)
     refine ⟨.string (s.extract p.toNat q.toNat),?_,?_⟩
     · simp [execOp,aL,he,Instr.sliceAt,Instr.slice,fV hu,ah]
     · have:=aN.str (w:=w) (lim:=lim) (s.extract p.toNat q.toNat) (by simp;omega)
       have az:(s.extract p.toNat q.toNat).data.toList=(s.data.toList.drop p.toNat).take (q- p).toNat:=by
        simp [show q.toNat- p.toNat=(q- p).toNat from by omega]
       rw [az] at this;exact this
   · cases h
 · next el own l hu jo=>
   split at h
   · next p q aQ aU=>
     obtain ⟨rfl,rfl⟩:=some_inj h
     obtain ⟨j2,aJ,J,aa,kH⟩:=aw
     rw [jo] at aK
     rcases wX (y7 aK) with ⟨rfl,rfl⟩|⟨rfl,qg,cap,rfl,hm⟩|⟨b,off,cap,sz,cv,rfl,fB,hm,dI,cF,fU,ao,aA⟩
     · have ah:=w1 (P:=P) (w:=w) true 0 0 aQ (by simpa using aU) kG nh aJ J (by simpa using aa)
       have aF:p.toNat=0:=by simp at aa;omega
       have az:q.toNat=0:=by simp at aa;omega
       refine ⟨.slice none 0 0,?_,by simpa using aN.gb false⟩
       simp [execOp,aL,he,Instr.sliceAt,Instr.slice,fV hu,ah,mj j2,aF,az]
     · have ah:=w1 (P:=P) (w:=w) true 0 cap aQ (by simpa using aU) kG nh aJ J (by simp at aa;omega)
       have aF:p.toNat=0:=by simp at aa;omega
       have az:q.toNat=0:=by simp at aa;omega
       refine ⟨_,by simp only [execOp,aL,he,Option.map_none,Instr.sliceAt,Instr.slice,fV hu,Sem.run_bind,Result.andThen_ok,ah,mj j2];rfl,?_⟩
       simp only [aF,az,List.drop_nil,List.take_nil,Nat.sub_self]
       split
       · exact .empty _ _ (by omega)
       · simp;exact .empty _ _ (by omega)
     · have ah:=w1 (P:=P) (w:=w) true l.length cap aQ aU kG nh aJ J (by omega)
       have aM:q.toNat- p.toNat=(q- p).toNat:=by omega
       have hlen:((l.drop p.toNat).take (q- p).toNat).length=(q- p).toNat:=by simp;omega
       have lJ:∀i,i<(q- p).toNat→((l.drop p.toNat).take (q- p).toNat).getD i .aV=l.getD (p.toNat+i) .aV:=fun i ad=>BQ _ _ _ _ ad
       by_cases uA:cap=p.toNat
       · subst uA
         have ak:(q- p).toNat=0:=by omega
         refine ⟨.slice (some ⟨b,off,none⟩) 0 0,?_,?_⟩
         · simp [execOp,aL,he,Instr.sliceAt,Instr.slice,fV hu,ah,mj j2,aM,ak]
         · rw [ak];exact .empty _ _ (by omega)
       · refine ⟨.slice (some ⟨b,off+p.toNat*P.cellsOf el,none⟩) (q- p).toNat (cap- p.toNat),?_,?_⟩
         · simp [execOp,aL,he,Instr.sliceAt,Instr.slice,fV hu,ah,mj j2,aM,uA,addr_add]
         · by_cases ak:(q- p).toNat=0
           · rw [ak];exact .empty _ _ (by omega)
           · have rl:sz=P.cellsOf el:=by
              have Gn:0<l.length:=by omega
              rw [←cF 0 Gn]
              exact kH _ (by simp [List.getD_eq_getElem?_getD,Gn])
             subst rl
             have hmul:p.toNat*P.cellsOf el+(q- p).toNat*P.cellsOf el≤l.length*P.cellsOf el:=by
              rw [←Nat.add_mul];exact Nat.mul_le_mul_right _ (by omega)
             refine .slice b _ _ _ (P.cellsOf el) _ (fun i j=>cv (p.toNat+i) j) hlen (by omega) (by omega) (by omega) (fun i ad=>by rw [lJ i ad];exact cF _ (by omega)) (by omega)
              (fun i j ad aD=>?_) (fun i j ad aD=>by rw [lJ i ad];exact aA _ j (by omega) aD)
             have:=ao (p.toNat+i) j (by omega) aD
             rw [Nat.add_mul,←Nat.add_assoc] at this
             exact this
   · cases h
 · next el b off len cap hu jo=>
   split at h
   · next p q aQ aU=>
     obtain ⟨rfl,rfl⟩:=some_inj h
     obtain ⟨j2,aJ,J,aa⟩:=aw
     rw [jo] at aK
     obtain ⟨rfl,Wr,nf⟩:=wZ aK
     have ah:=w1 (P:=P) (w:=w) true len cap aQ aU kG nh aJ J (by omega)
     have aM:q.toNat- p.toNat=(q- p).toNat:=by omega
     by_cases aj:¬p<cap
     · rw [if_neg aj]
       have uA:cap=p.toNat:=by omega
       have ak:(q- p).toNat=0:=by omega
       refine ⟨.slice (some ⟨b,off,none⟩) 0 0,?_, .oF _⟩
       have qi:(cap=p.toNat)=True:=eq_true uA
       have uB:cap- p.toNat=0:=by omega
       simp only [execOp,aL,he,Instr.sliceAt,Instr.slice,Sem.run_bind,fV hu,ah,mj j2,aM,ak,qi,uB,Result.andThen_ok,Sem.run_pure,if_true]
       simp [ah,mj j2,aM,ak,qi,uB]
     rw [if_pos (Decidable.not_not.1 aj)]
     have uA:¬cap=p.toNat:=by omega
     refine ⟨.slice (some ⟨b,off+p.toNat*P.cellsOf el,none⟩) (q- p).toNat (cap- p.toNat),?_, .ms _ _ _ (by omega) (by omega)⟩
     simp [execOp,aL,he,Instr.sliceAt,Instr.slice,fV hu,ah,mj j2,aM,uA,addr_add]
   · cases h
 · cases h
theorem Nu {b:Nat} {l:List (ab×ab)} {os:Nat→List Nat} (h:kh w lim b (.map l) os):∃(es:Array MapEntry) (clock:Nat),w.heap[b]?=some (.map es clock)∧es.size=l.length∧l.length≤140737488355328∧
 (∀i,i<l.length→aN w lim (es.getD i default).key (l.getD i (.aV, .aV)).1 [])∧(∀i,i<l.length→aN w lim (es.getD i default).val (l.getD i (.aV, .aV)).2 [])∧
 (∀i j,i<j→j<l.length→(es.getD i default).born<(es.getD j default).born)∧(∀i,i<l.length→(es.getD i default).born<clock):=by
 cases h with
 |map es clock l ah aw dI al bw J aa _=>exact ⟨es,clock,ah,aw,dI,al,bw,J,aa⟩
theorem run_getObj_map {b:Nat} {es:Array MapEntry} {clock:Nat} (h:w.heap[b]?=some (.map es clock)):(getObj b).run P w= .ok (.map es clock) w:=by
 simp [getObj,Sem.run,h]
theorem Nv {m:ae} {a:Operand→ab} {ca:Act} {o:Oper} {args:Array Operand} {di:Array TypeId} (aL:o.op= .call ⟨.builtin .len,args,di⟩) {side:Prop} {x:ab}
 (h:bS P m a (.call ⟨.builtin .len,args,di⟩)=some (side,x)) (aw:side)
 (aA:∀y∈args.toList,aN w lim (ca.eval y) (a y) []) (hm:∀b hf,m b=some hf→∃os,kh w lim b hf os):ni P w lim ca o x:=by
 simp only [bS] at h
 split at h
 · next y t jo uC=>
   have aK:=aA y (by rw [Array.mem_toList_iff];exact Array.mem_of_getElem? jo)
   generalize he:ca.eval y=e at aK
   have j3:(args.map ca.eval)[0]?=some e:=by simp [jo,he]
   have fin:∀v,(Builtin.len_ di o.type (args.map ca.eval)).run P w= .ok v w→∀x,aN w lim v x []→ni P w lim ca o x:=fun v J x aa=>
    ⟨v,by simp [execOp,aL,resolve,invoke,builtin,J],aa⟩
   have w2:∀n:Nat,n≤140737488355328→aN w lim (goInt n) (.int .i64 n) []:=fun n aM=>
    .int .i64 n (by simp [IntKind.min,IntKind.signed,IntKind.bits]) (by simp [IntKind.max,IntKind.signed,IntKind.bits];omega)
   split at h
   · next l hu fx=>
     obtain ⟨rfl,rfl⟩:=some_inj h
     rw [fx] at aK
     obtain ⟨s,rfl,rfl,cF⟩:=BU aK
     refine fin (goInt s.size) (by simp [Builtin.len_,uC,j3,fV hu]) _ ?_
     have:=w2 s.size cF
     simpa using this
   · next el own l hu fx=>
     obtain ⟨rfl,rfl⟩:=some_inj h
     rw [fx] at aK
     obtain ⟨qg,cap,rfl,av⟩:=BT (y7 aK)
     exact fin (goInt l.length) (by simp [Builtin.len_,uC,j3,fV hu]) _ (w2 _ av)
   · next el p n c hu fx=>
     obtain ⟨rfl,rfl⟩:=some_inj h
     rw [fx] at aK
     obtain ⟨rfl,_,_⟩:=wZ aK
     exact fin (goInt n) (by simp [Builtin.len_,uC,j3,fV hu]) _ (.int .i64 n (by simp [IntKind.min,IntKind.signed,IntKind.bits]) (by simp [IntKind.max,IntKind.signed,IntKind.bits];omega))
   · next el hu fx=>
     obtain ⟨rfl,rfl⟩:=some_inj h
     rw [fx] at aK
     have:∃a0,e= .slice a0 0 0:=by cases aK;exact ⟨_,rfl⟩
     obtain ⟨a0,rfl⟩:=this
     exact fin (goInt 0) (by simp [Builtin.len_,uC,j3,fV hu]) _ (by simpa using w2 0 (by omega))
   · next Nw Nx hu fx=>
     obtain ⟨rfl,rfl⟩:=some_inj h
     rw [fx] at aK
     have:e= .map none:=by cases aK;rfl
     subst this
     exact fin (goInt 0) (by simp [Builtin.len_,uC,j3,fV hu]) _ (by simpa using w2 0 (by omega))
   · next Nw Nx b hu fx=>
     split at h
     · next l ah=>
       obtain ⟨rfl,rfl⟩:=some_inj h
       rw [fx] at aK
       have:e= .map (some b):=by cases aK;rfl
       subst this
       obtain ⟨os,gu⟩:=hm _ _ ah
       obtain ⟨es,clock,J,aa,aj,_⟩:=Nu gu
       exact fin (goInt l.length) (by simp [Builtin.len_,uC,j3,fV hu,run_getObj_map J,aa]) _ (w2 _ aj)
     · cases h
   · cases h
 · cases h
theorem Ny {t:TypeId} {v:Value} (h:(P.info? t).bind (·.zero)=some v):(zeroValue t).run P w= .ok v w:=by
 cases ad:P.info? t with
 |none=>simp [ad] at h
 |some i=>simp [ad] at h;simp [zeroValue,typeInfo,ad,h]
theorem zb {m:ae} {a:Operand→ab} {ca:Act} {o:Oper} {side:Prop} {x:ab} (h:bS P m a o.op=some (side,x)) (aw:side)
 (aA:∀y∈o.op.operands.toList,aN w lim (ca.eval y) (a y) []) (hm:∀b hf,m b=some hf→∃os,kh w lim b hf os):ni P w lim ca o x:=by
 cases aL:o.op with
 |move y=>
  rw [aL] at h aA
  obtain ⟨rfl,rfl⟩:=some_inj h
  exact ⟨_,by simp [execOp,aL],aA y (by simp [Op.operands])⟩
 |assign y=>
  rw [aL] at h aA
  obtain ⟨rfl,rfl⟩:=some_inj h
  exact ⟨_,by simp [execOp,aL],aA y (by simp [Op.operands])⟩
 |pick c p q=>rw [aL] at h aA;exact Nf aL h aw (aA c (by simp [Op.operands])) (aA p (by simp [Op.operands])) (aA q (by simp [Op.operands]))
 |load t y=>rw [aL] at h aA;exact Ng aL h aw (aA y (by simp [Op.operands])) hm
 |nilCheck y=>
  rw [aL] at h aA
  have aK:=aA y (by simp [Op.operands])
  generalize he:ca.eval y=e at aK
  simp only [bS] at h
  split at h
  · next l fx=>
    obtain ⟨rfl,rfl⟩:=some_inj h
    rw [fx] at aK
    cases aK with
    |ref b off l cv av ao aA=>exact ⟨_,by simp only [execOp,aL,he,Sem.run_pure], .ref b off l cv av ao aA⟩
  · next p fx=>
    obtain ⟨rfl,rfl⟩:=some_inj h
    rw [fx] at aK
    obtain rfl:=rj aK
    exact ⟨_,by simp only [execOp,aL,he,Sem.run_pure], .ptr p⟩
  · next f b c fx=>
    obtain ⟨rfl,rfl⟩:=some_inj h
    rw [fx] at aK
    cases aK with
    |func fn eG eM bL gj J aa aj aG=>exact ⟨.func (.func f) eG eM,by simp only [execOp,aL,he,Sem.run_pure], .func _ eG eM b c J ‹_› aj aG⟩
  · cases h
 |binOp op t y z t2=>
  rw [aL] at h aA
  obtain ⟨v,J,aa⟩:=M6 (P:=P) (w:=w) (lim:=lim) h aw (aA y (by simp [Op.operands])) (aA z (by simp [Op.operands]))
  exact ⟨v,by simp only [execOp,aL,Sem.run_bind,Result.andThen_ok] at J ⊢;rw [J];rfl,aa⟩
 |unOp op t y=>
  rw [aL] at h aA
  have aK:=aA y (by simp [Op.operands])
  generalize he:ca.eval y=e at aK
  simp only [bS] at h
  split at h
  · next b fx=>
    obtain ⟨rfl,rfl⟩:=some_inj h
    rw [fx] at aK
    obtain rfl:=uy aK
    exact ⟨_,by simp only [execOp,aL,he,Op.unary,Sem.run_bind,Sem.run_pure,Result.andThen_ok], .bool _⟩
  · next k n fx=>
    obtain ⟨rfl,rfl⟩:=some_inj h
    rw [fx] at aK
    obtain ⟨rfl,_,_⟩:=mm aK
    exact ⟨_,by simp only [execOp,aL,he,Op.unary,Op.intArith,Sem.run_bind,Sem.run_pure,Result.andThen_ok], .int _ _ (nY _ _).1 (nY _ _).2⟩
  · cases h
 |convert s d y=>rw [aL] at h aA;exact Nh aL h aw (aA y (by simp [Op.operands]))
 |makeInterface t y=>
  rw [aL] at h aA
  have aK:=aA y (by simp [Op.operands])
  simp only [bS] at h
  split at h
  · cases h
  · next d k9 hu=>
    obtain ⟨rfl,rfl⟩:=some_inj h
    refine ⟨.iface t (ca.eval y),?_, .iface _ _ _ aK⟩
    cases d<;>first|exact (k9 _ rfl).elim|simp [execOp,aL,Instr.makeInterface,fV hu]
  · cases h
 |fieldAddr s y f=>rw [aL] at h aA;exact Gl aL h aw (aA y (by simp [Op.operands]))
 |field s y f=>rw [aL] at h aA;exact No aL h aw (aA y (by simp [Op.operands]))
 |indexAddr t y i=>rw [aL] at h aA;exact Np aL h aw (aA y (by simp [Op.operands])) (aA i (by simp [Op.operands]))
 |index t y i=>rw [aL] at h aA;exact Nr aL h aw (aA y (by simp [Op.operands])) (aA i (by simp [Op.operands]))
 |extract y i=>rw [aL] at h aA;exact Ns aL h aw (aA y (by simp [Op.operands]))
 |slice t y ba ad BX=>
  cases BX with
  |some z=>rw [aL] at h;simp [bS] at h
  |none=>
   rw [aL] at h aA
   exact Nt aL h aw (aA y (by simp [Op.operands])) (fun z ak=>aA z (by simp [Op.operands,ak])) (fun z ak=>aA z (by simp [Op.operands,ak]))
 |typeAssert y t u ok=>
  cases ok with
  |false=>rw [aL] at h;simp [bS] at h
  |true=>
   rw [aL] at h aA
   have aK:=aA y (by simp [Op.operands])
   generalize he:ca.eval y=e at aK
   simp only [bS] at h
   split at h
   · cases h
   · next d z mi v k9 hu fx=>
     split at h
     · next heq=>
       subst heq
       obtain ⟨rfl,rfl⟩:=some_inj h
       rw [fx] at aK
       cases aK with
       |iface _ lK _ bw=>
        refine ⟨.tuple #[lK, .bool true],?_,?_⟩
        · cases d<;>first|exact (k9 _ _ rfl).elim|exact (k9 _ rfl).elim|simp [execOp,aL,he,Instr.typeAssert,fV hu]
        · have:=aN.tuple (w:=w) (lim:=lim) #[lK, .bool true] [v, .bool true] (fun _=>[]) (by simp) (fun i ad=>by
           have:i=0∨i=1:=by simp at ad;omega
           rcases this with rfl|rfl
           · exact bw
           · exact .bool true)
          rw [flatMap_nil] at this
          exact this
     · cases h
   · next d z mi e k9 hu fx=>
     split at h
     · next heq=>
       subst heq
       obtain ⟨rfl,rfl⟩:=some_inj h
       rw [fx] at aK
       have da:∀(n:Int) (b:Bool),IntKind.i64.min≤n→n≤IntKind.i64.max→aN w lim (.tuple #[.int .i64 n, .bool b]) (.tuple [.int .i64 n, .bool b]) []:=fun n b ba ad=>by
        have:=aN.tuple (w:=w) (lim:=lim) #[.int .i64 n, .bool b] [.int .i64 n, .bool b] (fun _=>[]) (by simp) (fun i ad=>by
         have:i=0∨i=1:=by simp at ad;omega
         rcases this with rfl|rfl
         · exact .int _ _ ba ‹_›
         · exact .bool b)
        rw [flatMap_nil] at this
        exact this
       cases aK with
       |mf _=>
        refine ⟨.tuple #[.int .i64 0, .bool false],?_,da 0 false (by decide) (by decide)⟩
        cases d<;>first|exact (k9 _ _ rfl).elim|exact (k9 _ rfl).elim|(simp only [execOp,aL,he,Instr.typeAssert,Sem.run_bind,fV hu,Result.andThen_ok,if_true,Ny aw];rfl)
       |jn _ _ aJ ba ad=>
        refine ⟨.tuple #[.int .i64 e, .bool true],?_,(show (!(e==0))=true from by simp [aJ])▸da e true ba ad⟩
        cases d<;>first|exact (k9 _ _ rfl).elim|exact (k9 _ rfl).elim|simp [execOp,aL,he,Instr.typeAssert,fV hu]
     · cases h
   · cases h
 |call c=>
  obtain ⟨BY,args,di⟩:=c
  rw [aL] at h aA
  cases BY with
  |value f=>simp [bS] at h
  |invoke r n=>simp [bS] at h
  |builtin b=>
   have jK:∀y∈args.toList,aN w lim (ca.eval y) (a y) []:=fun y aK=>aA y (by simpa [Op.operands,Call.operands] using aK)
   cases b with
   |len=>exact Nv aL h aw jK hm
   |max=>
    simp only [bS] at h
    split at h
    · next y z nj=>
      have aK:=jK y (by rw [nj];simp)
      have ak:=jK z (by rw [nj];simp)
      split at h
      · next k p en q jo BZ=>
        split at h
        · next al=>
          subst al
          obtain ⟨rfl,rfl⟩:=some_inj h
          rw [jo] at aK;rw [BZ] at ak
          obtain ⟨aF,hC,jg⟩:=mm aK
          obtain ⟨az,hd,iW⟩:=mm ak
          have j3:(args.map ca.eval).toList=[.int k p, .int k q]:=by simp [nj,aF,az]
          refine ⟨.int k (if q>p then q else p),?_,?_⟩
          · simp [execOp,aL,resolve,invoke,builtin,Builtin.max_,nj,aF,az,Builtin.max2]
          · by_cases ao:q>p
            · rw [if_pos ao];exact .int k q hd iW
            · rw [if_neg ao];exact .int k p hC jg
        · cases h
      · cases h
    · cases h
   |min=>
    simp only [bS] at h
    split at h
    · next y z nj=>
      have aK:=jK y (by rw [nj];simp)
      have ak:=jK z (by rw [nj];simp)
      split at h
      · next k p en q jo BZ=>
        split at h
        · next al=>
          subst al
          obtain ⟨rfl,rfl⟩:=some_inj h
          rw [jo] at aK;rw [BZ] at ak
          obtain ⟨aF,hC,jg⟩:=mm aK
          obtain ⟨az,hd,iW⟩:=mm ak
          have j3:(args.map ca.eval).toList=[.int k p, .int k q]:=by simp [nj,aF,az]
          refine ⟨.int k (if q<p then q else p),?_,?_⟩
          · simp [execOp,aL,resolve,invoke,builtin,Builtin.min_,nj,aF,az,Builtin.min2]
          · by_cases ao:q<p
            · rw [if_pos ao];exact .int k q hd iW
            · rw [if_neg ao];exact .int k p hC jg
        · cases h
      · cases h
    · cases h
   |_=>simp [bS] at h
 |_=>rw [aL] at h;simp [bS] at h
end
end Go.bg
end
section
namespace Go.bg
open Go
def fp (n:Nat) (o:Oper):Bool:=(match o.dst with|some d=>decide (d<n)|none=>true)&&o.op.operands.toList.all k6
def b6 (P:Program) (n:Nat) (ops:Array Oper) (l:List Oper) (K:Fr→ae→Prop) (fr:Fr) (m:ae):Prop:=
 ∀F lim w ca Q,bd F lim w n fr m ca []→(∀lim' w' bf m' eM,K bf m'→bd F lim' w' n bf m' eM []→dW F w lim w' lim'→Q Exit.normal eM w')→wpList P ops Q l ca w
def oM (F:Nat→Prop) (lim:Nat→Nat) (w:World) (n:Nat) (Q:Exit→Fr→ae→Prop):Exit→Act→World→Prop:=
 fun e eM w'=>∃lim' bf m',Q e bf m'∧bd F lim' w' n bf m' eM []∧dW F w lim w' lim'
def dS (P:Program) (n:Nat) (c:Code) (Q:Exit→Fr→ae→Prop) (fr:Fr) (m:ae):Prop:=
 ∀F lim w ca,bd F lim w n fr m ca []→c.wp P (oM F lim w n Q) ca w
def B0 (next:Fr→ae→Prop) (Q:Exit→Fr→ae→Prop):Exit→Fr→ae→Prop
 | .normal,fr,m=>next fr m
 |e,fr,m=>Q e fr m
def B1 (id:Nat) (Q:Exit→Fr→ae→Prop):Exit→Fr→ae→Prop
 | .exit B2,fr,m=>if B2=id then Q .normal fr m else Q (.exit B2) fr m
 |e,fr,m=>Q e fr m
def nZ:Act:=⟨#[],[]⟩
def bh (P:Program) (f:FuncId) (args:List ab) (m:ae) (K:ab→ae→Prop):Prop:=
 (∃fn,P.funcs[f]?=some fn∧fn.body.isSome=true∧(fn.name== "runtime.NumGoroutine")=false)∧
 ∀F lim w (cargs:Array Value),cargs.size=args.length→(∀i,i<args.length→aN w lim (cargs.getD i undef) (args.getD i .aV) [])→bd F lim w 0 [] m nZ []→
  Calls P f cargs w fun e w'=>∃v x lim' m' os,e= .returned v∧K x m'∧aN w' lim' v x os∧bd F lim' w' 0 [] m' nZ os∧dW F w lim w' lim'
theorem bh.mono {P:Program} {f:FuncId} {args:List ab} {m:ae} {K jq:ab→ae→Prop} (h:bh P f args m K) (al:∀x m',K x m'→jq x m'):bh P f args m jq:=
 ⟨h.1,fun F lim w cargs J aa aj=>(h.2 F lim w cargs J aa aj).mono fun e w' ⟨v,x,lim',m',os,he,U,r⟩=>⟨v,x,lim',m',os,he,al _ _ U,r⟩⟩
section
variable {P:Program} {n:Nat} {Q:Exit→Fr→ae→Prop} {fr:Fr} {m:ae}
theorem dS.mono {c:Code} {hX:Exit→Fr→ae→Prop} (h:dS P n c Q fr m) (aU:∀e fr m,Q e fr m→hX e fr m):dS P n c hX fr m:=
 fun F lim w ca st=>wp_mono (h F lim w ca st) fun e a w ⟨lim',bf,m',q,r⟩=>⟨lim',bf,m',aU _ _ _ q,r⟩
theorem oM.from {F:Nat→Prop} {lim lim':Nat→Nat} {w w':World} (aQ:dW F w lim w' lim') {e:Exit} {a:Act} {iH:World} (h:oM F lim' w' n Q e a iH):oM F lim w n Q e a iH:=by
 obtain ⟨l,f,m,q,st,fg⟩:=h
 exact ⟨l,f,m,q,st,aQ.trans fg⟩
theorem Gp (h:Q .normal fr m):dS P n .skip Q fr m:=fun F lim w ca st=>wp_skip ⟨lim,fr,m,h,st, .refl _ _ _⟩
theorem B3 (h:Q .ret fr m):dS P n .ret Q fr m:=fun F lim w ca st=>wp_ret ⟨lim,fr,m,h,st, .refl _ _ _⟩
theorem Nz {id:Nat} (h:Q (.exit id) fr m):dS P n (.exit id) Q fr m:=fun F lim w ca st=>wp_exit ⟨lim,fr,m,h,st, .refl _ _ _⟩
theorem Gq {x y:Code} (h:dS P n x (B0 (dS P n y Q) Q) fr m):dS P n (.seq x y) Q fr m:=fun F lim w ca st=>
 wp_seq (wp_mono (h F lim w ca st) fun e a w' ⟨lim',bf,m',q,gE,fg⟩=>by
  cases e with
  |normal=>exact wp_mono (q F lim' w' a gE) fun e a iH h=>h.from fg
  |_=>exact ⟨lim',bf,m',q,gE,fg⟩)
theorem B4 {x y:Code} (h:∀K:Fr→ae→Prop,(∀fr m,dS P n y Q fr m→K fr m)→dS P n x (B0 K Q) fr m):dS P n (.seq x y) Q fr m:=
 Gq (h _ fun _ _ h=>h)
theorem NA {id:Nat} {c:Code} (h:dS P n c (B1 id Q) fr m):dS P n (.block id c) Q fr m:=fun F lim w ca st=>
 wp_block (wp_mono (h F lim w ca st) fun e a w' ⟨lim',bf,m',q,gE,fg⟩=>by
  cases e with
  |exit B2=>
   simp only [Exit.inBlock,B1] at q ⊢
   split at q
   · rename_i h;rw [if_pos h];exact ⟨lim',bf,m',q,gE,fg⟩
   · rename_i h;rw [if_neg h];exact ⟨lim',bf,m',q,gE,fg⟩
  |_=>exact ⟨lim',bf,m',q,gE,fg⟩)
theorem B5 {c:Operand} {x y:Code} {b:Bool} (ao:kE fr c= .bool b) (al:k6 c=true) (aq:b=true→dS P n x Q fr m) (aZ:b=false→dS P n y Q fr m):dS P n (.cond c x y) Q fr m:=fun F lim w ca st=>by
 obtain ⟨_,aA,rfl⟩:=wU st al
 rw [ao] at aA
 exact wp_cond_split (uy aA) (fun h=>aq h F lim w ca st) (fun h=>aZ h F lim w ca st)
theorem Gr {id:Nat} {ops:Array Oper} (ks:List Nat) (w3:(ks.all fun t=>decide (t<n))=true) (h:b6 P n ops ops.toList (fun fr m=>Q .normal (fr.keep ks) m) fr m):dS P n (.region id ops false) Q fr m:=fun F lim w ca st=>
 wp_region_list (h F lim w ca _ st fun lim' w' bf m' eM q gE fg=>⟨lim',_,m',q,gE.keep (by simpa using w3),fg⟩)
theorem b6.nil {ops:Array Oper} {K:Fr→ae→Prop} (h:K fr m):b6 P n ops [] K fr m:=fun F lim w ca Q st aU=>wpList_nil (aU lim w fr m ca h st (.refl _ _ _))
theorem b6.from {ops:Array Oper} {l:List Oper} {K:Fr→ae→Prop} {bf:Fr} {m':ae} (h:b6 P n ops l K bf m') {F:Nat→Prop} {lim lim':Nat→Nat} {w w':World} {eM:Act} {Q:Exit→Act→World→Prop}
 (aU:∀lim' w' bf m' eM,K bf m'→bd F lim' w' n bf m' eM []→dW F w lim w' lim'→Q Exit.normal eM w') (st:bd F lim' w' n bf m' eM []) (fg:dW F w lim w' lim'):wpList P ops Q l eM w':=
 h F lim' w' eM Q st fun jW iH rm oN uD al gE rn=>aU jW iH rm oN uD al gE (fg.trans rn)
theorem b6.step {ops:Array Oper} {o:Oper} {l:List Oper} {K:Fr→ae→Prop} (bc:o.guard=none)
 (h:∀F lim w ca,bd F lim w n fr m ca []→∀(next:Act→World→Prop) Q,(∀lim' w' bf m' eM,b6 P n ops l K bf m'→bd F lim' w' n bf m' eM []→dW F w lim w' lim'→next eM w')→o.wp P ca w next Q):b6 P n ops (o::l) K fr m:=
 fun F lim w ca Q st aU=>wpList_plain bc fun next aM=>h F lim w ca st next Q fun _ _ _ _ _ aA gE fg=>aM _ _ (aA.from aU gE fg)
theorem n0 {o:Oper} {ca:Act} {w w':World} {v:Value} {next:Act→World→Prop} {Q:Exit→Act→World→Prop} (h:(execOp ca.eval o).run P w= .ok (.value v) w') (aM:next (ca.put o.dst v) w'):o.wp P ca w next Q:=by
 unfold Oper.wp;rw [h];exact aM
theorem Gs {o:Oper} {ca:Act} {w w':World} {next:Act→World→Prop} {Q:Exit→Act→World→Prop} (h:(execOp ca.eval o).run P w= .ok .skip w') (aM:next (ca.put o.dst undef) w'):o.wp P ca w next Q:=by
 unfold Oper.wp;rw [h];exact aM
theorem j4 {o:Oper} {d:Nat} (h:fp n o=true) (aY:o.dst=some d):d<n:=by
 simp [fp,aY] at h;exact h.1
theorem kI {o:Oper} (h:fp n o=true):∀y∈o.op.operands.toList,k6 y=true:=by
 simp only [fp,Bool.and_eq_true,List.all_eq_true] at h;exact h.2
theorem bd.uE {F:Nat→Prop} {lim:Nat→Nat} {w:World} {ca:Act} {bL:List Nat} (st:bd F lim w n fr m ca bL):∀b hf,m b=some hf→∃os,kh w lim b hf os:=by
 obtain ⟨os,cI,bW,h⟩:=st
 exact fun b hf ah=>⟨cI b,(h.mem b hf ah).1⟩
theorem b6.quiet {ops:Array Oper} {o:Oper} {l:List Oper} {K:Fr→ae→Prop} {d:Nat} {side:Prop} {x:ab} (bc:o.guard=none) (aY:o.dst=some d) (al:fp n o=true)
 (h:bS P m (kE fr) o.op=some (side,x)) (aw:side) (aA:b6 P n ops l K (fr.put d x) m):b6 P n ops (o::l) K fr m:=by
 refine b6.step bc fun F lim w ca st next Q aM=>?_
 obtain ⟨v,J,aa⟩:=zb (P:=P) (w:=w) (lim:=lim) h aw (ca:=ca) (fun y aK=>by
  obtain ⟨_,aA,rfl⟩:=wU st (kI al y aK);exact aA) st.uE
 exact n0 J (aM lim w _ m _ aA (by rw [aY];exact st.set (j4 al aY) aa) (.refl _ _ _))
end
end Go.bg
end
section
namespace Go.bg
open Go
def br (fr:Fr) (t:Nat):ab:=(fr.get t).getD .aV
def gF (raw:Nat→ab):Operand→ab
 | .tmp t=>raw t
 | .const v=>jX v
 | .global g=> .ptr ⟨g,0,none⟩
 | .func f=> .func (.func f) [] []
def cA (raw:Nat→ab):Operand→ab
 | .tmp t=>(raw t).plain
 | .const v=>jX v
 | .global g=> .ptr ⟨g,0,none⟩
 | .func f=> .func (.func f) [] []
theorem w4 (fr:Fr):cA (br fr)=kE fr:=by funext x;cases x<;>rfl
def Fr.strip (fr:Fr):List Nat→Fr
 |[]=>fr
 |s::r=>Fr.strip (fr.put s (br fr s).plain) r
def n1:Operand→List Nat
 | .tmp t=>[t]
 |_=>[]
inductive jr where
 |stuck
 |val (side:Prop) (ss:List Nat) (m:ae) (x:ab)
 |pq (side:Prop) (ss:List Nat) (m:ae)
 |new (side:Prop) (ss:List Nat) (mk:Nat→ab) (o:gr)
 |call (f:FuncId) (args:List ab)
def mn (place:Nat→Option (Nat×Nat)) (cells:List ab):List (Nat×ab)→Option (List ab)
 |[]=>some cells
 |(i,x)::r=>
  match place i with
  |none=>none
  |some (off,size)=>if x.cells.length=size∧off+size≤cells.length then mn place (cells.take off++x.cells++cells.drop (off+size)) r else none
def hY (P:Program) (t:TypeId):Option ab:=
 match (P.info? t).bind (·.zero) with
 |some z=>if pk z then some (jX z) else none
 |none=>none
def kJ (P:Program) (t:TypeId):Bool:=
 match hY P t with
 |some z=>z.cells.length==P.cellsOf t
 |none=>false
def ab.eH:ab→Bool
 | .aV| .lazy _ _| .tuple _=>false
 |_=>true
def ab.one:ab→Bool
 | .aV| .lazy _ _| .tuple _| .agg _=>false
 |_=>true
def fl (P:Program) (m:ae) (raw:Nat→ab) (st:List Nat) (d:Option Nat) (op:Op):jr:=
 match op with
 | .assign (.tmp s)=> .val True [s] m (raw s)
 | .move (.tmp s)=>if (d.map st.contains).getD false then .val True [s] m (raw s) else .val True [] m (raw s).plain
 | .extract (.tmp s) i=>
   match raw s with
   | .tuple l=>if (d.map st.contains).getD false then .val (i<l.length) [s] m (l.getD i .aV) else .val (i<l.length) [] m (l.getD i .aV).plain
   |_=> .stuck
 | .load t x=>
   if (d.map st.contains).getD false then
    match cA raw x with
    | .ptr ⟨b,off,none⟩=>
      match m b with
      |some (.cells l)=> .val (eV P t=true∧kF P t=false∧off<l.length) [] (m.cE b (some (.cells (l.set off (l.getD off .aV).plain)))) (l.getD off .aV)
      |_=> .stuck
    |_=> .stuck
   else
    match bS P m (cA raw) (.load t x) with
    |some (side,v)=> .val side [] m v
    |none=> .stuck
 | .store t a x=>
   match cA raw a with
   | .ptr ⟨b,off,none⟩=>
     match m b with
     |some (.cells l)=> .pq ((gF raw x).eH=true∧((gF raw x).cells.all ab.one)=true∧(gF raw x).cells.length=P.cellsOf t∧eV P t=true∧off+P.cellsOf t≤l.length) (n1 x) (m.cE b (some (.cells (l.take off++(gF raw x).cells++l.drop (off+P.cellsOf t)))))
     |_=> .stuck
   |_=> .stuck
 | .box _ x=> .new ((cA raw x).eH=true) [] (fun b=> .ptr ⟨b,0,none⟩) (.cells (cA raw x).cells)
 | .alloc t=>
   match hY P t with
   |some z=> .new (z.eH=true) [] (fun b=> .ptr ⟨b,0,none⟩) (.cells z.cells)
   |none=> .stuck
 | .makeSlice t n c=>
   match P.underlying t,cA raw n,cA raw c with
   |some (.slice e), .int .i64 k, .int .i64 en=>
    match hY P e with
    |some z=> .new (z.eH=true∧eV P e=true∧z.cells.length=P.cellsOf e∧0<P.cellsOf e∧k=en∧0≤k∧k*P.bytesOf e≤140737488355328∧k≤140737488355328) [] (fun b=> .ms ⟨b,0,none⟩ k.toNat k.toNat) (.cells (List.replicate k.toNat z.cells).flatten)
    |none=> .stuck
   |_,_,_=> .stuck
 | .makeMap t r=>
   match P.underlying t,r.map (cA raw) with
   |some (.map _ _),none=> .new True [] (fun b=> .map b) (.map [])
   |some (.map _ _),some (.int _ _)=> .new True [] (fun b=> .map b) (.map [])
   |_,_=> .stuck
 | .build t parts=>
   if (d.map st.contains).getD false then .stuck else
   match P.underlying t,hY P t with
   |some (.struct c6),some z=>
    match mn (fun i=>(c6[i]?).map fun f=>(f.offset,P.cellsOf f.type)) z.cells (parts.toList.map fun p=>(p.1,cA raw p.2)) with
    |some cells=> .val (z.eH=true∧(∀f∈c6.toList,eV P f.type=true)∧∀p∈parts.toList,(cA raw p.2).eH=true) [] m (.agg cells)
    |none=> .stuck
   |_,_=> .stuck
 | .buildSlice t len parts=>
   if (d.map st.contains).getD false then .stuck else
   match P.underlying t with
   |some (.slice e)=>
    .val (eV P e=true∧0<P.cellsOf e∧kJ P e=true∧len*P.cellsOf e≤16777216∧parts.toList.map (·.1)=List.range len∧∀p∈parts.toList,(cA raw p.2).eH=true∧(cA raw p.2).cells.length=P.cellsOf e) [] m
      (.slice true (parts.toList.map fun p=>cA raw p.2))
   |_=> .stuck
 | .call ⟨.builtin .append,args,di⟩=>
   match args.toList,di.toList with
   |[.tmp s,y],[t,u]=>
    match P.underlying t,P.underlying u,raw s,cA raw y with
    |some (.slice e),some (.slice _), .slice true l, .slice _ l'=>
     .val (t=u∧eV P e=true∧0<P.cellsOf e∧kJ P e=true∧(l.length+l'.length)*P.bytesOf e≤140737488355328∧l.length+l'.length≤140737488355328∧(∀x∈l,x.cells.length=P.cellsOf e)∧∀x∈l',x.cells.length=P.cellsOf e∧x.cells.all ab.one=true) [s] m
       (.slice true (l++l'))
    |_,_,_,_=> .stuck
   |[.const (.slice none 0 0),y],[t,u]=>
    match P.underlying t,P.underlying u,cA raw y with
    |some (.slice e),some (.slice _), .slice _ l'=>
     .val (t=u∧eV P e=true∧0<P.cellsOf e∧kJ P e=true∧l'.length*P.bytesOf e≤140737488355328∧∀x∈l',x.cells.length=P.cellsOf e∧x.cells.all ab.one=true) [] m
       (.slice true l')
    |_,_,_=> .stuck
   |_,_=> .stuck
 | .call ⟨.value (.func f),args,_⟩=> .call f (args.toList.map (cA raw))
 | .call ⟨.value (.tmp t),args,_⟩=>
   match raw t with
   | .func (.func f) first nk=> .call f (first++args.toList.map (cA raw)++nk)
   |_=> .stuck
 |op=>
  match bS P m (cA raw) op with
  |some (side,x)=> .val side [] m x
  |none=> .stuck
def uF (P:Program) (f:FuncId) (args:List ab) (m:ae) (x:ab):Prop:=∀K:ab→ae→Prop,K x m→bh P f args m K
def zc (K:Fr→ae→Prop) (d:Option Nat) (fr:Fr):ab→ae→Prop:=fun x m=>
 match d with
 |some d=>K (fr.put d x) m
 |none=>K fr m
def fh (fr:Fr) (d:Option Nat) (x:ab):Fr:=
 match d with
 |some d=>fr.put d x
 |none=>fr
def zd (g:Bool):ab→ab
 | .lazy h x=> .lazy (!g||h) x
 |x=>x
def NB:Op→Bool
 | .pick _ _ _=>true
 |_=>false
def rp (raw:Nat→ab) (g:Bool) (op:Op) (y:Operand):ab:=if NB op then zd g (cA raw y) else un (zd g (cA raw y))
def uG:ab→Bool→Option Bool
 | .bool c,true=>some c
 | .bool c,false=>some (!c)
 | .lazy h (.bool c),true=>some (h&&c)
 | .lazy h (.bool c),false=>some (h&&!c)
 |_,_=>none
def n2 (P:Program) (ops:Array Oper) (st:List Nat) (o:Oper) (K:Fr→ae→Prop) (fr:Fr) (m:ae):Prop:=
 match o.guard with
 |none=>
  match fl P m (br fr) st o.dst o.op with
  | .val side ss m' x=>side∧K (fh (fr.strip ss) o.dst x) m'
  | .pq side ss m'=>side∧K (fh (fr.strip ss) o.dst .aV) m'
  | .new side ss mk hf=>side∧∀b,m b=none→K (fh (fr.strip ss) o.dst (mk b)) (m.cE b (some hf))
  | .call f args=>bh P f args m (zc K o.dst fr)
  | .stuck=>False
 |some (j,b)=>
  match (ops[j]?).bind (·.dst),o.dst with
  |some g,some d=>
   match uG (br fr g) b with
   |some z=>
    match o.op with
    | .call ⟨.value (.func f),args,_⟩=>
      ∃x,(z=true→uF P f (args.toList.map (rp (br fr) z o.op)) m x)∧K (fr.put d (.lazy z x.plain)) m
    | .call ⟨.value (.tmp t),args,_⟩=>
      match rp (br fr) z o.op (.tmp t) with
      | .func (.func f) first nk=>∃x,(z=true→uF P f (first++args.toList.map (rp (br fr) z o.op)++nk) m x)∧K (fr.put d (.lazy z x.plain)) m
      |_=>False
    |op=>
     match bS P m (rp (br fr) z op) op with
     |some (side,x)=>(z=true→side)∧K (fr.put d (.lazy z x)) m
     |none=>False
   |none=>False
  |_,_=>False
end Go.bg
end
