/-
  The abstract layer, part 1: abstract values (trees), how a Go value in a world reads as one, and what keeps that reading. No program in sight.
-/
import Derived.WalkKit
section
namespace Go.ba
open Go
inductive U where
 |bool (b:Bool)
 |int (k:IntKind) (n:Int)
 |str (s:List UInt8)
 |ptr (a:Addr)
 |eM
 |ref (l:List U)
 |slice (own:Bool) (l:List U)
 |ms (a:Addr) (len cap:Nat)
 |map (b:Nat)
 |iW
 |func (fn:Fn) (first captured:List U)
 |jF
 |fL
 |iface (t:TypeId) (v:U)
 |nilIface
 |err (t:TypeId) (e:Int)
 |opt (b:Bool)
 |agg (l:List U)
 |tuple (l:List U)
 |lazy (g:Bool) (v:U)
 |aS
instance:Inhabited U:=⟨.aS⟩
def U.cells:U→List U
 | .agg l=>l
 |x=>[x]
mutual
def U.plain:U→U
 | .slice _ l=> .slice false l
 | .agg l=> .agg (U.eU l)
 | .tuple l=> .tuple (U.eU l)
 | .lazy g x=> .lazy g x.plain
 | .bool b=> .bool b
 | .int k n=> .int k n
 | .str s=> .str s
 | .ptr a=> .ptr a
 | .eM=> .eM
 | .ref l=> .ref l
 | .ms a n c=> .ms a n c
 | .map b=> .map b
 | .iW=> .iW
 | .func f a b=> .func f a b
 | .jF=> .jF
 | .fL=> .fL
 | .iface t v=> .iface t v
 | .nilIface=> .nilIface
 | .err t e=> .err t e
 | .opt b=> .opt b
 | .aS=> .aS
def U.eU:List U→List U
 |[]=>[]
 |x::r=>x.plain::U.eU r
end
theorem U.h0 (l:List U):U.eU l=l.map U.plain:=by
 induction l with
 |nil=>rfl
 |cons x r aQ=>simp [U.eU,aQ]
theorem mJ (l:List U) (i:Nat):(U.eU l).getD i .aS=(l.getD i .aS).plain:=by
 rw [U.h0]
 simp only [List.getD_eq_getElem?_getD,List.getElem?_map]
 cases l[i]?<;>simp [U.plain]
theorem U.JN (x:U):x.plain.cells=U.eU x.cells:=by
 cases x<;>simp [U.plain,U.cells,U.eU]
inductive aP (w:World) (lim:Nat→Nat):Value→U→List Nat→Prop
 |bool (b:Bool):aP w lim (.bool b) (.bool b) []
 |int (k:IntKind) (n:Int) (bw:k.min≤n) (ad:n≤k.max):aP w lim (.int k n) (.int k n) []
 |str (s:ByteArray) (h:s.size≤140737488355328):aP w lim (.string s) (.str s.data.toList) []
 |ptr (a:Addr):aP w lim (.pointer (some a)) (.ptr a) []
 |eM:aP w lim (.pointer none) .eM []
 |ref (b off:Nat) (l:List U) (cv:Nat→Value) (av:off+l.length≤lim b) (ar:∀i,i<l.length→w.cell? ⟨b,off+i,none⟩=some (cv i))
   (au:∀i,i<l.length→aP w lim (cv i) (l.getD i .aS) []):aP w lim (.pointer (some ⟨b,off,none⟩)) (.ref l) []
 |fL (own:Bool):aP w lim (.slice none 0 0) (.slice own []) []
 |empty (a:Addr) (cap:Nat) (hm:cap≤maxLen):aP w lim (.slice (some a) 0 cap) (.slice false []) []
 |slice (b off n cap sz:Nat) (l:List U) (cv:Nat→Nat→Value) (aI:l.length=n) (fu:n≤cap) (hm:cap≤maxLen) (ew:n≤140737488355328)
   (cJ:∀i,i<n→(l.getD i .aS).cells.length=sz) (fb:off+n*sz≤lim b)
   (ar:∀i j,i<n→j<sz→w.cell? ⟨b,off+i*sz+j,none⟩=some (cv i j))
   (au:∀i j,i<n→j<sz→aP w lim (cv i j) ((l.getD i .aS).cells.getD j .aS) []):aP w lim (.slice (some ⟨b,off,none⟩) n cap) (.slice false l) []
 |own (b n cap sz:Nat) (l:List U) (cv:Nat→Nat→Value) (cur:Array Value) (e:TypeId) (aI:l.length=n) (fu:n≤cap) (hm:cap≤maxLen) (ew:n≤140737488355328)
   (aG:0<n∨cap=0) (ag:w.heap[b]?=some (.cells cur e (0,0))) (mK:cur.size=cap*sz)
   (cJ:∀i,i<n→(l.getD i .aS).cells.length=sz) (fb:n*sz=lim b)
   (ar:∀i j,i<n→j<sz→w.cell? ⟨b,i*sz+j,none⟩=some (cv i j))
   (au:∀i j,i<n→j<sz→aP w lim (cv i j) ((l.getD i .aS).cells.getD j .aS) []):aP w lim (.slice (some ⟨b,0,none⟩) n cap) (.slice true l) [b]
 |ms (a:Addr) (len cap:Nat) (h:len≤cap) (hm:cap≤maxLen):aP w lim (.slice (some a) len cap) (.ms a len cap) []
 |map (b:Nat):aP w lim (.map (some b)) (.map b) []
 |iW:aP w lim (.map none) .iW []
 |func (fn:Fn) (f c:Array Value) (bE dK:List U) (aN:f.size=bE.length) (ar:c.size=dK.length) (tV:∀i,i<bE.length→aP w lim (f.getD i undef) (bE.getD i .aS) [])
   (tW:∀i,i<dK.length→aP w lim (c.getD i undef) (dK.getD i .aS) []):aP w lim (.func fn f c) (.func fn bE dK) []
 |jF:aP w lim .nilFunc .jF []
 |nA (a:Option Addr):aP w lim (.slice a 0 0) .fL []
 |iface (t:TypeId) (v:Value) (x:U) (h:aP w lim v x []):aP w lim (.iface t v) (.iface t x) []
 |nilIface:aP w lim .nilIface .nilIface []
 |lx (t:TypeId):aP w lim .nilIface (.err t 0) []
 |iX (t:TypeId) (e:Int) (h:e≠0) (bw:IntKind.i64.min≤e) (ad:e≤IntKind.i64.max):aP w lim (.iface t (.int .i64 e)) (.err t e) []
 |nB:aP w lim .nilIface (.opt false) []
 |nC (t:TypeId) (v:Value):aP w lim (.iface t v) (.opt true) []
 |agg (cs:Array Value) (xs:List U) (os:Nat→List Nat) (h:cs.size=xs.length) (au:∀i,i<xs.length→aP w lim (cs.getD i undef) (xs.getD i .aS) (os i)):
   aP w lim (.agg cs) (.agg xs) ((List.range xs.length).flatMap os)
 |tuple (cs:Array Value) (xs:List U) (os:Nat→List Nat) (h:cs.size=xs.length) (au:∀i,i<xs.length→aP w lim (cs.getD i undef) (xs.getD i .aS) (os i)):
   aP w lim (.tuple cs) (.tuple xs) ((List.range xs.length).flatMap os)
 |nD (v:Value) (x:U) (os:List Nat) (h:aP w lim v x os):aP w lim v (.lazy true x) os
 |ly (x:U):aP w lim undef (.lazy false x) []
 |aS (v:Value):aP w lim v .aS []
section
variable {w w':World} {lim lim':Nat→Nat} {v:Value} {x:U} {os:List Nat}
theorem aP.gQ (h:aP w lim v x os) (av:∀b,lim b≤lim' b) (ar:∀b o,o<lim b→w'.cell? ⟨b,o,none⟩=w.cell? ⟨b,o,none⟩)
 (aL:∀c∈os,w'.heap[c]?=w.heap[c]?∧lim' c=lim c):aP w' lim' v x os:=by
 induction h with
 |bool b=>exact .bool b
 |int k n bw ad=>exact .int k n bw ad
 |str s h=>exact .str s h
 |ptr a=>exact .ptr a
 |eM=>exact .eM
 |ref b off l cv l8 iK au aQ=>
  exact .ref b off l cv (Nat.le_trans l8 (av b)) (fun i ad=>by rw [ar b (off+i) (by omega)];exact iK i ad) (fun i ad=>aQ i ad (by simp))
 |fL own=>exact .fL own
 |empty a cap hm=>exact .empty a cap hm
 |slice b off n cap sz l cv aI fu hm ew cJ fb iK au aQ=>
  refine .slice b off n cap sz l cv aI fu hm ew cJ (Nat.le_trans fb (av b)) (fun i j ad aA=>?_) (fun i j ad aA=>aQ i j ad aA (by simp))
  rw [ar b _ ?_]
  · exact iK i j ad aA
  · have:i*sz+sz≤n*sz:=by rw [←Nat.succ_mul];exact Nat.mul_le_mul_right _ ad
    omega
 |own b n cap sz l cv cur e aI fu hm ew aG ag mK cJ fb iK au aQ=>
  have CU:=aL b (by simp)
  refine .own b n cap sz l cv cur e aI fu hm ew aG (CU.1.trans ag) mK cJ (fb.trans CU.2.symm) (fun i j ad aA=>?_) (fun i j ad aA=>aQ i j ad aA (by simp))
  rw [ar b _ ?_]
  · exact iK i j ad aA
  · have:i*sz+sz≤n*sz:=by rw [←Nat.succ_mul];exact Nat.mul_le_mul_right _ ad
    omega
 |ms a len cap h hm=>exact .ms a len cap h hm
 |map b=>exact .map b
 |iW=>exact .iW
 |func fn f c bE dK aN iK tV tW CV CW=>exact .func fn f c bE dK aN iK (fun i ad=>CV i ad (by simp)) (fun i ad=>CW i ad (by simp))
 |jF=>exact .jF
 |nA a=>exact .nA a
 |iface t v x h aQ=>exact .iface t v x (aQ (by simp))
 |nilIface=>exact .nilIface
 |lx t=>exact .lx t
 |iX t e h bw ad=>exact .iX t e h bw ad
 |nB=>exact .nB
 |nC t v=>exact .nC t v
 |agg cs xs os h au aQ=>exact .agg cs xs os h (fun i ad=>aQ i ad (fun c ar=>aL c (List.mem_flatMap.2 ⟨i,by simpa using ad,ar⟩)))
 |tuple cs xs os h au aQ=>exact .tuple cs xs os h (fun i ad=>aQ i ad (fun c ar=>aL c (List.mem_flatMap.2 ⟨i,by simpa using ad,ar⟩)))
 |nD v x os h aQ=>exact .nD v x os (aQ aL)
 |ly x=>exact .ly x
 |aS v=>exact .aS v
theorem flatMap_nil (n:Nat):(List.range n).flatMap (fun _=>([]:List Nat))=[]:=by
 induction n<;>simp_all
theorem aP.plain (h:aP w lim v x os):aP w lim v x.plain []:=by
 induction h with
 |bool b=>exact .bool b
 |int k n bw ad=>exact .int k n bw ad
 |str s h=>exact .str s h
 |ptr a=>exact .ptr a
 |eM=>exact .eM
 |ref b off l cv av ar au aQ=>exact .ref b off l cv av ar au
 |fL own=>exact .fL false
 |empty a cap hm=>exact .empty a cap hm
 |slice b off n cap sz l cv aI fu hm ew cJ fb ar au aQ=>exact .slice b off n cap sz l cv aI fu hm ew cJ fb ar au
 |own b n cap sz l cv cur e aI fu hm ew aG ag mK cJ fb ar au aQ=>exact .slice b 0 n cap sz l cv aI fu hm ew cJ (by omega) (fun i j ad aA=>by simpa using ar i j ad aA) au
 |ms a len cap h hm=>exact .ms a len cap h hm
 |map b=>exact .map b
 |iW=>exact .iW
 |func fn f c bE dK aN ar tV tW CV CW=>exact .func fn f c bE dK aN ar tV tW
 |jF=>exact .jF
 |nA a=>exact .nA a
 |iface t v x h aQ=>exact .iface t v x h
 |nilIface=>exact .nilIface
 |lx t=>exact .lx t
 |iX t e h bw ad=>exact .iX t e h bw ad
 |nB=>exact .nB
 |nC t v=>exact .nC t v
 |agg cs xs os h au aQ=>
  have:=aP.agg (w:=w) (lim:=lim) cs (U.eU xs) (fun _=>[]) (by simp [U.h0,h]) (fun i ad=>by rw [mJ];exact aQ i (by simpa [U.h0] using ad))
  rw [flatMap_nil] at this
  exact this
 |tuple cs xs os h au aQ=>
  have:=aP.tuple (w:=w) (lim:=lim) cs (U.eU xs) (fun _=>[]) (by simp [U.h0,h]) (fun i ad=>by rw [mJ];exact aQ i (by simpa [U.h0] using ad))
  rw [flatMap_nil] at this
  exact this
 |nD v x os h aQ=>exact .nD v _ _ aQ
 |ly x=>exact .ly _
 |aS v=>exact .aS v
theorem aP.CX (h:aP w lim v x os):∀c∈os,c<w.heap.size:=by
 induction h with
 |own b n cap sz l cv cur e aI fu hm ew aG ag mK cJ fb ar au aQ=>
  intro c ar
  simp only [List.mem_singleton] at ar
  subst ar
  exact (Array.getElem?_eq_some_iff.1 ag).1
 |agg cs xs os h au aQ=>
  intro c ar
  obtain ⟨i,ad,ar⟩:=List.mem_flatMap.1 ar
  exact aQ i (by simpa using ad) c ar
 |tuple cs xs os h au aQ=>
  intro c ar
  obtain ⟨i,ad,ar⟩:=List.mem_flatMap.1 ar
  exact aQ i (by simpa using ad) c ar
 |nD v x os h aQ=>exact aQ
 |_=>intro c ar;cases ar
end
end Go.ba
end
section
namespace Go.ba
open Go
abbrev Fr:=List (Nat×U)
def Fr.get:Fr→Nat→Option U
 |[],_=>none
 |(s,x)::r,t=>if s=t then some x else Fr.get r t
def Fr.put (fr:Fr) (t:Nat) (x:U):Fr:=(t,x)::fr
theorem Fr.oU (fr:Fr) (t s:Nat) (x:U):(fr.put t x).get s=if t=s then some x else fr.get s:=rfl
def Fr.keep (ks:List Nat) (fr:Fr):Fr:=ks.map fun t=>(t,(fr.get t).getD .aS)
inductive fB where
 |cells (l:List U)
 |map (l:List (U×U))
 |iter (r:Nat) (l:List (U×U)) (seen:List Nat)
 |wB (e oh:TypeId) (l:List U)
 |mL (e:TypeId) (z:Nat×Nat) (cs:Array Value)
abbrev ae:=Nat→Option fB
def ae.cQ (m:ae) (b:Nat) (o:Option fB):ae:=fun c=>if c=b then o else m c
inductive Place where
 |none
 |slot (t:Nat)
 |r4 (b i:Nat)
 |kA
 deriving DecidableEq
inductive ka (w:World) (lim:Nat→Nat) (b:Nat):fB→(Nat→List Nat)→Prop
 |cells (cs:Array Value) (e:TypeId) (l:List U) (os:Nat→List Nat) (ag:w.heap[b]?=some (.cells cs e (0,0))) (al:cs.size=l.length)
   (au:∀i,i<l.length→aP w lim (cs.getD i undef) (l.getD i .aS) (os i)):ka w lim b (.cells l) os
 |map (es:Array MapEntry) (clock:Nat) (l:List (U×U)) (ag:w.heap[b]?=some (.map es clock)) (al:es.size=l.length) (ew:l.length≤140737488355328)
   (ak:∀i,i<l.length→aP w lim (es.getD i default).key (l.getD i (.aS, .aS)).1 []) (bn:∀i,i<l.length→aP w lim (es.getD i default).val (l.getD i (.aS, .aS)).2 [])
   (JO:∀i j,i<j→j<l.length→(es.getD i default).born<(es.getD j default).born) (JP:∀i,i<l.length→(es.getD i default).born<clock) (os:Nat→List Nat):ka w lim b (.map l) os
 |iter (es:Array MapEntry) (clock r:Nat) (l:List (U×U)) (seen:List Nat) (ag:w.heap[b]?=some (.map es clock)) (al:es.size=l.length) (ew:l.length≤140737488355328)
   (ak:∀i,i<l.length→aP w lim (es.getD i default).key (l.getD i (.aS, .aS)).1 []) (bn:∀i,i<l.length→aP w lim (es.getD i default).val (l.getD i (.aS, .aS)).2 [])
   (JO:∀i j,i<j→j<l.length→(es.getD i default).born<(es.getD j default).born) (JP:∀i,i<l.length→(es.getD i default).born<clock)
   (au:w.heap[r]?=some (.mapIter (some b) clock (seen.map fun i=>(es.getD i default).born).toArray clock)) (r5:∀i∈seen,i<l.length) (os:Nat→List Nat) (tX:r∈os 0):ka w lim b (.iter r l seen) os
 |wB (p v:Value) (e oh:TypeId) (l:List U) (os:Nat→List Nat) (ag:w.heap[b]?=some (.cells #[p,v] e (0,0))) (aU:p= .pointer none∨p= .pointer (some ⟨b,0,none⟩)) (au:aP w lim v (.slice true l) (os 1))
   (bl:v= .slice none 0 0∨∃g n c cur,v= .slice (some ⟨g,0,none⟩) n c∧g∈os 1∧l≠[]∧w.heap[g]?=some (.cells cur oh (0,0))):ka w lim b (.wB e oh l) os
 |mL (e:TypeId) (z:Nat×Nat) (cs:Array Value) (os:Nat→List Nat) (ag:w.heap[b]?=some (.cells cs e z)):ka w lim b (.mL e z cs) os
structure oV (F:Nat→Prop) (lim:Nat→Nat) (w:World) (n:Nat) (fr:Fr) (m:ae) (ca:Act) (bE:List Nat) (os:Nat→List Nat) (cP:Nat→Nat→List Nat) (bW:Nat→Place):Prop where
 size:ca.tmps.size=n
 defers:ca.defers=[]
 ey:∀t x,fr.get t=some x→t<n∧aP w lim (ca.tmps.getD t undef) x (os t)
 mem:∀b o,m b=some o→ka w lim b o (cP b)∧lim b=0∧¬F b
 fc:∀t x,fr.get t=some x→(os t).Nodup∧∀c∈os t,bW c= .slot t
 ed:∀b o,m b=some o→∀i,(cP b i).Nodup∧∀c∈cP b i,bW c= .r4 b i
 fW:bE.Nodup∧∀c∈bE,bW c= .kA
 free:∀c,bW c≠ .none→¬F c∧m c=none∧c<w.heap.size
 fresh:∀b,w.heap.size≤b→lim b=0∧¬F b∧m b=none
def bc (F:Nat→Prop) (lim:Nat→Nat) (w:World) (n:Nat) (fr:Fr) (m:ae) (ca:Act) (bE:List Nat):Prop:=
 ∃os cP bW,oV F lim w n fr m ca bE os cP bW
structure dL (F:Nat→Prop) (w:World) (lim:Nat→Nat) (w':World) (lim':Nat→Nat):Prop where
 os:w'.os=w.os
 tape:w'.tape=w.tape
 output:w'.output=w.output
 size:w.heap.size≤w'.heap.size
 res:∀b,F b→w'.heap[b]?=w.heap[b]?∧lim' b=lim b
 mono:∀b,lim b≤lim' b
 cell:∀b o,o<lim b→w'.cell? ⟨b,o,none⟩=w.cell? ⟨b,o,none⟩
theorem dL.refl (F:Nat→Prop) (w:World) (lim:Nat→Nat):dL F w lim w lim:=⟨rfl,rfl,rfl,Nat.le_refl _,fun _ _=>⟨rfl,rfl⟩,fun _=>Nat.le_refl _,fun _ _ _=>rfl⟩
theorem dL.trans {F:Nat→Prop} {w w' h9:World} {lim lim' jG:Nat→Nat} (h:dL F w lim w' lim') (k:dL F w' lim' h9 jG):dL F w lim h9 jG:=
 ⟨k.os.trans h.os,k.tape.trans h.tape,k.output.trans h.output,Nat.le_trans h.size k.size,
  fun b ag=>⟨(k.res b ag).1.trans (h.res b ag).1,(k.res b ag).2.trans (h.res b ag).2⟩,fun b=>Nat.le_trans (h.mono b) (k.mono b),
  fun b o aL=>(k.cell b o (Nat.lt_of_lt_of_le aL (h.mono b))).trans (h.cell b o aL)⟩
theorem dL.weaken {F kB:Nat→Prop} {w w':World} {lim lim':Nat→Nat} (h:dL kB w lim w' lim') (fM:∀b,F b→kB b):dL F w lim w' lim':=
 ⟨h.os,h.tape,h.output,h.size,fun b ag=>h.res b (fM b ag),h.mono,h.cell⟩
theorem dL.drew (F:Nat→Prop) (w:World) (lim:Nat→Nat):dL F w lim w.drew lim:=⟨rfl,rfl,rfl,Nat.le_refl _,fun _ _=>⟨rfl,rfl⟩,fun _=>Nat.le_refl _,fun _ _ _=>rfl⟩
theorem qE (w:World) (o:Obj):(w.alloc o).heap[w.heap.size]?=some o:=by
 show (w.heap.push o)[w.heap.size]?=some o
 simp
theorem kC (w:World) (o:Obj) (i:Nat) (h:i<w.heap.size):(w.alloc o).heap[i]?=w.heap[i]?:=by
 show (w.heap.push o)[i]?=w.heap[i]?
 rw [Array.getElem?_push,if_neg (Nat.ne_of_lt h)]
section
variable {F:Nat→Prop} {lim lim':Nat→Nat} {w w':World} {n:Nat} {fr:Fr} {m:ae} {ca:Act} {bE:List Nat}
theorem ka.gQ {b:Nat} {o:fB} {os:Nat→List Nat} (h:ka w lim b o os) (ag:w'.heap[b]?=w.heap[b]?) (av:∀b,lim b≤lim' b)
 (ar:∀b o,o<lim b→w'.cell? ⟨b,o,none⟩=w.cell? ⟨b,o,none⟩) (aL:∀i,∀c∈os i,w'.heap[c]?=w.heap[c]?∧lim' c=lim c):ka w' lim' b o os:=by
 cases h with
 |cells cs e l os fv al au=>
  exact .cells cs e l os (ag.trans fv) al (fun i ad=>(au i ad).gQ av ar (aL i))
 |map es clock l fv al ew ak bn J aa _=>
  exact .map es clock l (ag.trans fv) al ew (fun i ad=>(ak i ad).gQ av ar (by simp)) (fun i ad=>(bn i ad).gQ av ar (by simp)) J aa os
 |iter es clock r l seen fv al ew ak bn J aa au r5 _ tX=>
  exact .iter es clock r l seen (ag.trans fv) al ew (fun i ad=>(ak i ad).gQ av ar (by simp)) (fun i ad=>(bn i ad).gQ av ar (by simp)) J aa ((aL 0 r tX).1.trans au) r5 os tX
 |wB p v e oh l os fv aU au bl=>
  exact .wB p v e oh l os (ag.trans fv) aU (au.gQ av ar (aL 1)) (by
   rcases bl with bl|⟨g,n,c,cur,J,aa,ai,aJ⟩
   · exact .inl bl
   · exact .inr ⟨g,n,c,cur,J,aa,ai,(aL 1 g aa).1.trans aJ⟩)
 |mL e z cs os fv=>exact .mL e z cs _ (ag.trans fv)
theorem bc.world (h:bc F lim w n fr m ca bE) (cJ:w.heap.size≤w'.heap.size) (av:∀b,lim b≤lim' b) (ar:∀b o,o<lim b→w'.cell? ⟨b,o,none⟩=w.cell? ⟨b,o,none⟩)
 (JQ:∀c,c<w.heap.size→(¬F c∧m c=none→False)∨(w'.heap[c]?=w.heap[c]?∧lim' c=lim c)) (hm:∀b,m b≠none→w'.heap[b]?=w.heap[b]?∧lim' b=lim b)
 (yQ:∀b,w'.heap.size≤b→lim' b=0):bc F lim' w' n fr m ca bE:=by
 obtain ⟨os,cP,bW,h⟩:=h
 have lz:∀c,bW c≠ .none→w'.heap[c]?=w.heap[c]?∧lim' c=lim c:=fun c oW=>by
  have aN:=h.free c oW
  rcases JQ c aN.2.2 with ak|ak
  · exact (ak ⟨aN.1,aN.2.1⟩).elim
  · exact ak
 refine ⟨os,cP,bW,h.size,h.defers,fun t x aq=>⟨(h.ey t x aq).1,(h.ey t x aq).2.gQ av ar (fun c l9=>lz c (by rw [(h.fc t x aq).2 c l9];simp))⟩,fun b o ag=>?_,h.fc,h.ed,h.fW,
  fun c oW=>⟨(h.free c oW).1,(h.free c oW).2.1,Nat.lt_of_lt_of_le (h.free c oW).2.2 cJ⟩,fun b ag=>⟨yQ b ag,(h.fresh b (Nat.le_trans cJ ag)).2⟩⟩
 have oi:=hm b (by rw [ag];simp)
 exact ⟨(h.mem b o ag).1.gQ oi.1 av ar (fun i c l9=>lz c (by rw [(h.ed b o ag i).2 c l9];simp)),oi.2.trans (h.mem b o ag).2.1,(h.mem b o ag).2.2⟩
theorem bc.heap (h:bc F lim w n fr m ca bE) (aT:w'.heap=w.heap):bc F lim w' n fr m ca bE:=by
 have jH:∀b o,w'.cell? ⟨b,o,none⟩=w.cell? ⟨b,o,none⟩:=fun b o=>by simp [World.cell?,aT]
 refine h.world (by rw [aT];exact Nat.le_refl _) (fun _=>Nat.le_refl _) (fun b o _=>jH b o) (fun c _=> .inr ⟨by rw [aT],rfl⟩) (fun b _=>⟨by rw [aT],rfl⟩) (fun b ag=>?_)
 obtain ⟨os,cP,bW,h⟩:=h
 exact (h.fresh b (by rw [←aT];exact ag)).1
theorem CY (w:World) (o:Obj) {b:Nat} (ag:b<w.heap.size) (i:Nat):(w.alloc o).cell? ⟨b,i,none⟩=w.cell? ⟨b,i,none⟩:=
 World.cell?_alloc_lt w o ⟨b,i,none⟩ ag
theorem bc.qF (h:bc F lim w n fr m ca bE) {b o:Nat} (aL:o<lim b):b<w.heap.size:=by
 obtain ⟨os,cP,bW,h⟩:=h
 rcases Nat.lt_or_ge b w.heap.size with ag|ag
 · exact ag
 · have:=(h.fresh b ag).1;omega
theorem bc.pO (h:bc F lim w n fr m ca bE) {b:Nat} (ag:F b):b<w.heap.size:=by
 obtain ⟨os,cP,bW,h⟩:=h
 rcases Nat.lt_or_ge b w.heap.size with fv|fv
 · exact fv
 · exact ((h.fresh b fv).2.1 ag).elim
theorem bc.oX (h:bc F lim w n fr m ca bE) {b:Nat} (ag:m b≠none):b<w.heap.size:=by
 obtain ⟨os,cP,bW,h⟩:=h
 rcases Nat.lt_or_ge b w.heap.size with fv|fv
 · exact fv
 · exact (ag (h.fresh b fv).2.2).elim
theorem bc.pP (h:bc F lim w n fr m ca bE):lim w.heap.size=0:=by
 obtain ⟨os,cP,bW,h⟩:=h
 exact (h.fresh _ (Nat.le_refl _)).1
theorem bc.alloc (h:bc F lim w n fr m ca bE) (o:Obj) (k:Nat):bc F (fun b=>if b=w.heap.size then k else lim b) (w.alloc o) n fr m ca bE:=by
 have ao:=h.pP
 refine h.world (by simp) (fun b=>?_) (fun b i ad=>CY w o (h.qF ad) i) (fun c ar=> .inr ⟨kC w o c ar,by rw [if_neg (by omega)]⟩)
  (fun b ag=>⟨kC w o b (h.oX ag),by rw [if_neg (Nat.ne_of_lt (h.oX ag))]⟩) (fun b ag=>?_)
 · by_cases ag:b=w.heap.size
   · subst ag;rw [ao];exact Nat.zero_le _
   · rw [if_neg ag];exact Nat.le_refl _
 · simp at ag
   rw [if_neg (by omega)]
   obtain ⟨os,cP,bW,h⟩:=h
   exact (h.fresh b (by omega)).1
theorem dL.alloc (h:bc F lim w n fr m ca bE) (o:Obj) (k:Nat):dL F w lim (w.alloc o) (fun b=>if b=w.heap.size then k else lim b):=by
 have ao:=h.pP
 refine ⟨rfl,rfl,rfl,by simp,fun b ag=>⟨kC w o b (h.pO ag),by rw [if_neg (Nat.ne_of_lt (h.pO ag))]⟩,fun b=>?_,fun b i ad=>CY w o (h.qF ad) i⟩
 by_cases ag:b=w.heap.size
 · subst ag;rw [ao];exact Nat.zero_le _
 · rw [if_neg ag];exact Nat.le_refl _
theorem bc.set (h:bc F lim w n fr m ca []) {d:Nat} (bo:d<n) {v:Value} {x:U} (aq:aP w lim v x []):bc F lim w n (fr.put d x) m (ca.put (some d) v) []:=by
 obtain ⟨os,cP,bW,h⟩:=h
 refine ⟨fun t=>if t=d then [] else os t,cP,bW,by simp [Act.put,h.size],h.defers,fun t y aK=>?_,h.mem,fun t y aK=>?_,h.ed,h.fW,h.free,h.fresh⟩
 · rw [Fr.oU] at aK
   by_cases aB:t=d
   · subst aB
     simp only [↓reduceIte,Option.some.injEq] at aK ⊢
     subst aK
     refine ⟨bo,?_⟩
     simpa [Act.put,Array.getD,h.size,bo] using aq
   · rw [if_neg (fun e=>aB e.symm)] at aK
     rw [if_neg aB]
     refine ⟨(h.ey t y aK).1,?_⟩
     have:=(h.ey t y aK).2
     have gg:¬d=t:=fun e=>aB e.symm
     simp only [Act.put,Array.getD_eq_getD_getElem?,Array.getElem?_setIfInBounds,gg,if_false] at this ⊢
     exact this
 · rw [Fr.oU] at aK
   by_cases aB:t=d
   · simp [aB]
   · rw [if_neg (fun e=>aB e.symm)] at aK
     simp only [if_neg aB]
     exact h.fc t y aK
theorem bc.CZ (h:bc F lim w n fr m ca bE) {d:Nat} (bo:d<n) {v:Value} {x:U} (aq:aP w lim v x bE):bc F lim w n (fr.put d x) m (ca.put (some d) v) []:=by
 obtain ⟨os,cP,bW,h⟩:=h
 refine ⟨fun t=>if t=d then bE else os t,cP,fun c=>if bW c= .kA then .slot d else if bW c= .slot d then .none else bW c,by simp [Act.put,h.size],h.defers,fun t y aK=>?_,h.mem,fun t y aK=>?_,fun b o ag=>?_,by simp,fun c ar=>?_,h.fresh⟩
 · rw [Fr.oU] at aK
   by_cases aB:t=d
   · subst aB
     simp only [↓reduceIte,Option.some.injEq] at aK ⊢
     subst aK
     refine ⟨bo,?_⟩
     simpa [Act.put,Array.getD,h.size,bo] using aq
   · rw [if_neg (fun e=>aB e.symm)] at aK
     rw [if_neg aB]
     refine ⟨(h.ey t y aK).1,?_⟩
     have:=(h.ey t y aK).2
     have gg:¬d=t:=fun e=>aB e.symm
     simp only [Act.put,Array.getD_eq_getD_getElem?,Array.getElem?_setIfInBounds,gg,if_false] at this ⊢
     exact this
 · rw [Fr.oU] at aK
   by_cases aB:t=d
   · simp only [aB,↓reduceIte]
     exact ⟨h.fW.1,fun c ar=>by simp [h.fW.2 c ar]⟩
   · rw [if_neg (fun e=>aB e.symm)] at aK
     simp only [if_neg aB]
     refine ⟨(h.fc t y aK).1,fun c ar=>?_⟩
     simp [(h.fc t y aK).2 c ar,aB]
 · exact fun i=>⟨(h.ed b o ag i).1,fun c ar=>by simp [(h.ed b o ag i).2 c ar]⟩
 · by_cases J:bW c= .kA
   · exact h.free c (by rw [J];simp)
   · simp only [J,↓reduceIte] at ar
     by_cases aa:bW c= .slot d
     · simp [aa] at ar
     · simp only [aa,↓reduceIte] at ar
       exact h.free c ar
theorem bc.take (h:bc F lim w n fr m ca []) {s:Nat} {x:U} (al:fr.get s=some x):
 ∃os,bc F lim w n (fr.put s x.plain) m ca os∧aP w lim (ca.tmps.getD s undef) x os:=by
 obtain ⟨os,cP,bW,h⟩:=h
 refine ⟨os s,⟨fun t=>if t=s then [] else os t,cP,fun c=>if bW c= .slot s then .kA else if bW c= .kA then .none else bW c,h.size,h.defers,fun t y aK=>?_,h.mem,fun t y aK=>?_,fun b o ag=>?_,?_,fun c ar=>?_,h.fresh⟩,(h.ey s x al).2⟩
 · rw [Fr.oU] at aK
   by_cases aB:t=s
   · subst aB
     simp only [↓reduceIte,Option.some.injEq] at aK ⊢
     subst aK
     exact ⟨(h.ey t x al).1,(h.ey t x al).2.plain⟩
   · rw [if_neg (fun e=>aB e.symm)] at aK
     simpa [if_neg aB] using h.ey t y aK
 · rw [Fr.oU] at aK
   by_cases aB:t=s
   · simp [aB]
   · rw [if_neg (fun e=>aB e.symm)] at aK
     simp only [if_neg aB]
     refine ⟨(h.fc t y aK).1,fun c ar=>?_⟩
     simp [(h.fc t y aK).2 c ar,aB]
 · exact fun i=>⟨(h.ed b o ag i).1,fun c ar=>by simp [(h.ed b o ag i).2 c ar]⟩
 · exact ⟨(h.fc s x al).1,fun c ar=>by simp [(h.fc s x al).2 c ar]⟩
 · by_cases J:bW c= .slot s
   · exact h.free c (by rw [J];simp)
   · simp only [J,↓reduceIte] at ar
     by_cases aa:bW c= .kA
     · simp [aa] at ar
     · simp only [aa,↓reduceIte] at ar
       exact h.free c ar
theorem bc.drop (h:bc F lim w n fr m ca bE):bc F lim w n fr m ca []:=by
 obtain ⟨os,cP,bW,h⟩:=h
 exact ⟨os,cP,bW,h.size,h.defers,h.ey,h.mem,h.fc,h.ed,⟨by simp,by simp⟩,h.free,h.fresh⟩
theorem bc.sub {aZ:Fr} (h:bc F lim w n fr m ca bE) (al:∀t x,aZ.get t=some x→fr.get t=some x∨(x= .aS∧t<n)):bc F lim w n aZ m ca bE:=by
 obtain ⟨os,cP,bW,h⟩:=h
 classical
 refine ⟨fun t=>if aZ.get t=fr.get t then os t else [],cP,bW,h.size,h.defers,fun t x aq=>?_,h.mem,fun t x aq=>?_,h.ed,h.fW,h.free,h.fresh⟩
 · by_cases he:aZ.get t=fr.get t
   · simp only [he,if_true]
     exact h.ey t x (he▸aq)
   · simp only [if_neg he]
     rcases al t x aq with J|⟨J,aa⟩
     · exact (he (aq.trans J.symm)).elim
     · subst J;exact ⟨aa, .aS _⟩
 · by_cases he:aZ.get t=fr.get t
   · simp only [he,if_true]
     exact h.fc t x (he▸aq)
   · simp [if_neg he]
theorem Fr.JR (ks:List Nat) (fr:Fr) (t:Nat) (x:U) (h:(Fr.keep ks fr).get t=some x):t∈ks∧(fr.get t).getD .aS=x:=by
 induction ks with
 |nil=>simp [Fr.keep,Fr.get] at h
 |cons k ks aQ=>
  simp only [Fr.keep,List.map_cons,Fr.get] at h
  by_cases ak:k=t
  · subst ak
    simp only [↓reduceIte,Option.some.injEq] at h
    exact ⟨by simp,h⟩
  · rw [if_neg ak] at h
    have:=aQ h
    exact ⟨by simp [this.1],this.2⟩
theorem bc.keep (h:bc F lim w n fr m ca bE) {ks:List Nat} (ak:∀t∈ks,t<n):bc F lim w n (fr.keep ks) m ca bE:=by
 refine h.sub fun t x aq=>?_
 have:=Fr.JR ks fr t x aq
 cases bl:fr.get t with
 |none=>rw [bl] at this;exact .inr ⟨this.2.symm,ak t this.1⟩
 |some y=>rw [bl] at this;simp at this;exact .inl (by rw [this.2])
theorem bc.qG {m':ae} (h:bc F lim w n fr m ca bE) (al:∀b o,m' b=some o→m b=some o):bc F lim w n fr m' ca bE:=by
 obtain ⟨os,cP,bW,h⟩:=h
 have aI:∀b,m b=none→m' b=none:=fun b ag=>by
  cases fv:m' b with
  |none=>rfl
  |some o=>rw [al b o fv] at ag;cases ag
 exact ⟨os,cP,bW,h.size,h.defers,h.ey,fun b o ag=>h.mem b o (al b o ag),h.fc,fun b o ag=>h.ed b o (al b o ag),h.fW,
  fun c ar=>⟨(h.free c ar).1,aI c (h.free c ar).2.1,(h.free c ar).2.2⟩,fun b ag=>⟨(h.fresh b ag).1,(h.fresh b ag).2.1,aI b (h.fresh b ag).2.2⟩⟩
theorem bc.C0 (h:bc F lim w n fr m ca bE) (cs:Array Value) (e:TypeId) (l:List U) (al:cs.size=l.length) (au:∀i,i<l.length→aP w lim (cs.getD i undef) (l.getD i .aS) []):
 m w.heap.size=none∧bc F lim (w.alloc (.cells cs e)) n fr (m.cQ w.heap.size (some (.cells l))) ca bE:=by
 have ao:=h.pP
 have dP:=h.alloc (.cells cs e) 0
 have fb:(fun b=>if b=w.heap.size then 0 else lim b)=lim:=by funext b;by_cases ag:b=w.heap.size<;>simp [ag,ao]
 rw [fb] at dP
 have eN:=dL.alloc h (.cells cs e) 0
 rw [fb] at eN
 have fM:¬F w.heap.size:=fun aN=>absurd (h.pO aN) (Nat.lt_irrefl _)
 have hm:m w.heap.size=none:=by
  cases ag:m w.heap.size with
  |none=>rfl
  |some o=>exact absurd (h.oX (b:=w.heap.size) (by rw [ag];simp)) (Nat.lt_irrefl _)
 obtain ⟨JS,JT,JU,aG⟩:=h
 refine ⟨hm,?_⟩
 obtain ⟨os,cP,bW,dP⟩:=dP
 refine ⟨JS,fun b i=>if b=w.heap.size then [] else JT b i,JU,aG.size,aG.defers,fun t x aq=>?_,fun b o ag=>?_,aG.fc,fun b o ag=>?_,aG.fW,fun c ar=>?_,fun b ag=>?_⟩
 · refine ⟨(aG.ey t x aq).1,(aG.ey t x aq).2.gQ (fun _=>Nat.le_refl _) eN.cell (fun c ar=>⟨kC w _ c ?_,rfl⟩)⟩
   exact (aG.free c (by rw [(aG.fc t x aq).2 c ar];simp)).2.2
 · by_cases mM:b=w.heap.size
   · subst mM
     simp only [ae.cQ,↓reduceIte,Option.some.injEq] at ag ⊢
     subst ag
     refine ⟨?_,ao,fM⟩
     exact ka.cells (w:=w.alloc (.cells cs e)) (lim:=lim) (b:=w.heap.size) cs e l (fun _=>[]) (qE w _) al
      (fun i ad=>(au i ad).gQ (fun _=>Nat.le_refl _) eN.cell (by simp))
   · simp only [ae.cQ,if_neg mM] at ag ⊢
     have cl:b<w.heap.size:=by
      rcases Nat.lt_or_ge b w.heap.size with fv|fv
      · exact fv
      · have:=(aG.fresh b fv).2.2;rw [ag] at this;cases this
     refine ⟨(aG.mem b o ag).1.gQ (kC w _ b cl) (fun _=>Nat.le_refl _) eN.cell (fun i c ar=>⟨kC w _ c ?_,rfl⟩),(aG.mem b o ag).2⟩
     exact (aG.free c (by rw [(aG.ed b o ag i).2 c ar];simp)).2.2
 · by_cases mM:b=w.heap.size
   · simp [mM]
   · simp only [ae.cQ,if_neg mM] at ag ⊢
     exact aG.ed b o ag
 · have:=aG.free c ar
   refine ⟨this.1,?_,by simp;omega⟩
   simp only [ae.cQ]
   rw [if_neg (by omega)]
   exact this.2.1
 · simp at ag
   have:=aG.fresh b (by omega)
   refine ⟨this.1,this.2.1,?_⟩
   simp only [ae.cQ]
   rw [if_neg (by omega)]
   exact this.2.2
end
end Go.ba
end
section
namespace Go.ba
open Go
def iu:Value→U
 | .bool b=> .bool b
 | .int k n=> .int k n
 | .string s=> .str s.data.toList
 | .pointer none=> .eM
 | .slice none _ _=> .slice true []
 | .map none=> .iW
 | .nilFunc=> .jF
 | .nilIface=> .nilIface
 |_=> .aS
def jI:Value→U
 | .agg cs=> .agg (cs.toList.map iu)
 | .iface t v=> .iface t (iu v)
 |v=>iu v
def qH:Value→Bool
 | .int k n=>decide (k.min≤n)&&decide (n≤k.max)
 | .string s=>decide (s.size≤140737488355328)
 | .slice none n c=>n==0&&c==0
 |_=>true
def oj:Value→Bool
 | .agg cs=>cs.toList.all qH
 | .iface _ v=>qH v
 |v=>qH v
def kD:Operand→Bool
 | .const v=>oj v
 |_=>true
section
variable {w:World} {lim:Nat→Nat}
theorem yR {v:Value} (h:qH v=true):aP w lim v (iu v) []:=by
 cases v with
 |bool b=>exact .bool b
 |int k n=>simp [qH] at h;exact .int k n h.1 h.2
 |string s=>simp [qH] at h;exact .str s h
 |pointer a=>cases a with
  |none=>exact .eM
  |some a=>exact .aS _
 |slice a n c=>cases a with
  |none=>simp [qH] at h;obtain ⟨rfl,rfl⟩:=h;exact .fL true
  |some a=>exact .aS _
 |map r=>cases r with
  |none=>exact .iW
  |some r=>exact .aS _
 |nilFunc=>exact .jF
 |nilIface=>exact .nilIface
 |_=>exact .aS _
theorem yS {v:Value} (h:oj v=true):aP w lim v (jI v) []:=by
 cases v with
 |agg cs=>
  simp only [oj,List.all_eq_true] at h
  have:=aP.agg (w:=w) (lim:=lim) cs (cs.toList.map iu) (fun _=>[]) (by simp) (fun i ad=>by
   have eV:i<cs.size:=by simpa using ad
   have aM:cs.getD i undef=cs[i]:=by simp [Array.getD,eV]
   have aC:(cs.toList.map iu).getD i .aS=iu cs[i]:=by simp [List.getD,eV]
   rw [aM,aC]
   exact yR (h _ (by simp)))
  rw [flatMap_nil] at this
  exact this
 |iface t v=>exact .iface t v _ (yR h)
 |_=>exact yR h
end
def kb (fr:Fr):Operand→U
 | .tmp t=>((fr.get t).getD .aS).plain
 | .const v=>jI v
 | .global g=> .ptr ⟨g,0,none⟩
 | .func f=> .func (.func f) [] []
section
variable {F:Nat→Prop} {lim:Nat→Nat} {w:World} {n:Nat} {fr:Fr} {m:ae} {ca:Act} {bE:List Nat}
theorem tY (h:bc F lim w n fr m ca bE) {x:Operand} (aq:kD x=true):∃os,aP w lim (ca.eval x) (kb fr x) os∧os=[]:=by
 obtain ⟨os,cP,bW,h⟩:=h
 refine ⟨[],?_,rfl⟩
 cases x with
 |tmp t=>
  simp only [kb,Act.eval]
  cases bl:fr.get t with
  |none=>exact .aS _
  |some x=>exact (h.ey t x bl).2.plain
 |const v=>exact yS aq
 |global g=>exact .ptr _
 |func f=>exact .func _ #[] #[] [] [] rfl rfl (by simp) (by simp)
end
def jW (P:Program) (t:TypeId):Bool:=
 match P.underlying t with
 |some (.struct _)|some (.array _ _)=>true
 |_=>false
def dS (P:Program) (t:TypeId):Bool:=(P.underlying t).isSome
def qI (P:Program) (t:TypeId):U→U→Option (Prop×Bool)
 | .int k a, .int ea b=>some (k=ea∧P.underlying t=some (.int k),a==b)
 | .str a, .str b=>some (P.underlying t=some .string,a==b)
 | .bool a, .bool b=>some (P.underlying t=some .bool,a==b)
 |_,_=>none
def qJ (P:Program) (xs cA:List U):List Field→Option (Prop×Bool)
 |[]=>some (True,true)
 |f::cL=>
  match qI P f.type (xs.getD f.offset .aS) (cA.getD f.offset .aS),qJ P xs cA cL with
  |some (s,b),some (h1,gG)=>some (s∧f.name≠ "_"∧h1,b&&gG)
  |_,_=>none
def nE (P:Program) (op:BinOp) (t:TypeId) (x y:U):Option (Prop×U):=
 match op,x,y with
 | .add, .int k a, .int ea b=>if k=ea then some (True, .int k (k.wrap (a+b))) else none
 | .sub, .int k a, .int ea b=>if k=ea then some (True, .int k (k.wrap (a- b))) else none
 | .mul, .int k a, .int ea b=>if k=ea then some (True, .int k (k.wrap (a*b))) else none
 | .quo, .int k a, .int ea b=>if k=ea then some (b≠0, .int k (k.wrap (a.tdiv b))) else none
 | .rem, .int k a, .int ea b=>if k=ea then some (b≠0∧k.min≤a.tmod b∧a.tmod b≤k.max, .int k (a.tmod b)) else none
 | .and, .int k a, .int ea b=>if k=ea then some (True, .int k (k.wrap (BitVec.ofInt k.bits a &&& BitVec.ofInt k.bits b).toNat)) else none
 | .or, .int k a, .int ea b=>if k=ea then some (True, .int k (k.wrap (BitVec.ofInt k.bits a ||| BitVec.ofInt k.bits b).toNat)) else none
 | .xor, .int k a, .int ea b=>if k=ea then some (True, .int k (k.wrap (BitVec.ofInt k.bits a ^^^ BitVec.ofInt k.bits b).toNat)) else none
 | .shl, .int k a, .int _ b=>some (0≤b, .int k (k.wrap (a*2^(min b.toNat k.bits))))
 | .shr, .int k a, .int _ b=>some (0≤b∧k.min≤a.fdiv (2^(min b.toNat k.bits))∧a.fdiv (2^(min b.toNat k.bits))≤k.max, .int k (a.fdiv (2^(min b.toNat k.bits))))
 | .eql, .int k a, .int ea b=>if k=ea then some (True, .bool (a==b)) else none
 | .neq, .int k a, .int ea b=>if k=ea then some (True, .bool (!(a==b))) else none
 | .lss, .int k a, .int ea b=>if k=ea then some (True, .bool (decide (a<b))) else none
 | .leq, .int k a, .int ea b=>if k=ea then some (True, .bool (decide (a≤b))) else none
 | .gtr, .int k a, .int ea b=>if k=ea then some (True, .bool (decide (b<a))) else none
 | .geq, .int k a, .int ea b=>if k=ea then some (True, .bool (decide (b≤a))) else none
 | .add, .str a, .str b=>some (a.length+b.length≤140737488355328, .str (a++b))
 | .eql, .str a, .str b=>some (True, .bool (a==b))
 | .neq, .str a, .str b=>some (True, .bool (!(a==b)))
 | .lss, .str a, .str b=>some (True, .bool (Op.bytesLess a b))
 | .leq, .str a, .str b=>some (True, .bool (Op.bytesLess a b||a==b))
 | .gtr, .str a, .str b=>some (True, .bool (!(Op.bytesLess a b||a==b)))
 | .geq, .str a, .str b=>some (True, .bool (!(Op.bytesLess a b)))
 | .eql, .bool a, .bool b=>some (P.underlying t=some .bool, .bool (a==b))
 | .neq, .bool a, .bool b=>some (P.underlying t=some .bool, .bool (!(a==b)))
 | .eql, .nilIface, .iface _ _| .eql, .iface _ _, .nilIface=>some ((match P.underlying t with|some (.interface _)=>true|_=>false)=true, .bool false)
 | .neq, .nilIface, .iface _ _| .neq, .iface _ _, .nilIface=>some ((match P.underlying t with|some (.interface _)=>true|_=>false)=true, .bool true)
 | .eql, .iface u (.int k a), .iface lA (.int ea b)=>some ((match P.underlying t with|some (.interface _)=>true|_=>false)=true∧k=ea∧P.underlying u=some (.int k)∧(P.info? u).map (·.comparable)=some true, .bool (u==lA&&a==b))
 | .neq, .iface u (.int k a), .iface lA (.int ea b)=>some ((match P.underlying t with|some (.interface _)=>true|_=>false)=true∧k=ea∧P.underlying u=some (.int k)∧(P.info? u).map (·.comparable)=some true, .bool (!(u==lA&&a==b)))
 | .eql, .ptr _, .eM| .eql, .eM, .ptr _| .eql, .ref _, .eM| .eql, .eM, .ref _=>some ((match P.underlying t with|some (.pointer _)=>true|_=>false)=true, .bool false)
 | .neq, .ptr _, .eM| .neq, .eM, .ptr _| .neq, .ref _, .eM| .neq, .eM, .ref _=>some ((match P.underlying t with|some (.pointer _)=>true|_=>false)=true, .bool true)
 | .eql, .eM, .eM=>some ((match P.underlying t with|some (.pointer _)=>true|_=>false)=true, .bool true)
 | .neq, .eM, .eM=>some ((match P.underlying t with|some (.pointer _)=>true|_=>false)=true, .bool false)
 | .eql, .agg xs, .agg cA=>
   match P.underlying t with
   |some (.struct cL)=>(qJ P xs cA cL.toList).map fun p=>(P.stoodInHeld t=false∧P.eqGuardType P.depth t=false∧p.1, .bool p.2)
   |_=>none
 | .neq, .agg xs, .agg cA=>
   match P.underlying t with
   |some (.struct cL)=>(qJ P xs cA cL.toList).map fun p=>(P.stoodInHeld t=false∧P.eqGuardType P.depth t=false∧p.1, .bool (!p.2))
   |_=>none
 |_,_,_=>none
def ma (P:Program) (op:BinOp) (t:TypeId) (x y:Operand) (a b:U):Option (Prop×U):=
 match op,a,b with
 | .eql, .nilIface, .nilIface=>some ((match P.underlying t with|some (.interface _)=>true|_=>false)=true∧((x matches .const _)||(y matches .const _))=true, .bool true)
 | .neq, .nilIface, .nilIface=>some ((match P.underlying t with|some (.interface _)=>true|_=>false)=true∧((x matches .const _)||(y matches .const _))=true, .bool false)
 | .eql, .err _ e, .nilIface=>some ((match P.underlying t with|some (.interface _)=>true|_=>false)=true∧((x matches .const _)||(y matches .const _))=true, .bool (e==0))
 | .neq, .err _ e, .nilIface=>some ((match P.underlying t with|some (.interface _)=>true|_=>false)=true∧((x matches .const _)||(y matches .const _))=true, .bool (!(e==0)))
 | .eql, .opt b, .nilIface=>some ((match P.underlying t with|some (.interface _)=>true|_=>false)=true∧((x matches .const _)||(y matches .const _))=true, .bool (!b))
 | .neq, .opt b, .nilIface=>some ((match P.underlying t with|some (.interface _)=>true|_=>false)=true∧((x matches .const _)||(y matches .const _))=true, .bool b)
 | .eql, .err iv e, .iface u (.int k c)=>some ((match P.underlying t with|some (.interface _)=>true|_=>false)=true∧ .i64=k∧P.underlying iv=some (.int .i64)∧(P.info? iv).map (·.comparable)=some true∧iv=u∧c≠0, .bool (e==c))
 | .neq, .err iv e, .iface u (.int k c)=>some ((match P.underlying t with|some (.interface _)=>true|_=>false)=true∧ .i64=k∧P.underlying iv=some (.int .i64)∧(P.info? iv).map (·.comparable)=some true∧iv=u∧c≠0, .bool (!(e==c)))
 |_,_,_=>nE P op t a b
def apart (P:Program) (t:TypeId) (l:List U) (off:Nat):U:=
 if jW P t then .agg ((l.drop off).take (P.cellsOf t)) else l.getD off .aS
def jJ (P:Program) (t:TypeId) (l:List U) (off:Nat):Prop:=
 dS P t=true∧(if jW P t then off+P.cellsOf t≤l.length else off<l.length)
def kE (low:Option U) (d:Nat):Option Int:=
 match low with
 |none=>some d
 |some (.int _ n)=>some n
 |_=>none
def oY (c:UInt8):U:= .int .u8 c.toNat
def byteOf:U→UInt8
 | .int _ n=>UInt8.ofNat n.toNat
 |_=>0
theorem JV (c:UInt8):byteOf (oY c)=c:=by simp [byteOf,oY]
theorem JW (l:List UInt8):(l.map oY).map byteOf=l:=by
 rw [List.map_map]
 have:byteOf∘oY=id:=by funext c;exact JV c
 rw [this,List.map_id]
def un:U→U
 | .lazy true x=>x
 |x=>x
def bO (P:Program) (m:ae) (a:Operand→U):Op→Option (Prop×U)
 | .move x| .assign x=>some (True,a x)
 | .pick c x y=>
   match un (a c),a x,a y with
   | .bool b, .bool p, .bool q=>some (True, .bool (if b then p else q))
   | .bool b, .lazy g (.bool p), .bool q=>some (b=true→g=true, .bool (if b then p else q))
   | .bool b, .bool p, .lazy g (.bool q)=>some (b=false→g=true, .bool (if b then p else q))
   | .bool b, .lazy g (.bool p), .lazy h (.bool q)=>some ((b=true→g=true)∧(b=false→h=true), .bool (if b then p else q))
   |_,_,_=>none
 | .load t x=>
   match a x with
   | .ref l=>some (jJ P t l 0,apart P t l 0)
   | .ptr ⟨b,off,none⟩=>
     match m b with
     |some (.cells l)=>some (jJ P t l off,(apart P t l off).plain)
     |_=>none
   |_=>none
 | .nilCheck x=>
   match a x with
   | .ref l=>some (True, .ref l)
   | .ptr p=>some (True, .ptr p)
   | .func (.func f) b c=>some (True, .func (.func f) b c)
   |_=>none
 | .binOp op t x y _=>ma P op t x y (a x) (a y)
 | .unOp op _ x=>
   match op,a x with
   | .not, .bool b=>some (True, .bool (!b))
   | .neg, .int k n=>some (True, .int k (k.wrap (0- n)))
   |_,_=>none
 | .convert s d x=>
   match P.underlying d,a x with
   |some (.int k), .int _ n=>some (dS P s=true, .int k (k.wrap n))
   |some .string, .str l=>some (dS P s=true, .str l)
   |some .string, .slice _ l=>some (∃e,P.underlying s=some (.slice e)∧P.underlying e=some (.int .u8)∧∀x∈l,∃k:Int,x= .int .u8 k, .str (l.map byteOf))
   |_,_=>none
 | .makeInterface t x=>
   match P.underlying t with
   |some (.interface _)=>none
   |some _=>some (True, .iface t (a x))
   |none=>none
 | .fieldAddr s x f=>
   match P.underlying s with
   |some (.struct cL)=>
    match cL[f]? with
    |some fd=>
     match a x with
     | .ref l=>some (dS P fd.type=true∧P.cellsOf fd.type≠0∧fd.offset<l.length, .ref (l.drop fd.offset))
     | .ptr ⟨b,off,none⟩=>some (dS P fd.type=true∧P.cellsOf fd.type≠0, .ptr ⟨b,off+fd.offset,none⟩)
     |_=>none
    |none=>none
   |_=>none
 | .field t x f=>
   match P.underlying t with
   |some (.struct cL)=>
    match cL[f]?,a x with
    |some fd, .agg l=>some (jJ P fd.type l fd.offset,apart P fd.type l fd.offset)
    |_,_=>none
   |_=>none
 | .indexAddr t x i=>
   match P.underlying t with
   |some (.slice e)=>
    match a x,a i with
    | .slice _ l, .int _ k=>some (dS P e=true∧P.cellsOf e≠0∧0≤k∧k<l.length∧(l.getD k.toNat .aS).cells.length=P.cellsOf e, .ref (l.getD k.toNat .aS).cells)
    | .ms ⟨b,off,none⟩ len _, .int _ k=>some (dS P e=true∧0≤k∧k<len, .ptr ⟨b,off+k.toNat*P.cellsOf e,none⟩)
    |_,_=>none
   |_=>none
 | .index t x i=>
   match P.underlying t,a x,a i with
   |some .string, .str l, .int _ k=>some (0≤k∧k<l.length, .int .u8 (l.getD k.toNat 0).toNat)
   |_,_,_=>none
 | .extract x i=>
   match a x with
   | .tuple l=>some (i<l.length,l.getD i .aS)
   |_=>none
 | .slice t x bw ad none=>
   match P.underlying t,a x with
   |some .string, .str l=>
    match kE (bw.map a) 0,kE (ad.map a) l.length with
    |some p,some q=>some (0≤p∧p≤q∧q≤l.length, .str ((l.drop p.toNat).take (q- p).toNat))
    |_,_=>none
   |some (.slice e), .slice _ l=>
    match kE (bw.map a) 0,kE (ad.map a) l.length with
    |some p,some q=>some (dS P e=true∧0≤p∧p≤q∧q≤l.length∧∀x∈l,x.cells.length=P.cellsOf e, .slice false ((l.drop p.toNat).take (q- p).toNat))
    |_,_=>none
   |some (.slice e), .ms ⟨b,off,none⟩ len cap=>
    match kE (bw.map a) 0,kE (ad.map a) len with
    |some p,some q=>some (dS P e=true∧0≤p∧p≤q∧q≤len,if p<cap then .ms ⟨b,off+p.toNat*P.cellsOf e,none⟩ (q- p).toNat (cap- p.toNat) else .fL)
    |_,_=>none
   |_,_=>none
 | .typeAssert x _ t true=>
   match P.underlying t,a x with
   |some (.interface _),_=>none
   |some _, .iface u v=>if u=t then some (True, .tuple [v, .bool true]) else none
   |some _, .err u e=>if u=t then some ((P.info? t).bind (·.zero)=some (.int .i64 0), .tuple [.int .i64 e, .bool (!(e==0))]) else none
   |_,_=>none
 | .call ⟨.builtin .len,args,cT⟩=>
   match args[0]?,cT[0]? with
   |some x,some t=>
    match P.underlying t,a x with
    |some .string, .str l=>some (True, .int .i64 l.length)
    |some (.slice _), .slice _ l=>some (True, .int .i64 l.length)
    |some (.slice _), .ms _ n _=>some (n≤9223372036854775807, .int .i64 n)
    |some (.slice _), .fL=>some (True, .int .i64 0)
    |some (.map _ _), .iW=>some (True, .int .i64 0)
    |some (.map _ _), .map b=>
     match m b with
     |some (.map l)=>some (True, .int .i64 l.length)
     |_=>none
    |_,_=>none
   |_,_=>none
 | .call ⟨.builtin .max,args,_⟩=>
   match args.toList with
   |[x,y]=>
    match a x,a y with
    | .int k p, .int ea q=>if k=ea then some (True, .int k (if q>p then q else p)) else none
    |_,_=>none
   |_=>none
 | .call ⟨.builtin .min,args,_⟩=>
   match args.toList with
   |[x,y]=>
    match a x,a y with
    | .int k p, .int ea q=>if k=ea then some (True, .int k (if q<p then q else p)) else none
    |_,_=>none
   |_=>none
 |_=>none
end Go.ba
end
section
namespace Go.ba
open Go
theorem mN (k:IntKind) (n:Int):k.min≤k.wrap n∧k.wrap n≤k.max:=by
 cases k<;>simp [IntKind.min,IntKind.max,IntKind.wrap,IntKind.signed,IntKind.bits]<;>(repeat' split)<;>omega
theorem C1 (k:IntKind) (n:Int) (J:k.min≤n) (aa:n≤k.max):k.wrap n=n:=by
 cases k<;>simp [IntKind.min,IntKind.max,IntKind.wrap,IntKind.signed,IntKind.bits] at*<;>(repeat' split)<;>omega
section
variable {P:Program} {w:World} {lim:Nat→Nat}
theorem fi {t:TypeId} {d:TypeDesc} (h:P.underlying t=some d):(underlying t).run P w= .ok d w:=run_underlying h w
theorem lB {t:TypeId} (h:dS P t=true):(sizeOf t).run P w= .ok (P.cellsOf t) w:=by
 cases ad:P.info? t with
 |none=>simp [dS,Program.underlying,ad] at h
 |some i=>simp [sizeOf,typeInfo,ad,Program.cellsOf]
theorem r6 {t:TypeId} (h:dS P t=true):(isAgg t).run P w= .ok (jW P t) w:=by
 cases bo:P.underlying t with
 |none=>simp [dS,bo] at h
 |some d=>simp [isAgg,fi bo,jW,bo];cases d<;>simp
theorem JX (d:Nat) {t u lA:TypeId} {k:IntKind} {a b:Int} (aB:(match P.underlying t with|some (.interface _)=>true|_=>false)=true)
 (hu:P.underlying u=some (.int k)) (ar:(P.info? u).map (·.comparable)=some true):
 (Op.equalIn (d+2) t (.iface u (.int k a)) (.iface lA (.int k b))).run P w= .ok (u==lA&&a==b) w:=by
 cases bo:P.underlying t with
 |none=>simp [bo] at aB
 |some e=>
  cases e<;>simp [bo] at aB
  rename_i ms
  cases ad:P.info? u with
  |none=>simp [ad] at ar
  |some i=>
   have JY:i.comparable=true:=by simpa [ad] using ar
   by_cases e:u=lA
   · subst e
     simp [Op.equalIn,fi bo,typeInfo,ad,JY,fi hu]
   · simp [Op.equalIn,fi bo,e]
theorem JZ (d:Nat) {t:TypeId} {u:TypeId} {v:Value} (aB:(match P.underlying t with|some (.interface _)=>true|_=>false)=true):(Op.equalIn (d+1) t .nilIface (.iface u v)).run P w= .ok false w:=by
 cases bo:P.underlying t with
 |none=>simp [bo] at aB
 |some e=>cases e<;>simp [bo] at aB;simp [Op.equalIn,fi bo]
theorem yT {t:TypeId} {u:TypeId} {v:Value} (aB:(match P.underlying t with|some (.interface _)=>true|_=>false)=true):(Op.equal t .nilIface (.iface u v)).run P w= .ok false w:=JZ 9999 aB
theorem J0 (d:Nat) {t:TypeId} {u:TypeId} {v:Value} (aB:(match P.underlying t with|some (.interface _)=>true|_=>false)=true):(Op.equalIn (d+1) t (.iface u v) .nilIface).run P w= .ok false w:=by
 cases bo:P.underlying t with
 |none=>simp [bo] at aB
 |some e=>cases e<;>simp [bo] at aB;simp [Op.equalIn,fi bo]
theorem tZ {t:TypeId} {u:TypeId} {v:Value} (aB:(match P.underlying t with|some (.interface _)=>true|_=>false)=true):(Op.equal t (.iface u v) .nilIface).run P w= .ok false w:=J0 9999 aB
theorem J1 (d:Nat) {t:TypeId} (aB:(match P.underlying t with|some (.interface _)=>true|_=>false)=true):(Op.equalIn (d+1) t .nilIface .nilIface).run P w= .ok true w:=by
 cases bo:P.underlying t with
 |none=>simp [bo] at aB
 |some e=>cases e<;>simp [bo] at aB;simp [Op.equalIn,fi bo]
theorem r7 {t:TypeId} (aB:(match P.underlying t with|some (.interface _)=>true|_=>false)=true):(Op.equal t .nilIface .nilIface).run P w= .ok true w:=J1 9999 aB
theorem J2 (d:Nat) {t:TypeId} {a:Addr} (aB:(match P.underlying t with|some (.pointer _)=>true|_=>false)=true):(Op.equalIn (d+1) t (.pointer (some a)) (.pointer none)).run P w= .ok false w:=by
 cases bo:P.underlying t with
 |none=>simp [bo] at aB
 |some e=>cases e<;>simp [bo] at aB;simp [Op.equalIn,fi bo]
theorem J3 {t:TypeId} {a:Addr} (aB:(match P.underlying t with|some (.pointer _)=>true|_=>false)=true):(Op.equal t (.pointer (some a)) (.pointer none)).run P w= .ok false w:=J2 9999 aB
theorem J4 (d:Nat) {t:TypeId} {a:Addr} (aB:(match P.underlying t with|some (.pointer _)=>true|_=>false)=true):(Op.equalIn (d+1) t (.pointer none) (.pointer (some a))).run P w= .ok false w:=by
 cases bo:P.underlying t with
 |none=>simp [bo] at aB
 |some e=>cases e<;>simp [bo] at aB;simp [Op.equalIn,fi bo]
theorem J5 {t:TypeId} {a:Addr} (aB:(match P.underlying t with|some (.pointer _)=>true|_=>false)=true):(Op.equal t (.pointer none) (.pointer (some a))).run P w= .ok false w:=J4 9999 aB
theorem J6 (d:Nat) {t:TypeId} (aB:(match P.underlying t with|some (.pointer _)=>true|_=>false)=true):(Op.equalIn (d+1) t (.pointer none) (.pointer none)).run P w= .ok true w:=by
 cases bo:P.underlying t with
 |none=>simp [bo] at aB
 |some e=>cases e<;>simp [bo] at aB;simp [Op.equalIn,fi bo]
theorem J7 {t:TypeId} (aB:(match P.underlying t with|some (.pointer _)=>true|_=>false)=true):(Op.equal t (.pointer none) (.pointer none)).run P w= .ok true w:=J6 9999 aB
theorem J8 (d:Nat) {t:TypeId} {a b:Bool} (aB:P.underlying t=some .bool):(Op.equalIn (d+1) t (.bool a) (.bool b)).run P w= .ok (a==b) w:=by
 simp [Op.equalIn,fi aB]
theorem J9 {t:TypeId} {a b:Bool} (aB:P.underlying t=some .bool):(Op.equal t (.bool a) (.bool b)).run P w= .ok (a==b) w:=J8 9999 aB
theorem yU {t u lA:TypeId} {k:IntKind} {a b:Int} (aB:(match P.underlying t with|some (.interface _)=>true|_=>false)=true)
 (hu:P.underlying u=some (.int k)) (ar:(P.info? u).map (·.comparable)=some true):
 (Op.equal t (.iface u (.int k a)) (.iface lA (.int k b))).run P w= .ok (u==lA&&a==b) w:=JX 9998 aB hu ar
theorem Ka {t:TypeId} {kF jm:Value} {x y:U} {side:Prop} {b:Bool} (d:Nat) (h:qI P t x y=some (side,b)) (al:side) {jK jL:List Nat} (aq:aP w lim kF x jK) (aK:aP w lim jm y jL):
 (Op.equalIn (d+1) t kF jm).run P w= .ok b w∧jW P t=false:=by
 unfold qI at h
 split at h
 · simp only [Option.some.injEq,Prod.mk.injEq] at h
   obtain ⟨rfl,rfl⟩:=h
   obtain ⟨rfl,aB⟩:=al
   cases aq
   cases aK
   exact ⟨run_equalIn_int w d t _ _ _ _ aB,by simp [jW,aB]⟩
 · simp only [Option.some.injEq,Prod.mk.injEq] at h
   obtain ⟨rfl,rfl⟩:=h
   cases aq
   cases aK
   refine ⟨?_,by simp [jW,al]⟩
   rw [run_equalIn_string w d t _ _ al,ByteArray.toList_eq,ByteArray.toList_eq]
 · simp only [Option.some.injEq,Prod.mk.injEq] at h
   obtain ⟨rfl,rfl⟩:=h
   cases aq
   cases aK
   exact ⟨run_equalIn_bool' w d t _ _ al,by simp [jW,al]⟩
 · cases h
theorem Kb {t:TypeId} {x y:U} {side:Prop} {b:Bool} (h:qI P t x y=some (side,b)) (al:side):dS P t=true:=by
 unfold qI at h
 split at h
 · simp only [Option.some.injEq,Prod.mk.injEq] at h
   obtain ⟨rfl,rfl⟩:=h
   simp [dS,al.2]
 · simp only [Option.some.injEq,Prod.mk.injEq] at h
   obtain ⟨rfl,rfl⟩:=h
   simp [dS,al]
 · simp only [Option.some.injEq,Prod.mk.injEq] at h
   obtain ⟨rfl,rfl⟩:=h
   simp [dS,al]
 · cases h
theorem Kc {t:TypeId} {x y:U} {r:Prop×Bool} (h:qI P t x y=some r):x≠ .aS∧y≠ .aS:=by
 unfold qI at h
 split at h
 · exact ⟨(nomatch ·),(nomatch ·)⟩
 · exact ⟨(nomatch ·),(nomatch ·)⟩
 · exact ⟨(nomatch ·),(nomatch ·)⟩
 · cases h
theorem C2 {l:List U} {i:Nat} (h:l.getD i .aS≠ .aS):i<l.length:=by
 by_cases ad:i<l.length
 · exact ad
 · exact (h (by simp [List.getD,List.getElem?_eq_none (Nat.not_lt.1 ad)])).elim
theorem C3 {t:TypeId} {cs:Array Value} {k:Nat} (hu:dS P t=true) (aX:jW P t=false) (ak:k<cs.size):(part t cs k).run P w= .ok (cs.getD k undef) w:=by
 have this:cs[k]?=some (cs.getD k undef):=by simp [Array.getD,ak]
 unfold part
 simp only [Sem.run_bind,r6 hu,aX,Result.andThen_ok,this]
 rfl
theorem Kd {oZ o0:Array Value} {xs cA:List U} (aq:oZ.size=xs.length) (aK:o0.size=cA.length) {jK jL:Nat→List Nat} (rx:∀i,i<xs.length→aP w lim (oZ.getD i undef) (xs.getD i .aS) (jK i)) (Ke:∀i,i<cA.length→aP w lim (o0.getD i undef) (cA.getD i .aS) (jL i)) (d:Nat):
 ∀(cL:List Field) {side:Prop} {b:Bool},qJ P xs cA cL=some (side,b)→side→(Op.eqFields (d+1) oZ o0 cL).run P w= .ok b w:=by
 intro cL
 induction cL with
 |nil=>
  intro side b h al
  simp only [qJ,Option.some.injEq,Prod.mk.injEq] at h
  rw [←h.2];rfl
 |cons f cL aQ=>
  intro side b h al
  unfold qJ at h
  split at h
  · next s ia h1 jX J aa=>
    simp only [Option.some.injEq,Prod.mk.injEq] at h
    obtain ⟨rfl,rfl⟩:=h
    obtain ⟨ua,aI,wC⟩:=al
    obtain ⟨h2,e3⟩:=Kc J
    have hg:=C2 h2
    have gR:=C2 e3
    have hu:=Kb J ua
    obtain ⟨aM,aC⟩:=Ka d J ua (rx _ hg) (Ke _ gR)
    have dv:=C3 (P:=P) (w:=w) hu aC (show f.offset<oZ.size by omega)
    have fC:=C3 (P:=P) (w:=w) hu aC (show f.offset<o0.size by omega)
    simp only [Op.eqFields,if_pos aI,Sem.run_bind,dv,fC,aM,Result.andThen_ok,Sem.run_ite,Sem.run_pure]
    cases ia with
    |true=>simpa using aQ aa wC
    |false=>simp
  · cases h
theorem C4 {t:TypeId} {jK jL:Operand} {cL:Array Field} {kF jm:Value} {xs cA:List U} {side:Prop} {b:Bool} (aB:P.underlying t=some (.struct cL)) (db:P.stoodInHeld t=false) (bl:P.eqGuardType P.depth t=false)
 (h:qJ P xs cA cL.toList=some (side,b)) (al:side) {o ei:List Nat} (aq:aP w lim kF (.agg xs) o) (aK:aP w lim jm (.agg cA) ei):
 (do eqGuard .eql t jK jL kF jm;binOp .eql t kF jm:Sem Value).run P w= .ok (.bool b) w∧(do eqGuard .neq t jK jL kF jm;binOp .neq t kF jm:Sem Value).run P w= .ok (.bool (!b)) w:=by
 cases aq with
 |agg oZ _ T4 J lC=>
  cases aK with
  |agg o0 _ C5 aa k0=>
   have aN:P.fieldsOf t=cL:=by simp [Program.fieldsOf,aB]
   have key:=Kd J aa lC k0 9998 _ h al
   have he:(Op.equalIn 10000 t (.agg oZ) (.agg o0)).run P w= .ok b w:=by
    rw [run_equalIn_struct w 9999 t oZ o0 (by rw [aN];exact aB) db,aN];exact key
   constructor
   · simp only [Sem.run_bind,run_eqGuard_agg w _ t jK jL oZ o0 bl,Result.andThen_ok,run_eql_struct,he]
   · simp only [Sem.run_bind,run_eqGuard_agg w _ t jK jL oZ o0 bl,Result.andThen_ok,run_neq_struct,he]
set_option maxHeartbeats 4000000 in
theorem Kf {op:BinOp} {t:TypeId} {jK jL:Operand} {kF jm:Value} {x y r:U} {side:Prop} (h:nE P op t x y=some (side,r)) (al:side)
 (aq:aP w lim kF x []) (aK:aP w lim jm y []):∃v,(do eqGuard op t jK jL kF jm;binOp op t kF jm:Sem Value).run P w= .ok v w∧aP w lim v r []:=by
 unfold nE at h
 split at h
 case h_17=>
  simp only [Option.some.injEq,Prod.mk.injEq] at h
  obtain ⟨rfl,rfl⟩:=h
  cases aq with|str s ua=>
  cases aK with|str h1 wC=>
  have cJ:s.size+h1.size≤140737488355328:=by simpa using al
  refine ⟨.string (s++h1),?_,?_⟩
  · simp [eqGuard,binOp,run_string_add_sum w s h1 (by omega)]
  · have:=aP.str (w:=w) (lim:=lim) (s++h1) (by simpa using cJ)
    simpa using this
 case h_9=>
  simp only [Option.some.injEq,Prod.mk.injEq] at h
  obtain ⟨rfl,rfl⟩:=h
  cases aq with|int k a bw ad=>
  cases aK with|int ea b yV eV=>
  have ag:=Int.not_lt.2 al
  refine ⟨_,?_, .int _ _ (mN _ _).1 (mN _ _).2⟩
  simp [eqGuard,binOp,Op.shift,ag]
 case h_10=>
  simp only [Option.some.injEq,Prod.mk.injEq] at h
  obtain ⟨rfl,rfl⟩:=h
  cases aq with|int k a bw ad=>
  cases aK with|int ea b yV eV=>
  obtain ⟨dh,mb,o1⟩:=al
  have ag:=Int.not_lt.2 dh
  refine ⟨_,?_, .int _ _ mb o1⟩
  simp [eqGuard,binOp,Op.shift,ag]
 case h_42=>
  split at h
  · next cL jn=>
    obtain ⟨p,aU,h⟩:=Option.map_eq_some_iff.1 h
    obtain ⟨ps,Kg⟩:=p
    simp only [Prod.mk.injEq] at h
    obtain ⟨rfl,rfl⟩:=h
    exact ⟨_,(C4 jn al.1 al.2.1 aU al.2.2 aq aK).1, .bool _⟩
  · cases h
 case h_43=>
  split at h
  · next cL jn=>
    obtain ⟨p,aU,h⟩:=Option.map_eq_some_iff.1 h
    obtain ⟨ps,Kg⟩:=p
    simp only [Prod.mk.injEq] at h
    obtain ⟨rfl,rfl⟩:=h
    exact ⟨_,(C4 jn al.1 al.2.1 aU al.2.2 aq aK).2, .bool _⟩
  · cases h
 all_goals first
  |(simp only [Option.some.injEq,Prod.mk.injEq] at h
    obtain ⟨rfl,rfl⟩:=h
    cases aq with|str s ua=>
    cases aK with|str h1 wC=>
    refine ⟨_,?_, .bool _⟩
    simp [eqGuard,binOp,Op.stringOp,ByteArray.toList_eq]
    done)
  |(split at h
    · rename_i ak
      subst ak
      simp only [Option.some.injEq,Prod.mk.injEq] at h
      obtain ⟨rfl,rfl⟩:=h
      cases aq with|int k a bw ad=>
      cases aK with|int ea b yV eV=>
      first
      |(refine ⟨_,?_, .int _ _ (mN _ _).1 (mN _ _).2⟩
        simp [eqGuard,binOp,Op.intArith,Op.intBits,Op.intDiv,al]
        done)
      |(refine ⟨_,?_, .bool _⟩
        simp [eqGuard,binOp,Op.intCmp,bne]
        done)
      |(refine ⟨_,?_, .int _ _ al.2.1 al.2.2⟩
        simp [eqGuard,binOp,Op.intDiv,al.1]
        done)
    · cases h)
  |(simp only [Option.some.injEq,Prod.mk.injEq] at h
    obtain ⟨rfl,rfl⟩:=h
    cases aq with|int k a bw ad=>
    cases aK with|int ea b yV eV=>
    first
    |(refine ⟨_,?_, .int _ _ (mN _ _).1 (mN _ _).2⟩
      simp [eqGuard,binOp,Op.shift,show ¬b<0 from by omega]
      done)
    |(refine ⟨_,?_, .int _ _ al.2.1 al.2.2⟩
      simp [eqGuard,binOp,Op.shift,show ¬b<0 from by omega]
      done))
  |(simp only [Option.some.injEq,Prod.mk.injEq] at h
    obtain ⟨rfl,rfl⟩:=h
    cases aq with|bool a=>
    cases aK with|bool b=>
    refine ⟨_,?_, .bool _⟩
    simp [eqGuard,binOp,J9 al]
    done)
  |(simp only [Option.some.injEq,Prod.mk.injEq] at h
    obtain ⟨rfl,rfl⟩:=h
    cases aq
    cases aK
    refine ⟨_,?_, .bool _⟩
    simp [eqGuard,binOp,yT al,tZ al]
    done)
  |(simp only [Option.some.injEq,Prod.mk.injEq] at h
    obtain ⟨rfl,rfl⟩:=h
    cases aq
    cases aK
    refine ⟨_,?_, .bool _⟩
    simp [eqGuard,binOp,J3 al,J5 al,J7 al]
    done)
  |(simp only [Option.some.injEq,Prod.mk.injEq] at h
    obtain ⟨rfl,rfl⟩:=h
    obtain ⟨J,rfl,ai,aJ⟩:=al
    cases aq with|iface _ _ _ aq=>
    cases aK with|iface _ _ _ aK=>
    cases aq
    cases aK
    refine ⟨_,?_, .bool _⟩
    simp [eqGuard,binOp,yU J ai aJ]
    done)
  |cases h
  |skip
theorem Kh {op:BinOp} {t:TypeId} {jK jL:Operand} {kF jm:Value} {x y r:U} {side:Prop} (h:ma P op t jK jL x y=some (side,r)) (al:side)
 (aq:aP w lim kF x []) (aK:aP w lim jm y []):∃v,(do eqGuard op t jK jL kF jm;binOp op t kF jm:Sem Value).run P w= .ok v w∧aP w lim v r []:=by
 unfold ma at h
 split at h
 · simp only [Option.some.injEq,Prod.mk.injEq] at h
   obtain ⟨rfl,rfl⟩:=h
   cases aq
   cases aK
   refine ⟨_,?_, .bool _⟩
   have aa:=al.2
   simp [eqGuard,binOp,r7 al.1]
   cases jK<;>cases jL<;>simp_all
 · simp only [Option.some.injEq,Prod.mk.injEq] at h
   obtain ⟨rfl,rfl⟩:=h
   cases aq
   cases aK
   refine ⟨_,?_, .bool _⟩
   have aa:=al.2
   simp [eqGuard,binOp,r7 al.1]
   cases jK<;>cases jL<;>simp_all
 · simp only [Option.some.injEq,Prod.mk.injEq] at h
   obtain ⟨rfl,rfl⟩:=h
   cases aK
   cases aq with
   |lx iv=>
    refine ⟨_,?_, .bool _⟩
    have aa:=al.2
    simp [eqGuard,binOp,r7 al.1]
    cases jK<;>cases jL<;>simp_all
   |iX iv e aG bw ad=>
    refine ⟨_,?_, .bool _⟩
    simp [eqGuard,binOp,tZ al.1,aG]
 · simp only [Option.some.injEq,Prod.mk.injEq] at h
   obtain ⟨rfl,rfl⟩:=h
   cases aK
   cases aq with
   |lx iv=>
    refine ⟨_,?_, .bool _⟩
    have aa:=al.2
    simp [eqGuard,binOp,r7 al.1]
    cases jK<;>cases jL<;>simp_all
   |iX iv e aG bw ad=>
    refine ⟨_,?_, .bool _⟩
    simp [eqGuard,binOp,tZ al.1,aG]
 · simp only [Option.some.injEq,Prod.mk.injEq] at h
   obtain ⟨rfl,rfl⟩:=h
   cases aK
   cases aq with
   |nB=>
    refine ⟨_,?_, .bool _⟩
    have aa:=al.2
    simp [eqGuard,binOp,r7 al.1]
    cases jK<;>cases jL<;>simp_all
   |nC iv v=>
    refine ⟨_,?_, .bool _⟩
    simp [eqGuard,binOp,tZ al.1]
 · simp only [Option.some.injEq,Prod.mk.injEq] at h
   obtain ⟨rfl,rfl⟩:=h
   cases aK
   cases aq with
   |nB=>
    refine ⟨_,?_, .bool _⟩
    have aa:=al.2
    simp [eqGuard,binOp,r7 al.1]
    cases jK<;>cases jL<;>simp_all
   |nC iv v=>
    refine ⟨_,?_, .bool _⟩
    simp [eqGuard,binOp,tZ al.1]
 · simp only [Option.some.injEq,Prod.mk.injEq] at h
   obtain ⟨rfl,rfl⟩:=h
   obtain ⟨J,rfl,ai,aJ,rfl,aY⟩:=al
   cases aK with|iface _ _ _ aK=>
   cases aK
   cases aq with
   |lx iv=>
    refine ⟨_,?_, .bool _⟩
    simp [eqGuard,binOp,yT J,Ne.symm aY]
   |iX iv e aG bw ad=>
    refine ⟨_,?_, .bool _⟩
    simp [eqGuard,binOp,yU J ai aJ]
 · simp only [Option.some.injEq,Prod.mk.injEq] at h
   obtain ⟨rfl,rfl⟩:=h
   obtain ⟨J,rfl,ai,aJ,rfl,aY⟩:=al
   cases aK with|iface _ _ _ aK=>
   cases aK
   cases aq with
   |lx iv=>
    refine ⟨_,?_, .bool _⟩
    simp [eqGuard,binOp,yT J,Ne.symm aY]
   |iX iv e aG bw ad=>
    refine ⟨_,?_, .bool _⟩
    simp [eqGuard,binOp,yU J ai aJ]
 · exact Kf h al aq aK
end
end Go.ba
end
section
namespace Go.ba
open Go
section
variable {P:Program} {w:World} {lim:Nat→Nat}
theorem addr_add (b off i:Nat):(⟨b,off,none⟩:Addr).add i=⟨b,off+i,none⟩:=by
 unfold Addr.add
 split
 · rename_i h;subst h;rfl
 · rfl
theorem C6 (b off n:Nat) (f:Nat→Value) (h:∀j,j<n→w.cell? ⟨b,off+j,none⟩=some (f j)):
 (loadCells ⟨b,off,none⟩ n).run P w= .ok ((List.range n).map f).toArray w:=by
 have:=run_loadCells_list (P:=P) w ⟨b,off,none⟩ ((List.range n).map f) (fun j v bn=>by
  rw [addr_add]
  by_cases aA:j<n
  · simp [aA] at bn
    rw [h j aA,bn]
  · simp [aA] at bn)
 simpa using this
theorem Ki (n i:Nat) (f:Nat→Value) (ad:i<n):((List.range n).map f).toArray.getD i undef=f i:=by
 simp [Array.getD,ad]
theorem Kj (n:Nat) (f:Nat→Value) (xs:List U) (aI:xs.length=n) (h:∀i,i<n→aP w lim (f i) (xs.getD i .aS) []):
 aP w lim (.agg ((List.range n).map f).toArray) (.agg xs) []:=by
 have:=aP.agg (w:=w) (lim:=lim) ((List.range n).map f).toArray xs (fun _=>[]) (by simp [aI]) (fun i ad=>by rw [Ki n i f (by omega)];exact h i (by omega))
 rw [flatMap_nil] at this
 exact this
theorem yW (l:List U) (off k i:Nat) (ad:i<k):((l.drop off).take k).getD i .aS=l.getD (off+i) .aS:=by
 simp [List.getD_eq_getElem?_getD,List.getElem?_take,ad]
theorem ub {t:TypeId} {b off:Nat} {l:List U} {f:Nat→Value} {k:Nat} (bL:jJ P t l k)
 (ar:∀i,i<l.length→w.cell? ⟨b,off+i,none⟩=some (f i)) (au:∀i,i<l.length→aP w lim (f i) (l.getD i .aS) []):
 ∃v,(loadVar t ⟨b,off+k,none⟩).run P w= .ok v w∧aP w lim v (apart P t l k) []:=by
 obtain ⟨hu,bL⟩:=bL
 by_cases aX:jW P t=true
 · simp only [aX,if_true] at bL
   have av:=C6 (P:=P) (w:=w) b (off+k) (P.cellsOf t) (fun j=>f (k+j)) (fun j aA=>by rw [Nat.add_assoc];exact ar (k+j) (by omega))
   refine ⟨.agg ((List.range (P.cellsOf t)).map fun j=>f (k+j)).toArray,?_,?_⟩
   · simp [loadVar,r6 hu,aX,lB hu,av]
   · simp only [apart,aX,if_true]
     refine Kj _ _ _ (by simp;omega) (fun i ad=>?_)
     rw [yW _ _ _ _ ad]
     exact au (k+i) (by omega)
 · simp only [aX] at bL
   refine ⟨f k,?_,?_⟩
   · simp [loadVar,r6 hu,aX,ar k bL]
   · simp only [apart,aX]
     exact au k bL
theorem Kk {t:TypeId} {cs:Array Value} {l:List U} {k:Nat} (bL:jJ P t l k) (al:cs.size=l.length)
 (au:∀i,i<l.length→aP w lim (cs.getD i undef) (l.getD i .aS) []):∃v,(part t cs k).run P w= .ok v w∧aP w lim v (apart P t l k) []:=by
 obtain ⟨hu,bL⟩:=bL
 by_cases aX:jW P t=true
 · simp only [aX,if_true] at bL
   refine ⟨.agg (cs.extract k (k+P.cellsOf t)),?_,?_⟩
   · simp [part,r6 hu,aX,lB hu]
   · simp only [apart,aX,if_true]
     have:=aP.agg (w:=w) (lim:=lim) (cs.extract k (k+P.cellsOf t)) ((l.drop k).take (P.cellsOf t)) (fun _=>[]) (by simp [al];omega) (fun i ad=>by
      have eV:i<P.cellsOf t:=by simp at ad;omega
      rw [yW _ _ _ _ eV]
      have:=au (k+i) (by omega)
      have e:(cs.extract k (k+P.cellsOf t)).getD i undef=cs.getD (k+i) undef:=by
       simp [Array.getD_eq_getD_getElem?,Array.getElem?_extract]
       rw [if_pos (by omega)]
      rw [e];exact this)
     rw [flatMap_nil] at this
     exact this
 · simp only [aX] at bL
   refine ⟨cs.getD k undef,?_,?_⟩
   · have:k<cs.size:=by rw [al];exact bL
     simp [part,r6 hu,aX,this]
   · simp only [apart,aX]
     exact au k bL
theorem yX {os:Nat→List Nat} {n:Nat} (h:(List.range n).flatMap os=[]):∀i,i<n→os i=[]:=by
 intro i ad
 simp [List.flatMap_eq_nil_iff] at h
 exact h i ad
theorem Kl {v:Value} {xs:List U} {o:List Nat} (h:aP w lim v (.agg xs) o) (aL:o=[]):∃cs:Array Value,v= .agg cs∧cs.size=xs.length∧∀i,i<xs.length→aP w lim (cs.getD i undef) (xs.getD i .aS) []:=by
 cases h with
 |agg cs _ os h au=>exact ⟨cs,rfl,h,fun i ad=>by have:=au i ad;rwa [yX aL i ad] at this⟩
theorem Km {v:Value} {xs:List U} (h:aP w lim v (.agg xs) []):∃cs:Array Value,v= .agg cs∧cs.size=xs.length∧∀i,i<xs.length→aP w lim (cs.getD i undef) (xs.getD i .aS) []:=Kl h rfl
theorem Kn {v:Value} {xs:List U} {o:List Nat} (h:aP w lim v (.tuple xs) o) (aL:o=[]):∃cs:Array Value,v= .tuple cs∧cs.size=xs.length∧∀i,i<xs.length→aP w lim (cs.getD i undef) (xs.getD i .aS) []:=by
 cases h with
 |tuple cs _ os h au=>exact ⟨cs,rfl,h,fun i ad=>by have:=au i ad;rwa [yX aL i ad] at this⟩
theorem Ko {v:Value} {xs:List U} (h:aP w lim v (.tuple xs) []):∃cs:Array Value,v= .tuple cs∧cs.size=xs.length∧∀i,i<xs.length→aP w lim (cs.getD i undef) (xs.getD i .aS) []:=Kn h rfl
theorem yY {b:Nat} {l:List U} {os:Nat→List Nat} (h:ka w lim b (.cells l) os):∃(cs:Array Value) (e:TypeId) (oss:Nat→List Nat),w.heap[b]?=some (.cells cs e (0,0))∧cs.size=l.length∧
 ∀i,i<l.length→aP w lim (cs.getD i undef) (l.getD i .aS) (oss i):=by
 cases h with
 |cells cs e l _ ag al au=>exact ⟨cs,e,os,ag,al,au⟩
theorem wD {v:Value} {own:Bool} {l:List U} {os:List Nat} (h:aP w lim v (.slice own l) os):aP w lim v (.slice false l) []:=h.plain
theorem uc {v:Value} {l:List U} (h:aP w lim v (.slice false l) []):
 (l=[]∧v= .slice none 0 0)∨(l=[]∧∃a cap,v= .slice (some a) 0 cap∧cap≤maxLen)∨
 ∃b off cap sz,∃cv:Nat→Nat→Value,v= .slice (some ⟨b,off,none⟩) l.length cap∧l.length≤cap∧cap≤maxLen∧l.length≤140737488355328∧(∀i,i<l.length→(l.getD i .aS).cells.length=sz)∧off+l.length*sz≤lim b∧
  (∀i j,i<l.length→j<sz→w.cell? ⟨b,off+i*sz+j,none⟩=some (cv i j))∧(∀i j,i<l.length→j<sz→aP w lim (cv i j) ((l.getD i .aS).cells.getD j .aS) []):=by
 cases h with
 |fL own=>exact .inl ⟨rfl,rfl⟩
 |empty a cap hm=>exact .inr (.inl ⟨rfl,a,cap,rfl,hm⟩)
 |slice b off n cap sz l cv aI fu hm ew cJ fb ar au=>subst aI;exact .inr (.inr ⟨b,off,cap,sz,cv,rfl,fu,hm,ew,cJ,fb,ar,au⟩)
theorem yZ {v:Value} {l:List U} (h:aP w lim v (.slice false l) []):∃a cap,v= .slice a l.length cap∧l.length≤140737488355328:=by
 rcases uc h with ⟨rfl,rfl⟩|⟨rfl,a,cap,rfl,_⟩|⟨b,off,cap,sz,cv,rfl,_,_,h,_⟩
 · exact ⟨none,0,rfl,by simp⟩
 · exact ⟨some a,cap,rfl,by simp⟩
 · exact ⟨_,cap,rfl,h⟩
theorem some_inj {α β:Type} {a cR:α} {b gG:β} (h:some (a,b)=some (cR,gG)):a=cR∧b=gG:=by simpa using h
def mc (P:Program) (w:World) (lim:Nat→Nat) (ca:Act) (o:Oper) (x:U):Prop:=∃v,(execOp ca.eval o).run P w= .ok (.value v) w∧aP w lim v x []
theorem r8 {v:Value} {b:Bool} {o:List Nat} (h:aP w lim v (.bool b) o):v= .bool b:=by cases h;rfl
theorem lD {v:Value} {k:IntKind} {n:Int} {o:List Nat} (h:aP w lim v (.int k n) o):v= .int k n∧k.min≤n∧n≤k.max:=by cases h;exact ⟨rfl,‹_›,‹_›⟩
theorem y0 {v:Value} {l:List UInt8} {o:List Nat} (h:aP w lim v (.str l) o):∃s:ByteArray,v= .string s∧s.data.toList=l∧s.size≤140737488355328:=by cases h;exact ⟨_,rfl,rfl,‹_›⟩
theorem pQ {v:Value} {a:Addr} {o:List Nat} (h:aP w lim v (.ptr a) o):v= .pointer (some a):=by cases h;rfl
theorem ud {v:Value} {x:U} {o:List Nat} (h:aP w lim v (.lazy true x) o):aP w lim v x o:=by cases h;assumption
def U.num:U→Int
 | .int _ n=>n
 |_=>0
theorem wE {C7 C8:Value} {p q b:Bool} (aU:b=true→aP w lim C7 (.bool p) []) (aO:b=false→aP w lim C8 (.bool q) []):
 aP w lim (if b then C7 else C8) (.bool (if b then p else q)) []:=by
 cases b
 · simpa using aO rfl
 · simpa using aU rfl
theorem C9 {v:Value} {x:U} {os:List Nat} (h:aP w lim v x os):aP w lim v (un x) os:=by
 unfold un
 split
 · exact ud h
 · exact h
theorem Kp {m:ae} {a:Operand→U} {ca:Act} {o:Oper} {c p q:Operand} (aL:o.op= .pick c p q) {side:Prop} {x:U} (h:bO P m a (.pick c p q)=some (side,x)) (al:side)
 (ar:aP w lim (ca.eval c) (a c) []) (aU:aP w lim (ca.eval p) (a p) []) (aO:aP w lim (ca.eval q) (a q) []):mc P w lim ca o x:=by
 simp only [bO] at h
 replace ar:=C9 ar
 have fin:∀b:Bool,ca.eval c= .bool b→∀r,aP w lim (if b then ca.eval p else ca.eval q) r []→mc P w lim ca o r:=fun b ag r au=>
  ⟨if b then ca.eval p else ca.eval q,by cases b<;>simp [execOp,aL,ag,asBool],au⟩
 split at h
 · next b om cY qK qL qM=>
   obtain ⟨rfl,rfl⟩:=some_inj h
   rw [qK] at ar;rw [qL] at aU;rw [qM] at aO
   exact fin b (r8 ar) _ (wE (fun _=>aU) (fun _=>aO))
 · next b g om cY qK qL qM=>
   obtain ⟨rfl,rfl⟩:=some_inj h
   rw [qK] at ar;rw [qL] at aU;rw [qM] at aO
   exact fin b (r8 ar) _ (wE (fun ag=>by rw [al ag] at aU;exact ud aU) (fun _=>aO))
 · next b om g cY qK qL qM=>
   obtain ⟨rfl,rfl⟩:=some_inj h
   rw [qK] at ar;rw [qL] at aU;rw [qM] at aO
   exact fin b (r8 ar) _ (wE (fun _=>aU) (fun ag=>by rw [al ag] at aO;exact ud aO))
 · next b g om dr cY qK qL qM=>
   obtain ⟨rfl,rfl⟩:=some_inj h
   rw [qK] at ar;rw [qL] at aU;rw [qM] at aO
   exact fin b (r8 ar) _ (wE (fun ag=>by rw [al.1 ag] at aU;exact ud aU) (fun ag=>by rw [al.2 ag] at aO;exact ud aO))
 · cases h
theorem Kq {m:ae} {a:Operand→U} {ca:Act} {o:Oper} {t:TypeId} {y:Operand} (aL:o.op= .load t y) {side:Prop} {x:U} (h:bO P m a (.load t y)=some (side,x)) (al:side)
 (aK:aP w lim (ca.eval y) (a y) []) (hm:∀b hG,m b=some hG→∃os,ka w lim b hG os):mc P w lim ca o x:=by
 simp only [bO] at h
 split at h
 · rename_i l eZ
   obtain ⟨rfl,rfl⟩:=some_inj h
   rw [eZ] at aK
   generalize he:ca.eval y=e at aK
   cases aK with
   |ref b off l cv av ar au=>
    obtain ⟨v,J,aa⟩:=ub (P:=P) al ar au
    simp only [Nat.add_zero] at J
    exact ⟨v,by simp [execOp,aL,he,Instr.loadAt,Instr.sureAddr,J],aa⟩
 · rename_i b off eZ
   rw [eZ] at aK
   split at h
   · rename_i l ag
     obtain ⟨rfl,rfl⟩:=some_inj h
     obtain ⟨os,gY⟩:=hm _ _ ag
     obtain ⟨cs,e,oss,r9,cJ,au⟩:=yY gY
     generalize he:ca.eval y=e at aK
     cases aK with
     |ptr=>
      obtain ⟨v,J,aa⟩:=ub (P:=P) (w:=w) (lim:=lim) (t:=t) (b:=b) (off:=0) (l:=U.eU l) (f:=fun i=>cs.getD i undef) (k:=off) (by simpa [jJ,U.h0] using al)
       (fun i ad=>by
         have eV:i<cs.size:=by simpa [U.h0,cJ] using ad
         simp [World.cell?,r9,Array.getD,eV])
       (fun i ad=>by rw [mJ];exact (au i (by simpa [U.h0] using ad)).plain)
      simp only [Nat.zero_add] at J
      refine ⟨v,by simp [execOp,aL,he,Instr.loadAt,Instr.sureAddr,J],?_⟩
      have:apart P t (U.eU l) off=(apart P t l off).plain:=by
       unfold apart
       split
       · simp [U.plain,U.h0,List.map_drop,List.map_take]
       · rw [mJ]
      rw [←this];exact aa
   · cases h
 · cases h
set_option maxHeartbeats 1000000 in
theorem Kr {m:ae} {a:Operand→U} {ca:Act} {o:Oper} {s d:TypeId} {y:Operand} (aL:o.op= .convert s d y) {side:Prop} {x:U} (h:bO P m a (.convert s d y)=some (side,x)) (al:side)
 (aK:aP w lim (ca.eval y) (a y) []):mc P w lim ca o x:=by
 simp only [bO] at h
 generalize he:ca.eval y=e at aK
 split at h
 · rename_i k ea n bo eZ
   obtain ⟨rfl,rfl⟩:=some_inj h
   rw [eZ] at aK
   cases aK with
   |int _ _ bw ad=>
    cases hu:P.underlying s with
    |none=>simp [dS,hu] at al
    |some u=>
     refine ⟨.int k (k.wrap n),?_, .int _ _ (mN _ _).1 (mN _ _).2⟩
     simp [execOp,aL,he,convert,fi hu,fi bo,Conv.intToInt]
 · rename_i l bo eZ
   obtain ⟨rfl,rfl⟩:=some_inj h
   rw [eZ] at aK
   cases aK with
   |str b ag=>
    cases hu:P.underlying s with
    |none=>simp [dS,hu] at al
    |some u=>
     refine ⟨.string b,?_, .str b ag⟩
     simp [execOp,aL,he,convert,fi hu,fi bo]
 · rename_i own l bo eZ
   obtain ⟨rfl,rfl⟩:=some_inj h
   obtain ⟨cD,hu,Ks,hx⟩:=al
   rw [eZ] at aK
   have o2:=wD aK
   have y1:∀(o3:Option Addr) (n c:Nat),(convert s d (.slice o3 n c)).run P w=(Conv.bytesToString (.slice o3 n c)).run P w:=fun o3 n c=>run_convert_bytes_string w s d cD o3 n c hu Ks bo
   have y2:∀bs:List UInt8,bs.length≤140737488355328→aP w lim (.string ⟨bs.toArray⟩) (.str bs) []:=fun bs ag=>by
    have:=aP.str (w:=w) (lim:=lim) ⟨bs.toArray⟩ (by simpa [ByteArray.size] using ag)
    simpa using this
   rcases uc o2 with ⟨rfl,rfl⟩|⟨rfl,o3,cap,rfl,_⟩|⟨b,off,cap,sz,cv,rfl,fu,hm,ew,cJ,fb,ar,au⟩
   · exact ⟨.string ⟨#[]⟩,by simp [execOp,aL,he,y1,Conv.bytesToString];rfl,y2 [] (by simp)⟩
   · have aG:=run_bytesToString (P:=P) w o3 0 cap [] (by simp [loadCells,loadCellsFrom])
     refine ⟨.string ⟨#[]⟩,by simp [execOp,aL,he,y1,aG];rfl,y2 [] (by simp)⟩
   · have nF:∀i,i<l.length→(l.getD i .aS).cells=[l.getD i .aS]∧∃k:Int,l.getD i .aS= .int .u8 k:=fun i ad=>by
      have jo:l.getD i .aS∈l:=by simp [List.getD_eq_getElem?_getD,ad]
      obtain ⟨k,ak⟩:=hx _ jo
      rw [ak];exact ⟨rfl,k,rfl⟩
     have ue:0<l.length→sz=1:=fun av=>by rw [←cJ 0 av,(nF 0 av).1];rfl
     have jH:∀i,i<l.length→∃k:Int,w.cell? ⟨b,off+i,none⟩=some (.int .u8 k)∧l.getD i .aS= .int .u8 k:=fun i ad=>by
      have ao:=ue (by omega)
      subst ao
      have J:=ar i 0 ad (by omega)
      have aa:=au i 0 ad (by omega)
      obtain ⟨Kt,k,ak⟩:=nF i ad
      rw [Kt] at aa
      simp only [List.getD_cons_zero,ak] at aa
      refine ⟨k,?_,ak⟩
      have ai:cv i 0= .int .u8 k:=(lD aa).1
      rw [←ai];simpa using J
     have Ku:∀i,i<l.length→w.cell? ⟨b,off+i,none⟩=some (Value.int .u8 (l.getD i .aS).num):=fun i ad=>by
      obtain ⟨k,J,aa⟩:=jH i ad
      rw [aa];exact J
     have av:=C6 (P:=P) (w:=w) b off l.length (fun i=>Value.int .u8 (l.getD i .aS).num) Ku
     have Kv:((List.range l.length).map fun i=>Value.int .u8 (l.getD i .aS).num)=((List.range l.length).map fun i=>(l.getD i .aS).num).map (Value.int .u8):=by
      rw [List.map_map];rfl
     rw [Kv] at av
     have aG:=run_bytesToString (P:=P) w ⟨b,off,none⟩ l.length cap _ av
     have ag:(List.range l.length).map (fun i=>UInt8.ofNat (l.getD i .aS).num.toNat)=l.map byteOf:=by
      apply List.ext_getElem?
      intro i
      by_cases ad:i<l.length
      · obtain ⟨k,J,aa⟩:=jH i ad
        simp only [List.getD_eq_getElem?_getD,List.getElem?_eq_getElem ad,Option.getD_some] at aa
        simp [ad,aa,byteOf,U.num]
      · simp [ad]
     refine ⟨_,by simp only [execOp,aL,he,Sem.run_bind,y1,aG];rfl,?_⟩
     rw [foldl_push_bytes,List.map_map]
     have aC:((fun n:Int=>UInt8.ofNat n.toNat)∘fun i=>(l.getD i .aS).num)=fun i=>UInt8.ofNat (l.getD i .aS).num.toNat:=rfl
     rw [aC,ag]
     have:=y2 (l.map byteOf) (by simpa using ew)
     simpa using this
 · cases h
end
end Go.ba
end
section
namespace Go.ba
open Go
section
variable {P:Program} {w:World} {lim:Nat→Nat}
theorem Da {b off:Nat} {f:Field} (hu:dS P f.type=true) (aI:P.cellsOf f.type≠0):(fieldPlace ⟨b,off,none⟩ f).run P w= .ok ⟨b,off+f.offset,none⟩ w:=by
 simp [fieldPlace,lB hu,aI,addr_add]
theorem Kw (l:List U) (off i:Nat):(l.drop off).getD i .aS=l.getD (off+i) .aS:=by
 simp [List.getD_eq_getElem?_getD]
theorem Db {m:ae} {a:Operand→U} {ca:Act} {o:Oper} {s:TypeId} {y:Operand} {f:Nat} (aL:o.op= .fieldAddr s y f) {side:Prop} {x:U} (h:bO P m a (.fieldAddr s y f)=some (side,x)) (al:side)
 (aK:aP w lim (ca.eval y) (a y) []):mc P w lim ca o x:=by
 simp only [bO] at h
 generalize he:ca.eval y=e at aK
 split at h
 · next cL jn=>
   split at h
   · next fd sa=>
     split at h
     · next l eZ=>
       obtain ⟨rfl,rfl⟩:=some_inj h
       obtain ⟨J,aa,ai⟩:=al
       rw [eZ] at aK
       cases aK with
       |ref b off l cv av ar au=>
        refine ⟨.pointer (some ⟨b,off+fd.offset,none⟩),by simp [execOp,aL,he,Instr.fieldAt,fi jn,sa,Instr.sureAddr,Da J aa],?_⟩
        exact .ref b (off+fd.offset) (l.drop fd.offset) (fun i=>cv (fd.offset+i)) (by simp;omega) (fun i ad=>by
         simp at ad;rw [Nat.add_assoc];exact ar _ (by omega)) (fun i ad=>by simp at ad;rw [Kw];exact au _ (by omega))
     · next b off eZ=>
       obtain ⟨rfl,rfl⟩:=some_inj h
       rw [eZ] at aK
       have:=pQ aK
       subst this
       exact ⟨.pointer (some ⟨b,off+fd.offset,none⟩),by simp [execOp,aL,he,Instr.fieldAt,fi jn,sa,Instr.sureAddr,Da al.1 al.2], .ptr _⟩
     · cases h
   · cases h
 · cases h
theorem Kx {m:ae} {a:Operand→U} {ca:Act} {o:Oper} {s:TypeId} {y:Operand} {f:Nat} (aL:o.op= .field s y f) {side:Prop} {x:U} (h:bO P m a (.field s y f)=some (side,x)) (al:side)
 (aK:aP w lim (ca.eval y) (a y) []):mc P w lim ca o x:=by
 simp only [bO] at h
 generalize he:ca.eval y=e at aK
 split at h
 · next cL jn=>
   split at h
   · next fd l sa eZ=>
     obtain ⟨rfl,rfl⟩:=some_inj h
     rw [eZ] at aK
     obtain ⟨cs,rfl,J,aa⟩:=Km aK
     obtain ⟨v,ai,aJ⟩:=Kk (P:=P) al J aa
     exact ⟨v,by simp [execOp,aL,he,Instr.field,fi jn,sa,asAgg,ai],aJ⟩
   · cases h
 · cases h
theorem sb {v:Value} {a:Addr} {n c:Nat} {o:List Nat} (h:aP w lim v (.ms a n c) o):v= .slice (some a) n c∧n≤c∧c≤maxLen:=by cases h;exact ⟨rfl,‹_›,‹_›⟩
theorem Ky {m:ae} {a:Operand→U} {ca:Act} {o:Oper} {t:TypeId} {y i:Operand} (aL:o.op= .indexAddr t y i) {side:Prop} {x:U} (h:bO P m a (.indexAddr t y i)=some (side,x)) (al:side)
 (aK:aP w lim (ca.eval y) (a y) []) (ad:aP w lim (ca.eval i) (a i) []):mc P w lim ca o x:=by
 simp only [bO] at h
 generalize he:ca.eval y=e at aK
 generalize wF:ca.eval i=Kz at ad
 split at h
 · next el nF=>
   split at h
   · next own l k n iY qN=>
     obtain ⟨rfl,rfl⟩:=some_inj h
     obtain ⟨J,aa,ai,aJ,aY⟩:=al
     rw [iY] at aK;rw [qN] at ad
     obtain ⟨rfl,_,_⟩:=lD ad
     have cl:n.toNat<l.length:=by omega
     rcases uc (wD aK) with ⟨rfl,_⟩|⟨rfl,_⟩|⟨b,off,cap,sz,cv,rfl,fu,hm,ew,cJ,fb,ar,au⟩
     · simp at cl
     · simp at cl
     · have ao:sz=P.cellsOf el:=by rw [←cJ _ cl,aY]
       refine ⟨.pointer (some ⟨b,off+n.toNat*P.cellsOf el,none⟩),?_,?_⟩
       · simp [execOp,aL,he,wF,Instr.indexAt,asIntOf,fi nF,ai,aJ,lB J,addr_add]
       · refine .ref b _ _ (cv n.toNat) ?_ (fun j aA=>?_) (fun j aA=>?_)
         · rw [aY,ao.symm]
           have:n.toNat*sz+sz≤l.length*sz:=by rw [←Nat.succ_mul];exact Nat.mul_le_mul_right _ cl
           omega
         · rw [aY,←ao] at aA;rw [←ao];exact ar _ j cl aA
         · rw [aY,←ao] at aA;exact au _ j cl aA
   · next b off len cap k n iY qN=>
     obtain ⟨rfl,rfl⟩:=some_inj h
     obtain ⟨J,ai,aJ⟩:=al
     rw [iY] at aK;rw [qN] at ad
     obtain ⟨rfl,_,_⟩:=lD ad
     obtain ⟨rfl,_,_⟩:=sb aK
     refine ⟨.pointer (some ⟨b,off+n.toNat*P.cellsOf el,none⟩),?_, .ptr _⟩
     simp [execOp,aL,he,wF,Instr.indexAt,asIntOf,fi nF,ai,aJ,lB J,addr_add]
   · cases h
 · cases h
theorem KA {m:ae} {a:Operand→U} {ca:Act} {o:Oper} {t:TypeId} {y i:Operand} (aL:o.op= .index t y i) {side:Prop} {x:U} (h:bO P m a (.index t y i)=some (side,x)) (al:side)
 (aK:aP w lim (ca.eval y) (a y) []) (ad:aP w lim (ca.eval i) (a i) []):mc P w lim ca o x:=by
 simp only [bO] at h
 generalize he:ca.eval y=e at aK
 generalize wF:ca.eval i=Kz at ad
 split at h
 · next l k n hu iY qN=>
   obtain ⟨rfl,rfl⟩:=some_inj h
   obtain ⟨ai,aJ⟩:=al
   rw [iY] at aK;rw [qN] at ad
   obtain ⟨rfl,_,_⟩:=lD ad
   obtain ⟨s,rfl,rfl,cJ⟩:=y0 aK
   have cl:n.toNat<s.data.size:=by simp only [Array.length_toList] at aJ;omega
   refine ⟨.int .u8 (s.data[n.toNat]).toNat,?_,?_⟩
   · have bl:s[n.toNat]?=some (s.data[n.toNat]):=by
      rw [getElem?_pos s n.toNat cl];rfl
     simp [execOp,aL,he,wF,Instr.index,asIntOf,fi hu,ai,bl]
   · have aM:s.data.toList.getD n.toNat 0=s.data[n.toNat]:=by rw [List.getD_eq_getElem?_getD,Array.getElem?_toList,Array.getElem?_eq_getElem cl,Option.getD_some]
     rw [aM]
     have:=(s.data[n.toNat]).toNat_lt
     exact .int .u8 _ (by simp [IntKind.min,IntKind.signed]) (by simp [IntKind.max,IntKind.signed,IntKind.bits];omega)
 · cases h
theorem KB {m:ae} {a:Operand→U} {ca:Act} {o:Oper} {y:Operand} {i:Nat} (aL:o.op= .extract y i) {side:Prop} {x:U} (h:bO P m a (.extract y i)=some (side,x)) (al:side)
 (aK:aP w lim (ca.eval y) (a y) []):mc P w lim ca o x:=by
 simp only [bO] at h
 generalize he:ca.eval y=e at aK
 split at h
 · next l eZ=>
   obtain ⟨rfl,rfl⟩:=some_inj h
   rw [eZ] at aK
   obtain ⟨cs,rfl,J,aa⟩:=Ko aK
   have ad:i<cs.size:=by rw [J];exact al
   refine ⟨cs.getD i undef,?_,aa i al⟩
   simp [execOp,aL,he,Instr.extract,ad]
 · cases h
theorem Dc {a:Operand→U} {ca:Act} {bw:Option Operand} {d:Nat} {p:Int} (h:kE (bw.map a) d=some p) (au:∀y,bw=some y→aP w lim (ca.eval y) (a y) []):
 (bw=none∧p=d)∨(∃y k,bw=some y∧ca.eval y= .int k p):=by
 cases bw with
 |none=>simp [kE] at h;exact .inl ⟨rfl,h.symm⟩
 |some y=>
  have:=au y rfl
  simp only [Option.map_some,kE] at h
  split at h
  · next o4=>cases o4
  · next k n iY=>
    simp at h;subst h
    simp at iY
    rw [iY] at this
    exact .inr ⟨y,k,rfl,(lD this).1⟩
  · cases h
theorem uf (wG:Bool) (len cap:Nat) {a:Operand→U} {ca:Act} {bw ad:Option Operand} {p q:Int} (aU:kE (bw.map a) 0=some p) (aO:kE (ad.map a) len=some q)
 (mb:∀y,bw=some y→aP w lim (ca.eval y) (a y) []) (o1:∀y,ad=some y→aP w lim (ca.eval y) (a y) []) (aG:0≤p) (J:p≤q) (aa:q≤cap):
 (Instr.sliceBounds wG len cap (bw.map ca.eval) (ad.map ca.eval) none).run P w= .ok (p.toNat,q.toNat,cap) w:=by
 have aM:(p≤(q.toNat:Int)):=by omega
 rcases Dc aU mb with ⟨rfl,rfl⟩|⟨y,k,rfl,aK⟩<;>rcases Dc aO o1 with ⟨rfl,rfl⟩|⟨oo,ea,rfl,o2⟩
 · simp [Instr.sliceBounds]
 · simp [Instr.sliceBounds,Instr.sliceBound,o2,asIntOf,show 0≤q from by omega,aa]
 · simp [Instr.sliceBounds,Instr.sliceBound,aK,asIntOf,aG,J]
 · have aC:((q.toNat:Nat):Int)=q:=by omega
   simp only [Instr.sliceBounds,Instr.sliceBound,Option.map_some,Sem.run_bind,Sem.run_pure,Result.andThen_ok,aK,o2,asIntOf,Sem.run_ite,aC,aG,J,aa,show 0≤q from by omega,and_self,if_true]
theorem KC {m:ae} {a:Operand→U} {ca:Act} {o:Oper} {t:TypeId} {y:Operand} {bw ad:Option Operand} (aL:o.op= .slice t y bw ad none) {side:Prop} {x:U} (h:bO P m a (.slice t y bw ad none)=some (side,x)) (al:side)
 (aK:aP w lim (ca.eval y) (a y) []) (mb:∀y,bw=some y→aP w lim (ca.eval y) (a y) []) (o1:∀y,ad=some y→aP w lim (ca.eval y) (a y) []):mc P w lim ca o x:=by
 simp only [bO] at h
 generalize he:ca.eval y=e at aK
 split at h
 · next l hu iY=>
   split at h
   · next p q aU aO=>
     obtain ⟨rfl,rfl⟩:=some_inj h
     obtain ⟨aG,J,aa⟩:=al
     rw [iY] at aK
     obtain ⟨s,rfl,rfl,cJ⟩:=y0 aK
     have ag:=uf (P:=P) (w:=w) false s.size s.size aU (by simpa using aO) mb o1 aG J (by simpa using aa)
     refine ⟨.string (s.extract p.toNat q.toNat),?_,?_⟩
     · simp [execOp,aL,he,Instr.sliceAt,Instr.slice,fi hu,ag]
     · have:=aP.str (w:=w) (lim:=lim) (s.extract p.toNat q.toNat) (by simp;omega)
       have aC:(s.extract p.toNat q.toNat).data.toList=(s.data.toList.drop p.toNat).take (q- p).toNat:=by
        simp [show q.toNat- p.toNat=(q- p).toNat from by omega]
       rw [aC] at this;exact this
   · cases h
 · next el own l hu iY=>
   split at h
   · next p q aU aO=>
     obtain ⟨rfl,rfl⟩:=some_inj h
     obtain ⟨hh,aG,J,aa,hx⟩:=al
     rw [iY] at aK
     rcases uc (wD aK) with ⟨rfl,rfl⟩|⟨rfl,o3,cap,rfl,hm⟩|⟨b,off,cap,sz,cv,rfl,fu,hm,ew,cJ,fb,ar,au⟩
     · have ag:=uf (P:=P) (w:=w) true 0 0 aU (by simpa using aO) mb o1 aG J (by simpa using aa)
       have aM:p.toNat=0:=by simp at aa;omega
       have aC:q.toNat=0:=by simp at aa;omega
       refine ⟨.slice none 0 0,?_,by simpa using aP.fL false⟩
       simp [execOp,aL,he,Instr.sliceAt,Instr.slice,fi hu,ag,lB hh,aM,aC]
     · have ag:=uf (P:=P) (w:=w) true 0 cap aU (by simpa using aO) mb o1 aG J (by simp at aa;omega)
       have aM:p.toNat=0:=by simp at aa;omega
       have aC:q.toNat=0:=by simp at aa;omega
       refine ⟨_,by simp only [execOp,aL,he,Option.map_none,Instr.sliceAt,Instr.slice,fi hu,Sem.run_bind,Result.andThen_ok,ag,lB hh];rfl,?_⟩
       simp only [aM,aC,List.drop_nil,List.take_nil,Nat.sub_self]
       split
       · exact .empty _ _ (by omega)
       · simp;exact .empty _ _ (by omega)
     · have ag:=uf (P:=P) (w:=w) true l.length cap aU aO mb o1 aG J (by omega)
       have aI:q.toNat- p.toNat=(q- p).toNat:=by omega
       have hlen:((l.drop p.toNat).take (q- p).toNat).length=(q- p).toNat:=by simp;omega
       have me:∀i,i<(q- p).toNat→((l.drop p.toNat).take (q- p).toNat).getD i .aS=l.getD (p.toNat+i) .aS:=fun i ad=>yW _ _ _ _ ad
       by_cases sc:cap=p.toNat
       · subst sc
         have ao:(q- p).toNat=0:=by omega
         refine ⟨.slice (some ⟨b,off,none⟩) 0 0,?_,?_⟩
         · simp [execOp,aL,he,Instr.sliceAt,Instr.slice,fi hu,ag,lB hh,aI,ao]
         · rw [ao];exact .empty _ _ (by omega)
       · refine ⟨.slice (some ⟨b,off+p.toNat*P.cellsOf el,none⟩) (q- p).toNat (cap- p.toNat),?_,?_⟩
         · simp [execOp,aL,he,Instr.sliceAt,Instr.slice,fi hu,ag,lB hh,aI,sc,addr_add]
         · by_cases ao:(q- p).toNat=0
           · rw [ao];exact .empty _ _ (by omega)
           · have ug:sz=P.cellsOf el:=by
              have Dd:0<l.length:=by omega
              rw [←cJ 0 Dd]
              exact hx _ (by simp [List.getD_eq_getElem?_getD,Dd])
             subst ug
             have hmul:p.toNat*P.cellsOf el+(q- p).toNat*P.cellsOf el≤l.length*P.cellsOf el:=by
              rw [←Nat.add_mul];exact Nat.mul_le_mul_right _ (by omega)
             refine .slice b _ _ _ (P.cellsOf el) _ (fun i j=>cv (p.toNat+i) j) hlen (by omega) (by omega) (by omega) (fun i ad=>by rw [me i ad];exact cJ _ (by omega)) (by omega)
              (fun i j ad aA=>?_) (fun i j ad aA=>by rw [me i ad];exact au _ j (by omega) aA)
             have:=ar (p.toNat+i) j (by omega) aA
             rw [Nat.add_mul,←Nat.add_assoc] at this
             exact this
   · cases h
 · next el b off len cap hu iY=>
   split at h
   · next p q aU aO=>
     obtain ⟨rfl,rfl⟩:=some_inj h
     obtain ⟨hh,aG,J,aa⟩:=al
     rw [iY] at aK
     obtain ⟨rfl,T5,l9⟩:=sb aK
     have ag:=uf (P:=P) (w:=w) true len cap aU aO mb o1 aG J (by omega)
     have aI:q.toNat- p.toNat=(q- p).toNat:=by omega
     by_cases ai:¬p<cap
     · rw [if_neg ai]
       have sc:cap=p.toNat:=by omega
       have ao:(q- p).toNat=0:=by omega
       refine ⟨.slice (some ⟨b,off,none⟩) 0 0,?_, .nA _⟩
       have o5:(cap=p.toNat)=True:=eq_true sc
       have De:cap- p.toNat=0:=by omega
       simp only [execOp,aL,he,Instr.sliceAt,Instr.slice,Sem.run_bind,fi hu,ag,lB hh,aI,ao,o5,De,Result.andThen_ok,Sem.run_pure,if_true]
       simp [ag,lB hh,aI,ao,o5,De]
     rw [if_pos (Decidable.not_not.1 ai)]
     have sc:¬cap=p.toNat:=by omega
     refine ⟨.slice (some ⟨b,off+p.toNat*P.cellsOf el,none⟩) (q- p).toNat (cap- p.toNat),?_, .ms _ _ _ (by omega) (by omega)⟩
     simp [execOp,aL,he,Instr.sliceAt,Instr.slice,fi hu,ag,lB hh,aI,sc,addr_add]
   · cases h
 · cases h
theorem KD {b:Nat} {l:List (U×U)} {os:Nat→List Nat} (h:ka w lim b (.map l) os):∃(es:Array MapEntry) (clock:Nat),w.heap[b]?=some (.map es clock)∧es.size=l.length∧l.length≤140737488355328∧
 (∀i,i<l.length→aP w lim (es.getD i default).key (l.getD i (.aS, .aS)).1 [])∧(∀i,i<l.length→aP w lim (es.getD i default).val (l.getD i (.aS, .aS)).2 [])∧
 (∀i j,i<j→j<l.length→(es.getD i default).born<(es.getD j default).born)∧(∀i,i<l.length→(es.getD i default).born<clock):=by
 cases h with
 |map es clock l ag al ew ak bn J aa _=>exact ⟨es,clock,ag,al,ew,ak,bn,J,aa⟩
theorem run_getObj_map {b:Nat} {es:Array MapEntry} {clock:Nat} (h:w.heap[b]?=some (.map es clock)):(getObj b).run P w= .ok (.map es clock) w:=by
 simp [getObj,Sem.run,h]
theorem KE {m:ae} {a:Operand→U} {ca:Act} {o:Oper} {args:Array Operand} {cT:Array TypeId} (aL:o.op= .call ⟨.builtin .len,args,cT⟩) {side:Prop} {x:U}
 (h:bO P m a (.call ⟨.builtin .len,args,cT⟩)=some (side,x)) (al:side)
 (au:∀y∈args.toList,aP w lim (ca.eval y) (a y) []) (hm:∀b hG,m b=some hG→∃os,ka w lim b hG os):mc P w lim ca o x:=by
 simp only [bO] at h
 split at h
 · next y t iY sd=>
   have aK:=au y (by rw [Array.mem_toList_iff];exact Array.mem_of_getElem? iY)
   generalize he:ca.eval y=e at aK
   have jq:(args.map ca.eval)[0]?=some e:=by simp [iY,he]
   have fin:∀v,(Builtin.len_ cT o.type (args.map ca.eval)).run P w= .ok v w→∀x,aP w lim v x []→mc P w lim ca o x:=fun v J x aa=>
    ⟨v,by simp [execOp,aL,resolve,invoke,builtin,J],aa⟩
   have uh:∀n:Nat,n≤140737488355328→aP w lim (goInt n) (.int .i64 n) []:=fun n aI=>
    .int .i64 n (by simp [IntKind.min,IntKind.signed,IntKind.bits]) (by simp [IntKind.max,IntKind.signed,IntKind.bits];omega)
   split at h
   · next l hu eZ=>
     obtain ⟨rfl,rfl⟩:=some_inj h
     rw [eZ] at aK
     obtain ⟨s,rfl,rfl,cJ⟩:=y0 aK
     refine fin (goInt s.size) (by simp [Builtin.len_,sd,jq,fi hu]) _ ?_
     have:=uh s.size cJ
     simpa using this
   · next el own l hu eZ=>
     obtain ⟨rfl,rfl⟩:=some_inj h
     rw [eZ] at aK
     obtain ⟨o3,cap,rfl,av⟩:=yZ (wD aK)
     exact fin (goInt l.length) (by simp [Builtin.len_,sd,jq,fi hu]) _ (uh _ av)
   · next el p n c hu eZ=>
     obtain ⟨rfl,rfl⟩:=some_inj h
     rw [eZ] at aK
     obtain ⟨rfl,_,_⟩:=sb aK
     exact fin (goInt n) (by simp [Builtin.len_,sd,jq,fi hu]) _ (.int .i64 n (by simp [IntKind.min,IntKind.signed,IntKind.bits]) (by simp [IntKind.max,IntKind.signed,IntKind.bits];omega))
   · next el hu eZ=>
     obtain ⟨rfl,rfl⟩:=some_inj h
     rw [eZ] at aK
     have:∃a0,e= .slice a0 0 0:=by cases aK;exact ⟨_,rfl⟩
     obtain ⟨a0,rfl⟩:=this
     exact fin (goInt 0) (by simp [Builtin.len_,sd,jq,fi hu]) _ (by simpa using uh 0 (by omega))
   · next KF KG hu eZ=>
     obtain ⟨rfl,rfl⟩:=some_inj h
     rw [eZ] at aK
     have:e= .map none:=by cases aK;rfl
     subst this
     exact fin (goInt 0) (by simp [Builtin.len_,sd,jq,fi hu]) _ (by simpa using uh 0 (by omega))
   · next KF KG b hu eZ=>
     split at h
     · next l ag=>
       obtain ⟨rfl,rfl⟩:=some_inj h
       rw [eZ] at aK
       have:e= .map (some b):=by cases aK;rfl
       subst this
       obtain ⟨os,gY⟩:=hm _ _ ag
       obtain ⟨es,clock,J,aa,ai,_⟩:=KD gY
       exact fin (goInt l.length) (by simp [Builtin.len_,sd,jq,fi hu,run_getObj_map J,aa]) _ (uh _ ai)
     · cases h
   · cases h
 · cases h
theorem KH {t:TypeId} {v:Value} (h:(P.info? t).bind (·.zero)=some v):(zeroValue t).run P w= .ok v w:=by
 cases ad:P.info? t with
 |none=>simp [ad] at h
 |some i=>simp [ad] at h;simp [zeroValue,typeInfo,ad,h]
theorem wH {m:ae} {a:Operand→U} {ca:Act} {o:Oper} {side:Prop} {x:U} (h:bO P m a o.op=some (side,x)) (al:side)
 (au:∀y∈o.op.operands.toList,aP w lim (ca.eval y) (a y) []) (hm:∀b hG,m b=some hG→∃os,ka w lim b hG os):mc P w lim ca o x:=by
 cases aL:o.op with
 |move y=>
  rw [aL] at h au
  obtain ⟨rfl,rfl⟩:=some_inj h
  exact ⟨_,by simp [execOp,aL],au y (by simp [Op.operands])⟩
 |assign y=>
  rw [aL] at h au
  obtain ⟨rfl,rfl⟩:=some_inj h
  exact ⟨_,by simp [execOp,aL],au y (by simp [Op.operands])⟩
 |pick c p q=>rw [aL] at h au;exact Kp aL h al (au c (by simp [Op.operands])) (au p (by simp [Op.operands])) (au q (by simp [Op.operands]))
 |load t y=>rw [aL] at h au;exact Kq aL h al (au y (by simp [Op.operands])) hm
 |nilCheck y=>
  rw [aL] at h au
  have aK:=au y (by simp [Op.operands])
  generalize he:ca.eval y=e at aK
  simp only [bO] at h
  split at h
  · next l eZ=>
    obtain ⟨rfl,rfl⟩:=some_inj h
    rw [eZ] at aK
    cases aK with
    |ref b off l cv av ar au=>exact ⟨_,by simp only [execOp,aL,he,Sem.run_pure], .ref b off l cv av ar au⟩
  · next p eZ=>
    obtain ⟨rfl,rfl⟩:=some_inj h
    rw [eZ] at aK
    obtain rfl:=pQ aK
    exact ⟨_,by simp only [execOp,aL,he,Sem.run_pure], .ptr p⟩
  · next f b c eZ=>
    obtain ⟨rfl,rfl⟩:=some_inj h
    rw [eZ] at aK
    cases aK with
    |func fn dU dX bE dK J aa ai aJ=>exact ⟨.func (.func f) dU dX,by simp only [execOp,aL,he,Sem.run_pure], .func _ dU dX b c J ‹_› ai aJ⟩
  · cases h
 |binOp op t y z t2=>
  rw [aL] at h au
  obtain ⟨v,J,aa⟩:=Kh (P:=P) (w:=w) (lim:=lim) h al (au y (by simp [Op.operands])) (au z (by simp [Op.operands]))
  exact ⟨v,by simp only [execOp,aL,Sem.run_bind,Result.andThen_ok] at J ⊢;rw [J];rfl,aa⟩
 |unOp op t y=>
  rw [aL] at h au
  have aK:=au y (by simp [Op.operands])
  generalize he:ca.eval y=e at aK
  simp only [bO] at h
  split at h
  · next b eZ=>
    obtain ⟨rfl,rfl⟩:=some_inj h
    rw [eZ] at aK
    obtain rfl:=r8 aK
    exact ⟨_,by simp only [execOp,aL,he,Op.unary,Sem.run_bind,Sem.run_pure,Result.andThen_ok], .bool _⟩
  · next k n eZ=>
    obtain ⟨rfl,rfl⟩:=some_inj h
    rw [eZ] at aK
    obtain ⟨rfl,_,_⟩:=lD aK
    exact ⟨_,by simp only [execOp,aL,he,Op.unary,Op.intArith,Sem.run_bind,Sem.run_pure,Result.andThen_ok], .int _ _ (mN _ _).1 (mN _ _).2⟩
  · cases h
 |convert s d y=>rw [aL] at h au;exact Kr aL h al (au y (by simp [Op.operands]))
 |makeInterface t y=>
  rw [aL] at h au
  have aK:=au y (by simp [Op.operands])
  simp only [bO] at h
  split at h
  · cases h
  · next d hi hu=>
    obtain ⟨rfl,rfl⟩:=some_inj h
    refine ⟨.iface t (ca.eval y),?_, .iface _ _ _ aK⟩
    cases d<;>first|exact (hi _ rfl).elim|simp [execOp,aL,Instr.makeInterface,fi hu]
  · cases h
 |fieldAddr s y f=>rw [aL] at h au;exact Db aL h al (au y (by simp [Op.operands]))
 |field s y f=>rw [aL] at h au;exact Kx aL h al (au y (by simp [Op.operands]))
 |indexAddr t y i=>rw [aL] at h au;exact Ky aL h al (au y (by simp [Op.operands])) (au i (by simp [Op.operands]))
 |index t y i=>rw [aL] at h au;exact KA aL h al (au y (by simp [Op.operands])) (au i (by simp [Op.operands]))
 |extract y i=>rw [aL] at h au;exact KB aL h al (au y (by simp [Op.operands]))
 |slice t y bw ad y3=>
  cases y3 with
  |some z=>rw [aL] at h;simp [bO] at h
  |none=>
   rw [aL] at h au
   exact KC aL h al (au y (by simp [Op.operands])) (fun z ao=>au z (by simp [Op.operands,ao])) (fun z ao=>au z (by simp [Op.operands,ao]))
 |typeAssert y t u ok=>
  cases ok with
  |false=>rw [aL] at h;simp [bO] at h
  |true=>
   rw [aL] at h au
   have aK:=au y (by simp [Op.operands])
   generalize he:ca.eval y=e at aK
   simp only [bO] at h
   split at h
   · cases h
   · next d z lA v hi hu eZ=>
     split at h
     · next heq=>
       subst heq
       obtain ⟨rfl,rfl⟩:=some_inj h
       rw [eZ] at aK
       cases aK with
       |iface _ Df _ bn=>
        refine ⟨.tuple #[Df, .bool true],?_,?_⟩
        · cases d<;>first|exact (hi _ _ rfl).elim|exact (hi _ rfl).elim|simp [execOp,aL,he,Instr.typeAssert,fi hu]
        · have:=aP.tuple (w:=w) (lim:=lim) #[Df, .bool true] [v, .bool true] (fun _=>[]) (by simp) (fun i ad=>by
           have:i=0∨i=1:=by simp at ad;omega
           rcases this with rfl|rfl
           · exact bn
           · exact .bool true)
          rw [flatMap_nil] at this
          exact this
     · cases h
   · next d z lA e hi hu eZ=>
     split at h
     · next heq=>
       subst heq
       obtain ⟨rfl,rfl⟩:=some_inj h
       rw [eZ] at aK
       have dw:∀(n:Int) (b:Bool),IntKind.i64.min≤n→n≤IntKind.i64.max→aP w lim (.tuple #[.int .i64 n, .bool b]) (.tuple [.int .i64 n, .bool b]) []:=fun n b bw ad=>by
        have:=aP.tuple (w:=w) (lim:=lim) #[.int .i64 n, .bool b] [.int .i64 n, .bool b] (fun _=>[]) (by simp) (fun i ad=>by
         have:i=0∨i=1:=by simp at ad;omega
         rcases this with rfl|rfl
         · exact .int _ _ bw ‹_›
         · exact .bool b)
        rw [flatMap_nil] at this
        exact this
       cases aK with
       |lx _=>
        refine ⟨.tuple #[.int .i64 0, .bool false],?_,dw 0 false (by decide) (by decide)⟩
        cases d<;>first|exact (hi _ _ rfl).elim|exact (hi _ rfl).elim|(simp only [execOp,aL,he,Instr.typeAssert,Sem.run_bind,fi hu,Result.andThen_ok,if_true,KH al];rfl)
       |iX _ _ aG bw ad=>
        refine ⟨.tuple #[.int .i64 e, .bool true],?_,(show (!(e==0))=true from by simp [aG])▸dw e true bw ad⟩
        cases d<;>first|exact (hi _ _ rfl).elim|exact (hi _ rfl).elim|simp [execOp,aL,he,Instr.typeAssert,fi hu]
     · cases h
   · cases h
 |call c=>
  obtain ⟨y4,args,cT⟩:=c
  rw [aL] at h au
  cases y4 with
  |value f=>simp [bO] at h
  |invoke r n=>simp [bO] at h
  |builtin b=>
   have kc:∀y∈args.toList,aP w lim (ca.eval y) (a y) []:=fun y aK=>au y (by simpa [Op.operands,Call.operands] using aK)
   cases b with
   |len=>exact KE aL h al kc hm
   |max=>
    simp only [bO] at h
    split at h
    · next y z mf=>
      have aK:=kc y (by rw [mf];simp)
      have ao:=kc z (by rw [mf];simp)
      split at h
      · next k p ea q iY y5=>
        split at h
        · next ak=>
          subst ak
          obtain ⟨rfl,rfl⟩:=some_inj h
          rw [iY] at aK;rw [y5] at ao
          obtain ⟨aM,hg,jY⟩:=lD aK
          obtain ⟨aC,gR,jM⟩:=lD ao
          have jq:(args.map ca.eval).toList=[.int k p, .int k q]:=by simp [mf,aM,aC]
          refine ⟨.int k (if q>p then q else p),?_,?_⟩
          · simp [execOp,aL,resolve,invoke,builtin,Builtin.max_,mf,aM,aC,Builtin.max2]
          · by_cases ar:q>p
            · rw [if_pos ar];exact .int k q gR jM
            · rw [if_neg ar];exact .int k p hg jY
        · cases h
      · cases h
    · cases h
   |min=>
    simp only [bO] at h
    split at h
    · next y z mf=>
      have aK:=kc y (by rw [mf];simp)
      have ao:=kc z (by rw [mf];simp)
      split at h
      · next k p ea q iY y5=>
        split at h
        · next ak=>
          subst ak
          obtain ⟨rfl,rfl⟩:=some_inj h
          rw [iY] at aK;rw [y5] at ao
          obtain ⟨aM,hg,jY⟩:=lD aK
          obtain ⟨aC,gR,jM⟩:=lD ao
          have jq:(args.map ca.eval).toList=[.int k p, .int k q]:=by simp [mf,aM,aC]
          refine ⟨.int k (if q<p then q else p),?_,?_⟩
          · simp [execOp,aL,resolve,invoke,builtin,Builtin.min_,mf,aM,aC,Builtin.min2]
          · by_cases ar:q<p
            · rw [if_pos ar];exact .int k q gR jM
            · rw [if_neg ar];exact .int k p hg jY
        · cases h
      · cases h
    · cases h
   |_=>simp [bO] at h
 |_=>rw [aL] at h;simp [bO] at h
end
end Go.ba
end
section
namespace Go.ba
open Go
def eQ (n:Nat) (o:Oper):Bool:=(match o.dst with|some d=>decide (d<n)|none=>true)&&o.op.operands.toList.all kD
def bS (P:Program) (n:Nat) (ops:Array Oper) (l:List Oper) (K:Fr→ae→Prop) (fr:Fr) (m:ae):Prop:=
 ∀F lim w ca Q,bc F lim w n fr m ca []→(∀lim' w' aZ m' dX,K aZ m'→bc F lim' w' n aZ m' dX []→dL F w lim w' lim'→Q Exit.normal dX w')→wpList P ops Q l ca w
def nG (F:Nat→Prop) (lim:Nat→Nat) (w:World) (n:Nat) (Q:Exit→Fr→ae→Prop):Exit→Act→World→Prop:=
 fun e dX w'=>∃lim' aZ m',Q e aZ m'∧bc F lim' w' n aZ m' dX []∧dL F w lim w' lim'
def de (P:Program) (n:Nat) (c:Code) (Q:Exit→Fr→ae→Prop) (fr:Fr) (m:ae):Prop:=
 ∀F lim w ca,bc F lim w n fr m ca []→c.wp P (nG F lim w n Q) ca w
def y6 (next:Fr→ae→Prop) (Q:Exit→Fr→ae→Prop):Exit→Fr→ae→Prop
 | .normal,fr,m=>next fr m
 |e,fr,m=>Q e fr m
def y7 (id:Nat) (Q:Exit→Fr→ae→Prop):Exit→Fr→ae→Prop
 | .exit y8,fr,m=>if y8=id then Q .normal fr m else Q (.exit y8) fr m
 |e,fr,m=>Q e fr m
def k1:Act:=⟨#[],[]⟩
def bg (P:Program) (f:FuncId) (args:List U) (m:ae) (K:U→ae→Prop):Prop:=
 (∃fn,P.funcs[f]?=some fn∧fn.body.isSome=true∧(fn.name== "runtime.NumGoroutine")=false)∧
 ∀F lim w (cargs:Array Value),cargs.size=args.length→(∀i,i<args.length→aP w lim (cargs.getD i undef) (args.getD i .aS) [])→bc F lim w 0 [] m k1 []→
  Calls P f cargs w fun e w'=>∃v x lim' m' os,e= .returned v∧K x m'∧aP w' lim' v x os∧bc F lim' w' 0 [] m' k1 os∧dL F w lim w' lim'
theorem bg.mono {P:Program} {f:FuncId} {args:List U} {m:ae} {K iZ:U→ae→Prop} (h:bg P f args m K) (ak:∀x m',K x m'→iZ x m'):bg P f args m iZ:=
 ⟨h.1,fun F lim w cargs J aa ai=>(h.2 F lim w cargs J aa ai).mono fun e w' ⟨v,x,lim',m',os,he,ab,r⟩=>⟨v,x,lim',m',os,he,ak _ _ ab,r⟩⟩
section
variable {P:Program} {n:Nat} {Q:Exit→Fr→ae→Prop} {fr:Fr} {m:ae}
theorem de.mono {c:Code} {hH:Exit→Fr→ae→Prop} (h:de P n c Q fr m) (aO:∀e fr m,Q e fr m→hH e fr m):de P n c hH fr m:=
 fun F lim w ca st=>wp_mono (h F lim w ca st) fun e a w ⟨lim',aZ,m',q,r⟩=>⟨lim',aZ,m',aO _ _ _ q,r⟩
theorem nG.from {F:Nat→Prop} {lim lim':Nat→Nat} {w w':World} (aU:dL F w lim w' lim') {e:Exit} {a:Act} {h9:World} (h:nG F lim' w' n Q e a h9):nG F lim w n Q e a h9:=by
 obtain ⟨l,f,m,q,st,dQ⟩:=h
 exact ⟨l,f,m,q,st,aU.trans dQ⟩
theorem Dg (h:Q .normal fr m):de P n .skip Q fr m:=fun F lim w ca st=>wp_skip ⟨lim,fr,m,h,st, .refl _ _ _⟩
theorem y9 (h:Q .ret fr m):de P n .ret Q fr m:=fun F lim w ca st=>wp_ret ⟨lim,fr,m,h,st, .refl _ _ _⟩
theorem KI {id:Nat} (h:Q (.exit id) fr m):de P n (.exit id) Q fr m:=fun F lim w ca st=>wp_exit ⟨lim,fr,m,h,st, .refl _ _ _⟩
theorem Dh {x y:Code} (h:de P n x (y6 (de P n y Q) Q) fr m):de P n (.seq x y) Q fr m:=fun F lim w ca st=>
 wp_seq (wp_mono (h F lim w ca st) fun e a w' ⟨lim',aZ,m',q,fq,dQ⟩=>by
  cases e with
  |normal=>exact wp_mono (q F lim' w' a fq) fun e a h9 h=>h.from dQ
  |_=>exact ⟨lim',aZ,m',q,fq,dQ⟩)
theorem za {x y:Code} (h:∀K:Fr→ae→Prop,(∀fr m,de P n y Q fr m→K fr m)→de P n x (y6 K Q) fr m):de P n (.seq x y) Q fr m:=
 Dh (h _ fun _ _ h=>h)
theorem KJ {id:Nat} {c:Code} (h:de P n c (y7 id Q) fr m):de P n (.block id c) Q fr m:=fun F lim w ca st=>
 wp_block (wp_mono (h F lim w ca st) fun e a w' ⟨lim',aZ,m',q,fq,dQ⟩=>by
  cases e with
  |exit y8=>
   simp only [Exit.inBlock,y7] at q ⊢
   split at q
   · rename_i h;rw [if_pos h];exact ⟨lim',aZ,m',q,fq,dQ⟩
   · rename_i h;rw [if_neg h];exact ⟨lim',aZ,m',q,fq,dQ⟩
  |_=>exact ⟨lim',aZ,m',q,fq,dQ⟩)
theorem zb {c:Operand} {x y:Code} {b:Bool} (ar:kb fr c= .bool b) (ak:kD c=true) (aB:b=true→de P n x Q fr m) (aN:b=false→de P n y Q fr m):de P n (.cond c x y) Q fr m:=fun F lim w ca st=>by
 obtain ⟨_,au,rfl⟩:=tY st ak
 rw [ar] at au
 exact wp_cond_split (r8 au) (fun h=>aB h F lim w ca st) (fun h=>aN h F lim w ca st)
theorem Di {id:Nat} {ops:Array Oper} (ks:List Nat) (zc:(ks.all fun t=>decide (t<n))=true) (h:bS P n ops ops.toList (fun fr m=>Q .normal (fr.keep ks) m) fr m):de P n (.region id ops false) Q fr m:=fun F lim w ca st=>
 wp_region_list (h F lim w ca _ st fun lim' w' aZ m' dX q fq dQ=>⟨lim',_,m',q,fq.keep (by simpa using zc),dQ⟩)
theorem bS.nil {ops:Array Oper} {K:Fr→ae→Prop} (h:K fr m):bS P n ops [] K fr m:=fun F lim w ca Q st aO=>wpList_nil (aO lim w fr m ca h st (.refl _ _ _))
theorem bS.from {ops:Array Oper} {l:List Oper} {K:Fr→ae→Prop} {aZ:Fr} {m':ae} (h:bS P n ops l K aZ m') {F:Nat→Prop} {lim lim':Nat→Nat} {w w':World} {dX:Act} {Q:Exit→Act→World→Prop}
 (aO:∀lim' w' aZ m' dX,K aZ m'→bc F lim' w' n aZ m' dX []→dL F w lim w' lim'→Q Exit.normal dX w') (st:bc F lim' w' n aZ m' dX []) (dQ:dL F w lim w' lim'):wpList P ops Q l dX w':=
 h F lim' w' dX Q st fun jG h9 pR mg se ak fq pS=>aO jG h9 pR mg se ak fq (dQ.trans pS)
theorem bS.step {ops:Array Oper} {o:Oper} {l:List Oper} {K:Fr→ae→Prop} (bl:o.guard=none)
 (h:∀F lim w ca,bc F lim w n fr m ca []→∀(next:Act→World→Prop) Q,(∀lim' w' aZ m' dX,bS P n ops l K aZ m'→bc F lim' w' n aZ m' dX []→dL F w lim w' lim'→next dX w')→o.wp P ca w next Q):bS P n ops (o::l) K fr m:=
 fun F lim w ca Q st aO=>wpList_plain bl fun next aI=>h F lim w ca st next Q fun _ _ _ _ _ au fq dQ=>aI _ _ (au.from aO fq dQ)
theorem nH {o:Oper} {ca:Act} {w w':World} {v:Value} {next:Act→World→Prop} {Q:Exit→Act→World→Prop} (h:(execOp ca.eval o).run P w= .ok (.value v) w') (aI:next (ca.put o.dst v) w'):o.wp P ca w next Q:=by
 unfold Oper.wp;rw [h];exact aI
theorem Dj {o:Oper} {ca:Act} {w w':World} {next:Act→World→Prop} {Q:Exit→Act→World→Prop} (h:(execOp ca.eval o).run P w= .ok .skip w') (aI:next (ca.put o.dst undef) w'):o.wp P ca w next Q:=by
 unfold Oper.wp;rw [h];exact aI
theorem jZ {o:Oper} {d:Nat} (h:eQ n o=true) (bo:o.dst=some d):d<n:=by
 simp [eQ,bo] at h;exact h.1
theorem kG {o:Oper} (h:eQ n o=true):∀y∈o.op.operands.toList,kD y=true:=by
 simp only [eQ,Bool.and_eq_true,List.all_eq_true] at h;exact h.2
theorem bc.sf {F:Nat→Prop} {lim:Nat→Nat} {w:World} {ca:Act} {bE:List Nat} (st:bc F lim w n fr m ca bE):∀b hG,m b=some hG→∃os,ka w lim b hG os:=by
 obtain ⟨os,cP,bW,h⟩:=st
 exact fun b hG ag=>⟨cP b,(h.mem b hG ag).1⟩
theorem bS.quiet {ops:Array Oper} {o:Oper} {l:List Oper} {K:Fr→ae→Prop} {d:Nat} {side:Prop} {x:U} (bl:o.guard=none) (bo:o.dst=some d) (ak:eQ n o=true)
 (h:bO P m (kb fr) o.op=some (side,x)) (al:side) (au:bS P n ops l K (fr.put d x) m):bS P n ops (o::l) K fr m:=by
 refine bS.step bl fun F lim w ca st next Q aI=>?_
 obtain ⟨v,J,aa⟩:=wH (P:=P) (w:=w) (lim:=lim) h al (ca:=ca) (fun y aK=>by
  obtain ⟨_,au,rfl⟩:=tY st (kG ak y aK);exact au) st.sf
 exact nH J (aI lim w _ m _ au (by rw [bo];exact st.set (jZ ak bo) aa) (.refl _ _ _))
end
end Go.ba
end
section
namespace Go.ba
open Go
def bd (fr:Fr) (t:Nat):U:=(fr.get t).getD .aS
def eB (raw:Nat→U):Operand→U
 | .tmp t=>raw t
 | .const v=>jI v
 | .global g=> .ptr ⟨g,0,none⟩
 | .func f=> .func (.func f) [] []
def b4 (raw:Nat→U):Operand→U
 | .tmp t=>(raw t).plain
 | .const v=>jI v
 | .global g=> .ptr ⟨g,0,none⟩
 | .func f=> .func (.func f) [] []
theorem ui (fr:Fr):b4 (bd fr)=kb fr:=by funext x;cases x<;>rfl
def Fr.strip (fr:Fr):List Nat→Fr
 |[]=>fr
 |s::r=>Fr.strip (fr.put s (bd fr s).plain) r
def kd:Operand→List Nat
 | .tmp t=>[t]
 |_=>[]
inductive ja where
 |stuck
 |val (side:Prop) (ss:List Nat) (m:ae) (x:U)
 |nI (side:Prop) (ss:List Nat) (m:ae)
 |new (side:Prop) (ss:List Nat) (mk:Nat→U) (o:fB)
 |call (f:FuncId) (args:List U)
def lE (place:Nat→Option (Nat×Nat)) (cells:List U):List (Nat×U)→Option (List U)
 |[]=>some cells
 |(i,x)::r=>
  match place i with
  |none=>none
  |some (off,size)=>if x.cells.length=size∧off+size≤cells.length then lE place (cells.take off++x.cells++cells.drop (off+size)) r else none
def hy (P:Program) (t:TypeId):Option U:=
 match (P.info? t).bind (·.zero) with
 |some z=>if oj z then some (jI z) else none
 |none=>none
def k2 (P:Program) (t:TypeId):Bool:=
 match hy P t with
 |some z=>z.cells.length==P.cellsOf t
 |none=>false
def U.dy:U→Bool
 | .aS| .lazy _ _| .tuple _=>false
 |_=>true
def U.one:U→Bool
 | .aS| .lazy _ _| .tuple _| .agg _=>false
 |_=>true
def eC (P:Program) (m:ae) (raw:Nat→U) (st:List Nat) (d:Option Nat) (op:Op):ja:=
 match op with
 | .assign (.tmp s)=> .val True [s] m (raw s)
 | .move (.tmp s)=>if (d.map st.contains).getD false then .val True [s] m (raw s) else .val True [] m (raw s).plain
 | .extract (.tmp s) i=>
   match raw s with
   | .tuple l=>if (d.map st.contains).getD false then .val (i<l.length) [s] m (l.getD i .aS) else .val (i<l.length) [] m (l.getD i .aS).plain
   |_=> .stuck
 | .load t x=>
   if (d.map st.contains).getD false then
    match b4 raw x with
    | .ptr ⟨b,off,none⟩=>
      match m b with
      |some (.cells l)=> .val (dS P t=true∧jW P t=false∧off<l.length) [] (m.cQ b (some (.cells (l.set off (l.getD off .aS).plain)))) (l.getD off .aS)
      |_=> .stuck
    |_=> .stuck
   else
    match bO P m (b4 raw) (.load t x) with
    |some (side,v)=> .val side [] m v
    |none=> .stuck
 | .store t a x=>
   match b4 raw a with
   | .ptr ⟨b,off,none⟩=>
     match m b with
     |some (.cells l)=> .nI ((eB raw x).dy=true∧((eB raw x).cells.all U.one)=true∧(eB raw x).cells.length=P.cellsOf t∧dS P t=true∧off+P.cellsOf t≤l.length) (kd x) (m.cQ b (some (.cells (l.take off++(eB raw x).cells++l.drop (off+P.cellsOf t)))))
     |_=> .stuck
   |_=> .stuck
 | .box _ x=> .new ((b4 raw x).dy=true) [] (fun b=> .ptr ⟨b,0,none⟩) (.cells (b4 raw x).cells)
 | .alloc t=>
   match hy P t with
   |some z=> .new (z.dy=true) [] (fun b=> .ptr ⟨b,0,none⟩) (.cells z.cells)
   |none=> .stuck
 | .makeSlice t n c=>
   match P.underlying t,b4 raw n,b4 raw c with
   |some (.slice e), .int .i64 k, .int .i64 ea=>
    match hy P e with
    |some z=> .new (z.dy=true∧dS P e=true∧z.cells.length=P.cellsOf e∧0<P.cellsOf e∧k=ea∧0≤k∧k*P.bytesOf e≤140737488355328∧k≤140737488355328) [] (fun b=> .ms ⟨b,0,none⟩ k.toNat k.toNat) (.cells (List.replicate k.toNat z.cells).flatten)
    |none=> .stuck
   |_,_,_=> .stuck
 | .makeMap t r=>
   match P.underlying t,r.map (b4 raw) with
   |some (.map _ _),none=> .new True [] (fun b=> .map b) (.map [])
   |some (.map _ _),some (.int _ _)=> .new True [] (fun b=> .map b) (.map [])
   |_,_=> .stuck
 | .build t parts=>
   if (d.map st.contains).getD false then .stuck else
   match P.underlying t,hy P t with
   |some (.struct cL),some z=>
    match lE (fun i=>(cL[i]?).map fun f=>(f.offset,P.cellsOf f.type)) z.cells (parts.toList.map fun p=>(p.1,b4 raw p.2)) with
    |some cells=> .val (z.dy=true∧(∀f∈cL.toList,dS P f.type=true)∧∀p∈parts.toList,(b4 raw p.2).dy=true) [] m (.agg cells)
    |none=> .stuck
   |_,_=> .stuck
 | .buildSlice t len parts=>
   if (d.map st.contains).getD false then .stuck else
   match P.underlying t with
   |some (.slice e)=>
    .val (dS P e=true∧0<P.cellsOf e∧k2 P e=true∧len*P.cellsOf e≤16777216∧parts.toList.map (·.1)=List.range len∧∀p∈parts.toList,(b4 raw p.2).dy=true∧(b4 raw p.2).cells.length=P.cellsOf e) [] m
      (.slice true (parts.toList.map fun p=>b4 raw p.2))
   |_=> .stuck
 | .call ⟨.builtin .append,args,cT⟩=>
   match args.toList,cT.toList with
   |[.tmp s,y],[t,u]=>
    match P.underlying t,P.underlying u,raw s,b4 raw y with
    |some (.slice e),some (.slice _), .slice true l, .slice _ bC=>
     .val (t=u∧dS P e=true∧0<P.cellsOf e∧k2 P e=true∧(l.length+bC.length)*P.bytesOf e≤140737488355328∧l.length+bC.length≤140737488355328∧(∀x∈l,x.cells.length=P.cellsOf e)∧∀x∈bC,x.cells.length=P.cellsOf e∧x.cells.all U.one=true) [s] m
       (.slice true (l++bC))
    |_,_,_,_=> .stuck
   |[.const (.slice none 0 0),y],[t,u]=>
    match P.underlying t,P.underlying u,b4 raw y with
    |some (.slice e),some (.slice _), .slice _ bC=>
     .val (t=u∧dS P e=true∧0<P.cellsOf e∧k2 P e=true∧bC.length*P.bytesOf e≤140737488355328∧∀x∈bC,x.cells.length=P.cellsOf e∧x.cells.all U.one=true) [] m
       (.slice true bC)
    |_,_,_=> .stuck
   |_,_=> .stuck
 | .call ⟨.value (.func f),args,_⟩=> .call f (args.toList.map (b4 raw))
 | .call ⟨.value (.tmp t),args,_⟩=>
   match raw t with
   | .func (.func f) first mh=> .call f (first++args.toList.map (b4 raw)++mh)
   |_=> .stuck
 |op=>
  match bO P m (b4 raw) op with
  |some (side,x)=> .val side [] m x
  |none=> .stuck
def sg (P:Program) (f:FuncId) (args:List U) (m:ae) (x:U):Prop:=∀K:U→ae→Prop,K x m→bg P f args m K
def wI (K:Fr→ae→Prop) (d:Option Nat) (fr:Fr):U→ae→Prop:=fun x m=>
 match d with
 |some d=>K (fr.put d x) m
 |none=>K fr m
def ep (fr:Fr) (d:Option Nat) (x:U):Fr:=
 match d with
 |some d=>fr.put d x
 |none=>fr
def wJ (g:Bool):U→U
 | .lazy h x=> .lazy (!g||h) x
 |x=>x
def KK:Op→Bool
 | .pick _ _ _=>true
 |_=>false
def pT (raw:Nat→U) (g:Bool) (op:Op) (y:Operand):U:=if KK op then wJ g (b4 raw y) else un (wJ g (b4 raw y))
def sh:U→Bool→Option Bool
 | .bool c,true=>some c
 | .bool c,false=>some (!c)
 | .lazy h (.bool c),true=>some (h&&c)
 | .lazy h (.bool c),false=>some (h&&!c)
 |_,_=>none
def mO (P:Program) (ops:Array Oper) (st:List Nat) (o:Oper) (K:Fr→ae→Prop) (fr:Fr) (m:ae):Prop:=
 match o.guard with
 |none=>
  match eC P m (bd fr) st o.dst o.op with
  | .val side ss m' x=>side∧K (ep (fr.strip ss) o.dst x) m'
  | .nI side ss m'=>side∧K (ep (fr.strip ss) o.dst .aS) m'
  | .new side ss mk hG=>side∧∀b,m b=none→K (ep (fr.strip ss) o.dst (mk b)) (m.cQ b (some hG))
  | .call f args=>bg P f args m (wI K o.dst fr)
  | .stuck=>False
 |some (j,b)=>
  match (ops[j]?).bind (·.dst),o.dst with
  |some g,some d=>
   match sh (bd fr g) b with
   |some z=>
    match o.op with
    | .call ⟨.value (.func f),args,_⟩=>
      ∃x,(z=true→sg P f (args.toList.map (pT (bd fr) z o.op)) m x)∧K (fr.put d (.lazy z x.plain)) m
    | .call ⟨.value (.tmp t),args,_⟩=>
      match pT (bd fr) z o.op (.tmp t) with
      | .func (.func f) first mh=>∃x,(z=true→sg P f (first++args.toList.map (pT (bd fr) z o.op)++mh) m x)∧K (fr.put d (.lazy z x.plain)) m
      |_=>False
    |op=>
     match bO P m (pT (bd fr) z op) op with
     |some (side,x)=>(z=true→side)∧K (fr.put d (.lazy z x)) m
     |none=>False
   |none=>False
  |_,_=>False
end Go.ba
end
