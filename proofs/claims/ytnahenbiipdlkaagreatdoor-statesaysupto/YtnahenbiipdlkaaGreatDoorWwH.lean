/-
  The abstract layer, part 1: abstract values (trees), how a Go value in a world reads as one, and what keeps that reading. No program in sight.
-/
import Derived.WalkKit
section
namespace Go.bh
open Go
inductive R where
 |bool (b:Bool)
 |int (k:IntKind) (n:Int)
 |str (s:List UInt8)
 |ptr (a:Addr)
 |fc
 |ref (l:List R)
 |slice (own:Bool) (l:List R)
 |ms (a:Addr) (len cap:Nat)
 |map (b:Nat)
 |jS
 |func (fn:Fn) (first captured:List R)
 |kP
 |fz
 |iface (t:TypeId) (v:R)
 |nilIface
 |err (t:TypeId) (e:Int)
 |opt (b:Bool)
 |agg (l:List R)
 |tuple (l:List R)
 |lazy (g:Bool) (v:R)
 |aP
instance:Inhabited R:=⟨.aP⟩
def R.cells:R→List R
 | .agg l=>l
 |x=>[x]
mutual
def R.plain:R→R
 | .slice _ l=> .slice false l
 | .agg l=> .agg (R.fe l)
 | .tuple l=> .tuple (R.fe l)
 | .lazy g x=> .lazy g x.plain
 | .bool b=> .bool b
 | .int k n=> .int k n
 | .str s=> .str s
 | .ptr a=> .ptr a
 | .fc=> .fc
 | .ref l=> .ref l
 | .ms a n c=> .ms a n c
 | .map b=> .map b
 | .jS=> .jS
 | .func f a b=> .func f a b
 | .kP=> .kP
 | .fz=> .fz
 | .iface t v=> .iface t v
 | .nilIface=> .nilIface
 | .err t e=> .err t e
 | .opt b=> .opt b
 | .aP=> .aP
def R.fe:List R→List R
 |[]=>[]
 |x::r=>x.plain::R.fe r
end
theorem R.iI (l:List R):R.fe l=l.map R.plain:=by
 induction l with
 |nil=>rfl
 |cons x r aQ=>simp [R.fe,aQ]
theorem oJ (l:List R) (i:Nat):(R.fe l).getD i .aP=(l.getD i .aP).plain:=by
 rw [R.iI]
 simp only [List.getD_eq_getElem?_getD,List.getElem?_map]
 cases l[i]?<;>simp [R.plain]
inductive aF (w:World) (lim:Nat→Nat):Value→R→List Nat→Prop
 |bool (b:Bool):aF w lim (.bool b) (.bool b) []
 |int (k:IntKind) (n:Int) (bD:k.min≤n) (ab:n≤k.max):aF w lim (.int k n) (.int k n) []
 |str (s:ByteArray) (h:s.size≤140737488355328):aF w lim (.string s) (.str s.data.toList) []
 |ptr (a:Addr):aF w lim (.pointer (some a)) (.ptr a) []
 |fc:aF w lim (.pointer none) .fc []
 |ref (b off:Nat) (l:List R) (cv:Nat→Value) (ar:off+l.length≤lim b) (ag:∀i,i<l.length→w.cell? ⟨b,off+i,none⟩=some (cv i))
   (au:∀i,i<l.length→aF w lim (cv i) (l.getD i .aP) []):aF w lim (.pointer (some ⟨b,off,none⟩)) (.ref l) []
 |fz (own:Bool):aF w lim (.slice none 0 0) (.slice own []) []
 |empty (a:Addr) (cap:Nat) (hm:cap≤maxLen):aF w lim (.slice (some a) 0 cap) (.slice false []) []
 |slice (b off n cap sz:Nat) (l:List R) (cv:Nat→Nat→Value) (aL:l.length=n) (dT:n≤cap) (hm:cap≤maxLen) (cU:n≤140737488355328)
   (b2:∀i,i<n→(l.getD i .aP).cells.length=sz) (ek:off+n*sz≤lim b)
   (ag:∀i j,i<n→j<sz→w.cell? ⟨b,off+i*sz+j,none⟩=some (cv i j))
   (au:∀i j,i<n→j<sz→aF w lim (cv i j) ((l.getD i .aP).cells.getD j .aP) []):aF w lim (.slice (some ⟨b,off,none⟩) n cap) (.slice false l) []
 |own (b n cap sz:Nat) (l:List R) (cv:Nat→Nat→Value) (cur:Array Value) (e:TypeId) (aL:l.length=n) (dT:n≤cap) (hm:cap≤maxLen) (cU:n≤140737488355328)
   (aq:0<n∨cap=0) (ae:w.heap[b]?=some (.cells cur e (0,0))) (ib:cur.size=cap*sz)
   (b2:∀i,i<n→(l.getD i .aP).cells.length=sz) (ek:n*sz=lim b)
   (ag:∀i j,i<n→j<sz→w.cell? ⟨b,i*sz+j,none⟩=some (cv i j))
   (au:∀i j,i<n→j<sz→aF w lim (cv i j) ((l.getD i .aP).cells.getD j .aP) []):aF w lim (.slice (some ⟨b,0,none⟩) n cap) (.slice true l) [b]
 |ms (a:Addr) (len cap:Nat) (h:len≤cap) (hm:cap≤maxLen):aF w lim (.slice (some a) len cap) (.ms a len cap) []
 |map (b:Nat):aF w lim (.map (some b)) (.map b) []
 |jS:aF w lim (.map none) .jS []
 |func (fn:Fn) (f c:Array Value) (bu fK:List R) (aW:f.size=bu.length) (ag:c.size=fK.length) (wM:∀i,i<bu.length→aF w lim (f.getD i undef) (bu.getD i .aP) [])
   (wN:∀i,i<fK.length→aF w lim (c.getD i undef) (fK.getD i .aP) []):aF w lim (.func fn f c) (.func fn bu fK) []
 |kP:aF w lim .nilFunc .kP []
 |pq (a:Option Addr):aF w lim (.slice a 0 0) .fz []
 |iface (t:TypeId) (v:Value) (x:R) (h:aF w lim v x []):aF w lim (.iface t v) (.iface t x) []
 |nilIface:aF w lim .nilIface .nilIface []
 |l2 (t:TypeId):aF w lim .nilIface (.err t 0) []
 |jb (t:TypeId) (e:Int) (h:e≠0) (bD:IntKind.i64.min≤e) (ab:e≤IntKind.i64.max):aF w lim (.iface t (.int .i64 e)) (.err t e) []
 |mB:aF w lim .nilIface (.opt false) []
 |mC (t:TypeId) (v:Value):aF w lim (.iface t v) (.opt true) []
 |agg (cs:Array Value) (xs:List R) (os:Nat→List Nat) (h:cs.size=xs.length) (au:∀i,i<xs.length→aF w lim (cs.getD i undef) (xs.getD i .aP) (os i)):
   aF w lim (.agg cs) (.agg xs) ((List.range xs.length).flatMap os)
 |tuple (cs:Array Value) (xs:List R) (os:Nat→List Nat) (h:cs.size=xs.length) (au:∀i,i<xs.length→aF w lim (cs.getD i undef) (xs.getD i .aP) (os i)):
   aF w lim (.tuple cs) (.tuple xs) ((List.range xs.length).flatMap os)
 |pr (v:Value) (x:R) (os:List Nat) (h:aF w lim v x os):aF w lim v (.lazy true x) os
 |mD (x:R):aF w lim undef (.lazy false x) []
 |aP (v:Value):aF w lim v .aP []
section
variable {w w':World} {lim lim':Nat→Nat} {v:Value} {x:R} {os:List Nat}
theorem aF.fA (h:aF w lim v x os) (ar:∀b,lim b≤lim' b) (ag:∀b o,o<lim b→w'.cell? ⟨b,o,none⟩=w.cell? ⟨b,o,none⟩)
 (av:∀c∈os,w'.heap[c]?=w.heap[c]?∧lim' c=lim c):aF w' lim' v x os:=by
 induction h with
 |bool b=>exact .bool b
 |int k n bD ab=>exact .int k n bD ab
 |str s h=>exact .str s h
 |ptr a=>exact .ptr a
 |fc=>exact .fc
 |ref b off l cv ic hh au aQ=>
  exact .ref b off l cv (Nat.le_trans ic (ar b)) (fun i ab=>by rw [ag b (off+i) (by omega)];exact hh i ab) (fun i ab=>aQ i ab (by simp))
 |fz own=>exact .fz own
 |empty a cap hm=>exact .empty a cap hm
 |slice b off n cap sz l cv aL dT hm cU b2 ek hh au aQ=>
  refine .slice b off n cap sz l cv aL dT hm cU b2 (Nat.le_trans ek (ar b)) (fun i j ab ay=>?_) (fun i j ab ay=>aQ i j ab ay (by simp))
  rw [ag b _ ?_]
  · exact hh i j ab ay
  · have:i*sz+sz≤n*sz:=by rw [←Nat.succ_mul];exact Nat.mul_le_mul_right _ ab
    omega
 |own b n cap sz l cv cur e aL dT hm cU aq ae ib b2 ek hh au aQ=>
  have Gv:=av b (by simp)
  refine .own b n cap sz l cv cur e aL dT hm cU aq (Gv.1.trans ae) ib b2 (ek.trans Gv.2.symm) (fun i j ab ay=>?_) (fun i j ab ay=>aQ i j ab ay (by simp))
  rw [ag b _ ?_]
  · exact hh i j ab ay
  · have:i*sz+sz≤n*sz:=by rw [←Nat.succ_mul];exact Nat.mul_le_mul_right _ ab
    omega
 |ms a len cap h hm=>exact .ms a len cap h hm
 |map b=>exact .map b
 |jS=>exact .jS
 |func fn f c bu fK aW hh wM wN Gw Gx=>exact .func fn f c bu fK aW hh (fun i ab=>Gw i ab (by simp)) (fun i ab=>Gx i ab (by simp))
 |kP=>exact .kP
 |pq a=>exact .pq a
 |iface t v x h aQ=>exact .iface t v x (aQ (by simp))
 |nilIface=>exact .nilIface
 |l2 t=>exact .l2 t
 |jb t e h bD ab=>exact .jb t e h bD ab
 |mB=>exact .mB
 |mC t v=>exact .mC t v
 |agg cs xs os h au aQ=>exact .agg cs xs os h (fun i ab=>aQ i ab (fun c ag=>av c (List.mem_flatMap.2 ⟨i,by simpa using ab,ag⟩)))
 |tuple cs xs os h au aQ=>exact .tuple cs xs os h (fun i ab=>aQ i ab (fun c ag=>av c (List.mem_flatMap.2 ⟨i,by simpa using ab,ag⟩)))
 |pr v x os h aQ=>exact .pr v x os (aQ av)
 |mD x=>exact .mD x
 |aP v=>exact .aP v
theorem flatMap_nil (n:Nat):(List.range n).flatMap (fun _=>([]:List Nat))=[]:=by
 induction n<;>simp_all
theorem aF.plain (h:aF w lim v x os):aF w lim v x.plain []:=by
 induction h with
 |bool b=>exact .bool b
 |int k n bD ab=>exact .int k n bD ab
 |str s h=>exact .str s h
 |ptr a=>exact .ptr a
 |fc=>exact .fc
 |ref b off l cv ar ag au aQ=>exact .ref b off l cv ar ag au
 |fz own=>exact .fz false
 |empty a cap hm=>exact .empty a cap hm
 |slice b off n cap sz l cv aL dT hm cU b2 ek ag au aQ=>exact .slice b off n cap sz l cv aL dT hm cU b2 ek ag au
 |own b n cap sz l cv cur e aL dT hm cU aq ae ib b2 ek ag au aQ=>exact .slice b 0 n cap sz l cv aL dT hm cU b2 (by omega) (fun i j ab ay=>by simpa using ag i j ab ay) au
 |ms a len cap h hm=>exact .ms a len cap h hm
 |map b=>exact .map b
 |jS=>exact .jS
 |func fn f c bu fK aW ag wM wN Gw Gx=>exact .func fn f c bu fK aW ag wM wN
 |kP=>exact .kP
 |pq a=>exact .pq a
 |iface t v x h aQ=>exact .iface t v x h
 |nilIface=>exact .nilIface
 |l2 t=>exact .l2 t
 |jb t e h bD ab=>exact .jb t e h bD ab
 |mB=>exact .mB
 |mC t v=>exact .mC t v
 |agg cs xs os h au aQ=>
  have:=aF.agg (w:=w) (lim:=lim) cs (R.fe xs) (fun _=>[]) (by simp [R.iI,h]) (fun i ab=>by rw [oJ];exact aQ i (by simpa [R.iI] using ab))
  rw [flatMap_nil] at this
  exact this
 |tuple cs xs os h au aQ=>
  have:=aF.tuple (w:=w) (lim:=lim) cs (R.fe xs) (fun _=>[]) (by simp [R.iI,h]) (fun i ab=>by rw [oJ];exact aQ i (by simpa [R.iI] using ab))
  rw [flatMap_nil] at this
  exact this
 |pr v x os h aQ=>exact .pr v _ _ aQ
 |mD x=>exact .mD _
 |aP v=>exact .aP v
theorem aF.Gy (h:aF w lim v x os):∀c∈os,c<w.heap.size:=by
 induction h with
 |own b n cap sz l cv cur e aL dT hm cU aq ae ib b2 ek ag au aQ=>
  intro c ag
  simp only [List.mem_singleton] at ag
  subst ag
  exact (Array.getElem?_eq_some_iff.1 ae).1
 |agg cs xs os h au aQ=>
  intro c ag
  obtain ⟨i,ab,ag⟩:=List.mem_flatMap.1 ag
  exact aQ i (by simpa using ab) c ag
 |tuple cs xs os h au aQ=>
  intro c ag
  obtain ⟨i,ab,ag⟩:=List.mem_flatMap.1 ag
  exact aQ i (by simpa using ab) c ag
 |pr v x os h aQ=>exact aQ
 |_=>intro c ag;cases ag
end
end Go.bh
end
section
namespace Go.bh
open Go
abbrev Fr:=List (Nat×R)
def Fr.get:Fr→Nat→Option R
 |[],_=>none
 |(s,x)::r,t=>if s=t then some x else Fr.get r t
def Fr.put (fr:Fr) (t:Nat) (x:R):Fr:=(t,x)::fr
theorem Fr.qC (fr:Fr) (t s:Nat) (x:R):(fr.put t x).get s=if t=s then some x else fr.get s:=rfl
def Fr.keep (ks:List Nat) (fr:Fr):Fr:=ks.map fun t=>(t,(fr.get t).getD .aP)
inductive ed where
 |cells (l:List R)
 |map (l:List (R×R))
 |iter (r:Nat) (l:List (R×R)) (seen:List Nat)
 |en (e eb:TypeId) (l:List R)
 |lb (e:TypeId) (z:Nat×Nat) (cs:Array Value)
 |part (sz cap:Nat) (l:List R) (z:List R)
def ed.zf:ed→Nat
 | .part sz _ l _=>l.length*sz
 |_=>0
abbrev ad:=Nat→Option ed
def ad.bL (m:ad) (b:Nat) (o:Option ed):ad:=fun c=>if c=b then o else m c
inductive Place where
 |none
 |slot (t:Nat)
 |nU (b i:Nat)
 |lB
 deriving DecidableEq
inductive kk (w:World) (lim:Nat→Nat) (b:Nat):ed→(Nat→List Nat)→Prop
 |cells (cs:Array Value) (e:TypeId) (l:List R) (os:Nat→List Nat) (ae:w.heap[b]?=some (.cells cs e (0,0))) (al:cs.size=l.length)
   (au:∀i,i<l.length→aF w lim (cs.getD i undef) (l.getD i .aP) (os i)):kk w lim b (.cells l) os
 |map (es:Array MapEntry) (clock:Nat) (l:List (R×R)) (ae:w.heap[b]?=some (.map es clock)) (al:es.size=l.length) (cU:l.length≤140737488355328)
   (aj:∀i,i<l.length→aF w lim (es.getD i default).key (l.getD i (.aP, .aP)).1 []) (bc:∀i,i<l.length→aF w lim (es.getD i default).val (l.getD i (.aP, .aP)).2 [])
   (nd:∀i j,i<j→j<l.length→(es.getD i default).born<(es.getD j default).born) (nf:∀i,i<l.length→(es.getD i default).born<clock) (os:Nat→List Nat):kk w lim b (.map l) os
 |iter (es:Array MapEntry) (clock r:Nat) (l:List (R×R)) (seen:List Nat) (ae:w.heap[b]?=some (.map es clock)) (al:es.size=l.length) (cU:l.length≤140737488355328)
   (aj:∀i,i<l.length→aF w lim (es.getD i default).key (l.getD i (.aP, .aP)).1 []) (bc:∀i,i<l.length→aF w lim (es.getD i default).val (l.getD i (.aP, .aP)).2 [])
   (nd:∀i j,i<j→j<l.length→(es.getD i default).born<(es.getD j default).born) (nf:∀i,i<l.length→(es.getD i default).born<clock)
   (au:w.heap[r]?=some (.mapIter (some b) clock (seen.map fun i=>(es.getD i default).born).toArray clock)) (ux:∀i∈seen,i<l.length) (os:Nat→List Nat) (kQ:r∈os 0):kk w lim b (.iter r l seen) os
 |en (p v:Value) (e eb:TypeId) (l:List R) (os:Nat→List Nat) (ae:w.heap[b]?=some (.cells #[p,v] e (0,0))) (aB:p= .pointer none∨p= .pointer (some ⟨b,0,none⟩)) (au:aF w lim v (.slice true l) (os 1))
   (a8:v= .slice none 0 0∨∃g n c cur,v= .slice (some ⟨g,0,none⟩) n c∧g∈os 1∧l≠[]∧w.heap[g]?=some (.cells cur eb (0,0))):kk w lim b (.en e eb l) os
 |lb (e:TypeId) (z:Nat×Nat) (cs:Array Value) (os:Nat→List Nat) (ae:w.heap[b]?=some (.cells cs e z)):kk w lim b (.lb e z cs) os
 |part (sz cap:Nat) (cur:Array Value) (e:TypeId) (l z:List R) (os:Nat→List Nat) (ae:w.heap[b]?=some (.cells cur e (0,0))) (ib:cur.size=cap*sz) (dT:l.length+1≤cap) (hm:cap≤maxLen) (cU:l.length+1≤140737488355328)
   (b2:∀i,i<l.length→(l.getD i .aP).cells.length=sz) (aA:z.length=sz) (au:∀i j,i<l.length→j<sz→aF w lim (cur.getD (i*sz+j) undef) ((l.getD i .aP).cells.getD j .aP) [])
   (wO:∀j,j<sz→aF w lim (cur.getD (l.length*sz+j) undef) (z.getD j .aP) []):kk w lim b (.part sz cap l z) os
structure qD (F:Nat→Prop) (lim:Nat→Nat) (w:World) (n:Nat) (fr:Fr) (m:ad) (ca:Act) (bu:List Nat) (os:Nat→List Nat) (b6:Nat→Nat→List Nat) (bA:Nat→Place):Prop where
 size:ca.tmps.size=n
 defers:ca.defers=[]
 dX:∀t x,fr.get t=some x→t<n∧aF w lim (ca.tmps.getD t undef) x (os t)
 mem:∀b o,m b=some o→kk w lim b o (b6 b)∧lim b=o.zf∧¬F b
 ey:∀t x,fr.get t=some x→(os t).Nodup∧∀c∈os t,bA c= .slot t
 ds:∀b o,m b=some o→∀i,(b6 b i).Nodup∧∀c∈b6 b i,bA c= .nU b i
 fL:bu.Nodup∧∀c∈bu,bA c= .lB
 free:∀c,bA c≠ .none→¬F c∧m c=none∧c<w.heap.size
 fresh:∀b,w.heap.size≤b→lim b=0∧¬F b∧m b=none
def bd (F:Nat→Prop) (lim:Nat→Nat) (w:World) (n:Nat) (fr:Fr) (m:ad) (ca:Act) (bu:List Nat):Prop:=
 ∃os b6 bA,qD F lim w n fr m ca bu os b6 bA
structure dc (F:Nat→Prop) (w:World) (lim:Nat→Nat) (w':World) (lim':Nat→Nat):Prop where
 os:w'.os=w.os
 tape:w'.tape=w.tape
 output:w'.output=w.output
 size:w.heap.size≤w'.heap.size
 res:∀b,F b→w'.heap[b]?=w.heap[b]?∧lim' b=lim b
 mono:∀b,lim b≤lim' b
 cell:∀b o,o<lim b→w'.cell? ⟨b,o,none⟩=w.cell? ⟨b,o,none⟩
theorem dc.refl (F:Nat→Prop) (w:World) (lim:Nat→Nat):dc F w lim w lim:=⟨rfl,rfl,rfl,Nat.le_refl _,fun _ _=>⟨rfl,rfl⟩,fun _=>Nat.le_refl _,fun _ _ _=>rfl⟩
theorem dc.trans {F:Nat→Prop} {w w' gG:World} {lim lim' hC:Nat→Nat} (h:dc F w lim w' lim') (k:dc F w' lim' gG hC):dc F w lim gG hC:=
 ⟨k.os.trans h.os,k.tape.trans h.tape,k.output.trans h.output,Nat.le_trans h.size k.size,
  fun b ae=>⟨(k.res b ae).1.trans (h.res b ae).1,(k.res b ae).2.trans (h.res b ae).2⟩,fun b=>Nat.le_trans (h.mono b) (k.mono b),
  fun b o av=>(k.cell b o (Nat.lt_of_lt_of_le av (h.mono b))).trans (h.cell b o av)⟩
theorem dc.weaken {F oK:Nat→Prop} {w w':World} {lim lim':Nat→Nat} (h:dc oK w lim w' lim') (cE:∀b,F b→oK b):dc F w lim w' lim':=
 ⟨h.os,h.tape,h.output,h.size,fun b ae=>h.res b (cE b ae),h.mono,h.cell⟩
theorem dc.drew (F:Nat→Prop) (w:World) (lim:Nat→Nat):dc F w lim w.drew lim:=⟨rfl,rfl,rfl,Nat.le_refl _,fun _ _=>⟨rfl,rfl⟩,fun _=>Nat.le_refl _,fun _ _ _=>rfl⟩
theorem nV (w:World) (o:Obj):(w.alloc o).heap[w.heap.size]?=some o:=by
 show (w.heap.push o)[w.heap.size]?=some o
 simp
theorem lC (w:World) (o:Obj) (i:Nat) (h:i<w.heap.size):(w.alloc o).heap[i]?=w.heap[i]?:=by
 show (w.heap.push o)[i]?=w.heap[i]?
 rw [Array.getElem?_push,if_neg (Nat.ne_of_lt h)]
section
variable {F:Nat→Prop} {lim lim':Nat→Nat} {w w':World} {n:Nat} {fr:Fr} {m:ad} {ca:Act} {bu:List Nat}
theorem kk.fA {b:Nat} {o:ed} {os:Nat→List Nat} (h:kk w lim b o os) (ae:w'.heap[b]?=w.heap[b]?) (ar:∀b,lim b≤lim' b)
 (ag:∀b o,o<lim b→w'.cell? ⟨b,o,none⟩=w.cell? ⟨b,o,none⟩) (av:∀i,∀c∈os i,w'.heap[c]?=w.heap[c]?∧lim' c=lim c):kk w' lim' b o os:=by
 cases h with
 |cells cs e l os e8 al au=>
  exact .cells cs e l os (ae.trans e8) al (fun i ab=>(au i ab).fA ar ag (av i))
 |map es clock l e8 al cU aj bc I J _=>
  exact .map es clock l (ae.trans e8) al cU (fun i ab=>(aj i ab).fA ar ag (by simp)) (fun i ab=>(bc i ab).fA ar ag (by simp)) I J os
 |iter es clock r l seen e8 al cU aj bc I J au ux _ kQ=>
  exact .iter es clock r l seen (ae.trans e8) al cU (fun i ab=>(aj i ab).fA ar ag (by simp)) (fun i ab=>(bc i ab).fA ar ag (by simp)) I J ((av 0 r kQ).1.trans au) ux os kQ
 |en p v e eb l os e8 aB au a8=>
  exact .en p v e eb l os (ae.trans e8) aB (au.fA ar ag (av 1)) (by
   rcases a8 with a8|⟨g,n,c,cur,I,J,ai,aC⟩
   · exact .inl a8
   · exact .inr ⟨g,n,c,cur,I,J,ai,(av 1 g J).1.trans aC⟩)
 |lb e z cs os e8=>exact .lb e z cs _ (ae.trans e8)
 |part sz cap cur e l z os e8 I J ai aC aN bE au wO=>exact .part sz cap cur e l z _ (ae.trans e8) I J ai aC aN bE (fun i j ab ay=>(au i j ab ay).fA ar ag (by simp)) (fun j ay=>(wO j ay).fA ar ag (by simp))
theorem bd.world (h:bd F lim w n fr m ca bu) (b2:w.heap.size≤w'.heap.size) (ar:∀b,lim b≤lim' b) (ag:∀b o,o<lim b→w'.cell? ⟨b,o,none⟩=w.cell? ⟨b,o,none⟩)
 (B1:∀c,c<w.heap.size→(¬F c∧m c=none→False)∨(w'.heap[c]?=w.heap[c]?∧lim' c=lim c)) (hm:∀b,m b≠none→w'.heap[b]?=w.heap[b]?∧lim' b=lim b)
 (B2:∀b,w'.heap.size≤b→lim' b=0):bd F lim' w' n fr m ca bu:=by
 obtain ⟨os,b6,bA,h⟩:=h
 have hi:∀c,bA c≠ .none→w'.heap[c]?=w.heap[c]?∧lim' c=lim c:=fun c qE=>by
  have aW:=h.free c qE
  rcases B1 c aW.2.2 with aj|aj
  · exact (aj ⟨aW.1,aW.2.1⟩).elim
  · exact aj
 refine ⟨os,b6,bA,h.size,h.defers,fun t x ah=>⟨(h.dX t x ah).1,(h.dX t x ah).2.fA ar ag (fun c lD=>hi c (by rw [(h.ey t x ah).2 c lD];simp))⟩,fun b o ae=>?_,h.ey,h.ds,h.fL,
  fun c qE=>⟨(h.free c qE).1,(h.free c qE).2.1,Nat.lt_of_lt_of_le (h.free c qE).2.2 b2⟩,fun b ae=>⟨B2 b ae,(h.fresh b (Nat.le_trans b2 ae)).2⟩⟩
 have kR:=hm b (by rw [ae];simp)
 exact ⟨(h.mem b o ae).1.fA kR.1 ar ag (fun i c lD=>hi c (by rw [(h.ds b o ae i).2 c lD];simp)),kR.2.trans (h.mem b o ae).2.1,(h.mem b o ae).2.2⟩
theorem bd.heap (h:bd F lim w n fr m ca bu) (ba:w'.heap=w.heap):bd F lim w' n fr m ca bu:=by
 have fU:∀b o,w'.cell? ⟨b,o,none⟩=w.cell? ⟨b,o,none⟩:=fun b o=>by simp [World.cell?,ba]
 refine h.world (by rw [ba];exact Nat.le_refl _) (fun _=>Nat.le_refl _) (fun b o _=>fU b o) (fun c _=> .inr ⟨by rw [ba],rfl⟩) (fun b _=>⟨by rw [ba],rfl⟩) (fun b ae=>?_)
 obtain ⟨os,b6,bA,h⟩:=h
 exact (h.fresh b (by rw [←ba];exact ae)).1
theorem Gz (w:World) (o:Obj) {b:Nat} (ae:b<w.heap.size) (i:Nat):(w.alloc o).cell? ⟨b,i,none⟩=w.cell? ⟨b,i,none⟩:=
 World.cell?_alloc_lt w o ⟨b,i,none⟩ ae
theorem bd.qF (h:bd F lim w n fr m ca bu) {b o:Nat} (av:o<lim b):b<w.heap.size:=by
 obtain ⟨os,b6,bA,h⟩:=h
 rcases Nat.lt_or_ge b w.heap.size with ae|ae
 · exact ae
 · have:=(h.fresh b ae).1;omega
theorem bd.pt (h:bd F lim w n fr m ca bu) {b:Nat} (ae:F b):b<w.heap.size:=by
 obtain ⟨os,b6,bA,h⟩:=h
 rcases Nat.lt_or_ge b w.heap.size with e8|e8
 · exact e8
 · exact ((h.fresh b e8).2.1 ae).elim
theorem bd.p4 (h:bd F lim w n fr m ca bu) {b:Nat} (ae:m b≠none):b<w.heap.size:=by
 obtain ⟨os,b6,bA,h⟩:=h
 rcases Nat.lt_or_ge b w.heap.size with e8|e8
 · exact e8
 · exact (ae (h.fresh b e8).2.2).elim
theorem bd.rF (h:bd F lim w n fr m ca bu):lim w.heap.size=0:=by
 obtain ⟨os,b6,bA,h⟩:=h
 exact (h.fresh _ (Nat.le_refl _)).1
theorem bd.alloc (h:bd F lim w n fr m ca bu) (o:Obj) (k:Nat):bd F (fun b=>if b=w.heap.size then k else lim b) (w.alloc o) n fr m ca bu:=by
 have aA:=h.rF
 refine h.world (by simp) (fun b=>?_) (fun b i ab=>Gz w o (h.qF ab) i) (fun c ag=> .inr ⟨lC w o c ag,by rw [if_neg (by omega)]⟩)
  (fun b ae=>⟨lC w o b (h.p4 ae),by rw [if_neg (Nat.ne_of_lt (h.p4 ae))]⟩) (fun b ae=>?_)
 · by_cases ae:b=w.heap.size
   · subst ae;rw [aA];exact Nat.zero_le _
   · rw [if_neg ae];exact Nat.le_refl _
 · simp at ae
   rw [if_neg (by omega)]
   obtain ⟨os,b6,bA,h⟩:=h
   exact (h.fresh b (by omega)).1
theorem dc.alloc (h:bd F lim w n fr m ca bu) (o:Obj) (k:Nat):dc F w lim (w.alloc o) (fun b=>if b=w.heap.size then k else lim b):=by
 have aA:=h.rF
 refine ⟨rfl,rfl,rfl,by simp,fun b ae=>⟨lC w o b (h.pt ae),by rw [if_neg (Nat.ne_of_lt (h.pt ae))]⟩,fun b=>?_,fun b i ab=>Gz w o (h.qF ab) i⟩
 by_cases ae:b=w.heap.size
 · subst ae;rw [aA];exact Nat.zero_le _
 · rw [if_neg ae];exact Nat.le_refl _
theorem bd.set (h:bd F lim w n fr m ca []) {d:Nat} (aY:d<n) {v:Value} {x:R} (ah:aF w lim v x []):bd F lim w n (fr.put d x) m (ca.put (some d) v) []:=by
 obtain ⟨os,b6,bA,h⟩:=h
 refine ⟨fun t=>if t=d then [] else os t,b6,bA,by simp [Act.put,h.size],h.defers,fun t y aE=>?_,h.mem,fun t y aE=>?_,h.ds,h.fL,h.free,h.fresh⟩
 · rw [Fr.qC] at aE
   by_cases ao:t=d
   · subst ao
     simp only [↓reduceIte,Option.some.injEq] at aE ⊢
     subst aE
     refine ⟨aY,?_⟩
     simpa [Act.put,Array.getD,h.size,aY] using ah
   · rw [if_neg (fun e=>ao e.symm)] at aE
     rw [if_neg ao]
     refine ⟨(h.dX t y aE).1,?_⟩
     have:=(h.dX t y aE).2
     have eB:¬d=t:=fun e=>ao e.symm
     simp only [Act.put,Array.getD_eq_getD_getElem?,Array.getElem?_setIfInBounds,eB,if_false] at this ⊢
     exact this
 · rw [Fr.qC] at aE
   by_cases ao:t=d
   · simp [ao]
   · rw [if_neg (fun e=>ao e.symm)] at aE
     simp only [if_neg ao]
     exact h.ey t y aE
theorem bd.GA (h:bd F lim w n fr m ca bu) {d:Nat} (aY:d<n) {v:Value} {x:R} (ah:aF w lim v x bu):bd F lim w n (fr.put d x) m (ca.put (some d) v) []:=by
 obtain ⟨os,b6,bA,h⟩:=h
 refine ⟨fun t=>if t=d then bu else os t,b6,fun c=>if bA c= .lB then .slot d else if bA c= .slot d then .none else bA c,by simp [Act.put,h.size],h.defers,fun t y aE=>?_,h.mem,fun t y aE=>?_,fun b o ae=>?_,by simp,fun c ag=>?_,h.fresh⟩
 · rw [Fr.qC] at aE
   by_cases ao:t=d
   · subst ao
     simp only [↓reduceIte,Option.some.injEq] at aE ⊢
     subst aE
     refine ⟨aY,?_⟩
     simpa [Act.put,Array.getD,h.size,aY] using ah
   · rw [if_neg (fun e=>ao e.symm)] at aE
     rw [if_neg ao]
     refine ⟨(h.dX t y aE).1,?_⟩
     have:=(h.dX t y aE).2
     have eB:¬d=t:=fun e=>ao e.symm
     simp only [Act.put,Array.getD_eq_getD_getElem?,Array.getElem?_setIfInBounds,eB,if_false] at this ⊢
     exact this
 · rw [Fr.qC] at aE
   by_cases ao:t=d
   · simp only [ao,↓reduceIte]
     exact ⟨h.fL.1,fun c ag=>by simp [h.fL.2 c ag]⟩
   · rw [if_neg (fun e=>ao e.symm)] at aE
     simp only [if_neg ao]
     refine ⟨(h.ey t y aE).1,fun c ag=>?_⟩
     simp [(h.ey t y aE).2 c ag,ao]
 · exact fun i=>⟨(h.ds b o ae i).1,fun c ag=>by simp [(h.ds b o ae i).2 c ag]⟩
 · by_cases I:bA c= .lB
   · exact h.free c (by rw [I];simp)
   · simp only [I,↓reduceIte] at ag
     by_cases J:bA c= .slot d
     · simp [J] at ag
     · simp only [J,↓reduceIte] at ag
       exact h.free c ag
theorem bd.take (h:bd F lim w n fr m ca []) {s:Nat} {x:R} (al:fr.get s=some x):
 ∃os,bd F lim w n (fr.put s x.plain) m ca os∧aF w lim (ca.tmps.getD s undef) x os:=by
 obtain ⟨os,b6,bA,h⟩:=h
 refine ⟨os s,⟨fun t=>if t=s then [] else os t,b6,fun c=>if bA c= .slot s then .lB else if bA c= .lB then .none else bA c,h.size,h.defers,fun t y aE=>?_,h.mem,fun t y aE=>?_,fun b o ae=>?_,?_,fun c ag=>?_,h.fresh⟩,(h.dX s x al).2⟩
 · rw [Fr.qC] at aE
   by_cases ao:t=s
   · subst ao
     simp only [↓reduceIte,Option.some.injEq] at aE ⊢
     subst aE
     exact ⟨(h.dX t x al).1,(h.dX t x al).2.plain⟩
   · rw [if_neg (fun e=>ao e.symm)] at aE
     simpa [if_neg ao] using h.dX t y aE
 · rw [Fr.qC] at aE
   by_cases ao:t=s
   · simp [ao]
   · rw [if_neg (fun e=>ao e.symm)] at aE
     simp only [if_neg ao]
     refine ⟨(h.ey t y aE).1,fun c ag=>?_⟩
     simp [(h.ey t y aE).2 c ag,ao]
 · exact fun i=>⟨(h.ds b o ae i).1,fun c ag=>by simp [(h.ds b o ae i).2 c ag]⟩
 · exact ⟨(h.ey s x al).1,fun c ag=>by simp [(h.ey s x al).2 c ag]⟩
 · by_cases I:bA c= .slot s
   · exact h.free c (by rw [I];simp)
   · simp only [I,↓reduceIte] at ag
     by_cases J:bA c= .lB
     · simp [J] at ag
     · simp only [J,↓reduceIte] at ag
       exact h.free c ag
theorem bd.drop (h:bd F lim w n fr m ca bu):bd F lim w n fr m ca []:=by
 obtain ⟨os,b6,bA,h⟩:=h
 exact ⟨os,b6,bA,h.size,h.defers,h.dX,h.mem,h.ey,h.ds,⟨by simp,by simp⟩,h.free,h.fresh⟩
theorem bd.sub {bb:Fr} (h:bd F lim w n fr m ca bu) (al:∀t x,bb.get t=some x→fr.get t=some x∨(x= .aP∧t<n)):bd F lim w n bb m ca bu:=by
 obtain ⟨os,b6,bA,h⟩:=h
 classical
 refine ⟨fun t=>if bb.get t=fr.get t then os t else [],b6,bA,h.size,h.defers,fun t x ah=>?_,h.mem,fun t x ah=>?_,h.ds,h.fL,h.free,h.fresh⟩
 · by_cases he:bb.get t=fr.get t
   · simp only [he,if_true]
     exact h.dX t x (he▸ah)
   · simp only [if_neg he]
     rcases al t x ah with I|⟨I,J⟩
     · exact (he (ah.trans I.symm)).elim
     · subst I;exact ⟨J, .aP _⟩
 · by_cases he:bb.get t=fr.get t
   · simp only [he,if_true]
     exact h.ey t x (he▸ah)
   · simp [if_neg he]
theorem Fr.NY (ks:List Nat) (fr:Fr) (t:Nat) (x:R) (h:(Fr.keep ks fr).get t=some x):t∈ks∧(fr.get t).getD .aP=x:=by
 induction ks with
 |nil=>simp [Fr.keep,Fr.get] at h
 |cons k ks aQ=>
  simp only [Fr.keep,List.map_cons,Fr.get] at h
  by_cases aj:k=t
  · subst aj
    simp only [↓reduceIte,Option.some.injEq] at h
    exact ⟨by simp,h⟩
  · rw [if_neg aj] at h
    have:=aQ h
    exact ⟨by simp [this.1],this.2⟩
theorem bd.keep (h:bd F lim w n fr m ca bu) {ks:List Nat} (aj:∀t∈ks,t<n):bd F lim w n (fr.keep ks) m ca bu:=by
 refine h.sub fun t x ah=>?_
 have:=Fr.NY ks fr t x ah
 cases a8:fr.get t with
 |none=>rw [a8] at this;exact .inr ⟨this.2.symm,aj t this.1⟩
 |some y=>rw [a8] at this;simp at this;exact .inl (by rw [this.2])
theorem bd.rG {m':ad} (h:bd F lim w n fr m ca bu) (al:∀b o,m' b=some o→m b=some o):bd F lim w n fr m' ca bu:=by
 obtain ⟨os,b6,bA,h⟩:=h
 have aL:∀b,m b=none→m' b=none:=fun b ae=>by
  cases e8:m' b with
  |none=>rfl
  |some o=>rw [al b o e8] at ae;cases ae
 exact ⟨os,b6,bA,h.size,h.defers,h.dX,fun b o ae=>h.mem b o (al b o ae),h.ey,fun b o ae=>h.ds b o (al b o ae),h.fL,
  fun c ag=>⟨(h.free c ag).1,aL c (h.free c ag).2.1,(h.free c ag).2.2⟩,fun b ae=>⟨(h.fresh b ae).1,(h.fresh b ae).2.1,aL b (h.fresh b ae).2.2⟩⟩
theorem bd.zg (h:bd F lim w n fr m ca bu) (cs:Array Value) (e:TypeId) (l:List R) (al:cs.size=l.length) (au:∀i,i<l.length→aF w lim (cs.getD i undef) (l.getD i .aP) []):
 m w.heap.size=none∧bd F lim (w.alloc (.cells cs e)) n fr (m.bL w.heap.size (some (.cells l))) ca bu:=by
 have aA:=h.rF
 have ck:=h.alloc (.cells cs e) 0
 have ek:(fun b=>if b=w.heap.size then 0 else lim b)=lim:=by funext b;by_cases ae:b=w.heap.size<;>simp [ae,aA]
 rw [ek] at ck
 have ee:=dc.alloc h (.cells cs e) 0
 rw [ek] at ee
 have cE:¬F w.heap.size:=fun aW=>absurd (h.pt aW) (Nat.lt_irrefl _)
 have hm:m w.heap.size=none:=by
  cases ae:m w.heap.size with
  |none=>rfl
  |some o=>exact absurd (h.p4 (b:=w.heap.size) (by rw [ae];simp)) (Nat.lt_irrefl _)
 obtain ⟨qG,NZ,N0,aq⟩:=h
 refine ⟨hm,?_⟩
 obtain ⟨os,b6,bA,ck⟩:=ck
 refine ⟨qG,fun b i=>if b=w.heap.size then [] else NZ b i,N0,aq.size,aq.defers,fun t x ah=>?_,fun b o ae=>?_,aq.ey,fun b o ae=>?_,aq.fL,fun c ag=>?_,fun b ae=>?_⟩
 · refine ⟨(aq.dX t x ah).1,(aq.dX t x ah).2.fA (fun _=>Nat.le_refl _) ee.cell (fun c ag=>⟨lC w _ c ?_,rfl⟩)⟩
   exact (aq.free c (by rw [(aq.ey t x ah).2 c ag];simp)).2.2
 · by_cases oL:b=w.heap.size
   · subst oL
     simp only [ad.bL,↓reduceIte,Option.some.injEq] at ae ⊢
     subst ae
     refine ⟨?_,aA,cE⟩
     exact kk.cells (w:=w.alloc (.cells cs e)) (lim:=lim) (b:=w.heap.size) cs e l (fun _=>[]) (nV w _) al
      (fun i ab=>(au i ab).fA (fun _=>Nat.le_refl _) ee.cell (by simp))
   · simp only [ad.bL,if_neg oL] at ae ⊢
     have bG:b<w.heap.size:=by
      rcases Nat.lt_or_ge b w.heap.size with e8|e8
      · exact e8
      · have:=(aq.fresh b e8).2.2;rw [ae] at this;cases this
     refine ⟨(aq.mem b o ae).1.fA (lC w _ b bG) (fun _=>Nat.le_refl _) ee.cell (fun i c ag=>⟨lC w _ c ?_,rfl⟩),(aq.mem b o ae).2⟩
     exact (aq.free c (by rw [(aq.ds b o ae i).2 c ag];simp)).2.2
 · by_cases oL:b=w.heap.size
   · simp [oL]
   · simp only [ad.bL,if_neg oL] at ae ⊢
     exact aq.ds b o ae
 · have:=aq.free c ag
   refine ⟨this.1,?_,by simp;omega⟩
   simp only [ad.bL]
   rw [if_neg (by omega)]
   exact this.2.1
 · simp at ae
   have:=aq.fresh b (by omega)
   refine ⟨this.1,this.2.1,?_⟩
   simp only [ad.bL]
   rw [if_neg (by omega)]
   exact this.2.2
end
end Go.bh
end
section
namespace Go.bh
open Go
def jc:Value→R
 | .bool b=> .bool b
 | .int k n=> .int k n
 | .string s=> .str s.data.toList
 | .pointer none=> .fc
 | .slice none _ _=> .slice true []
 | .map none=> .jS
 | .nilFunc=> .kP
 | .nilIface=> .nilIface
 |_=> .aP
def kS:Value→R
 | .agg cs=> .agg (cs.toList.map jc)
 | .iface t v=> .iface t (jc v)
 |v=>jc v
def sX:Value→Bool
 | .int k n=>decide (k.min≤n)&&decide (n≤k.max)
 | .string s=>decide (s.size≤140737488355328)
 | .slice none n c=>n==0&&c==0
 |_=>true
def p5:Value→Bool
 | .agg cs=>cs.toList.all sX
 | .iface _ v=>sX v
 |v=>sX v
def kl:Operand→Bool
 | .const v=>p5 v
 |_=>true
section
variable {w:World} {lim:Nat→Nat}
theorem B3 {v:Value} (h:sX v=true):aF w lim v (jc v) []:=by
 cases v with
 |bool b=>exact .bool b
 |int k n=>simp [sX] at h;exact .int k n h.1 h.2
 |string s=>simp [sX] at h;exact .str s h
 |pointer a=>cases a with
  |none=>exact .fc
  |some a=>exact .aP _
 |slice a n c=>cases a with
  |none=>simp [sX] at h;obtain ⟨rfl,rfl⟩:=h;exact .fz true
  |some a=>exact .aP _
 |map r=>cases r with
  |none=>exact .jS
  |some r=>exact .aP _
 |nilFunc=>exact .kP
 |nilIface=>exact .nilIface
 |_=>exact .aP _
theorem B4 {v:Value} (h:p5 v=true):aF w lim v (kS v) []:=by
 cases v with
 |agg cs=>
  simp only [p5,List.all_eq_true] at h
  have:=aF.agg (w:=w) (lim:=lim) cs (cs.toList.map jc) (fun _=>[]) (by simp) (fun i ab=>by
   have eH:i<cs.size:=by simpa using ab
   have ax:cs.getD i undef=cs[i]:=by simp [Array.getD,eH]
   have aI:(cs.toList.map jc).getD i .aP=jc cs[i]:=by simp [List.getD,eH]
   rw [ax,aI]
   exact B3 (h _ (by simp)))
  rw [flatMap_nil] at this
  exact this
 |iface t v=>exact .iface t v _ (B3 h)
 |_=>exact B3 h
end
def fq (fr:Fr):Operand→R
 | .tmp t=>((fr.get t).getD .aP).plain
 | .const v=>kS v
 | .global g=> .ptr ⟨g,0,none⟩
 | .func f=> .func (.func f) [] []
section
variable {F:Nat→Prop} {lim:Nat→Nat} {w:World} {n:Nat} {fr:Fr} {m:ad} {ca:Act} {bu:List Nat}
theorem wP (h:bd F lim w n fr m ca bu) {x:Operand} (ah:kl x=true):∃os,aF w lim (ca.eval x) (fq fr x) os∧os=[]:=by
 obtain ⟨os,b6,bA,h⟩:=h
 refine ⟨[],?_,rfl⟩
 cases x with
 |tmp t=>
  simp only [fq,Act.eval]
  cases a8:fr.get t with
  |none=>exact .aP _
  |some x=>exact (h.dX t x a8).2.plain
 |const v=>exact B4 ah
 |global g=>exact .ptr _
 |func f=>exact .func _ #[] #[] [] [] rfl rfl (by simp) (by simp)
end
def ld (P:Program) (t:TypeId):Bool:=
 match P.underlying t with
 |some (.struct _)|some (.array _ _)=>true
 |_=>false
def ef (P:Program) (t:TypeId):Bool:=(P.underlying t).isSome
def sY (P:Program) (t:TypeId):R→R→Option (Prop×Bool)
 | .int k a, .int dU b=>some (k=dU∧P.underlying t=some (.int k),a==b)
 | .str a, .str b=>some (P.underlying t=some .string,a==b)
 | .bool a, .bool b=>some (P.underlying t=some .bool,a==b)
 |_,_=>none
def sZ (P:Program) (xs cV:List R):List Field→Option (Prop×Bool)
 |[]=>some (True,true)
 |f::cA=>
  match sY P f.type (xs.getD f.offset .aP) (cV.getD f.offset .aP),sZ P xs cV cA with
  |some (s,b),some (hD,c7)=>some (s∧f.name≠ "_"∧hD,b&&c7)
  |_,_=>none
def nW (P:Program) (op:BinOp) (t:TypeId) (x y:R):Option (Prop×R):=
 match op,x,y with
 | .add, .int k a, .int dU b=>if k=dU then some (True, .int k (k.wrap (a+b))) else none
 | .sub, .int k a, .int dU b=>if k=dU then some (True, .int k (k.wrap (a- b))) else none
 | .mul, .int k a, .int dU b=>if k=dU then some (True, .int k (k.wrap (a*b))) else none
 | .quo, .int k a, .int dU b=>if k=dU then some (b≠0, .int k (k.wrap (a.tdiv b))) else none
 | .rem, .int k a, .int dU b=>if k=dU then some (b≠0∧k.min≤a.tmod b∧a.tmod b≤k.max, .int k (a.tmod b)) else none
 | .and, .int k a, .int dU b=>if k=dU then some (True, .int k (k.wrap (BitVec.ofInt k.bits a &&& BitVec.ofInt k.bits b).toNat)) else none
 | .or, .int k a, .int dU b=>if k=dU then some (True, .int k (k.wrap (BitVec.ofInt k.bits a ||| BitVec.ofInt k.bits b).toNat)) else none
 | .xor, .int k a, .int dU b=>if k=dU then some (True, .int k (k.wrap (BitVec.ofInt k.bits a ^^^ BitVec.ofInt k.bits b).toNat)) else none
 | .shl, .int k a, .int _ b=>some (0≤b, .int k (k.wrap (a*2^(min b.toNat k.bits))))
 | .shr, .int k a, .int _ b=>some (0≤b∧k.min≤a.fdiv (2^(min b.toNat k.bits))∧a.fdiv (2^(min b.toNat k.bits))≤k.max, .int k (a.fdiv (2^(min b.toNat k.bits))))
 | .eql, .int k a, .int dU b=>if k=dU then some (True, .bool (a==b)) else none
 | .neq, .int k a, .int dU b=>if k=dU then some (True, .bool (!(a==b))) else none
 | .lss, .int k a, .int dU b=>if k=dU then some (True, .bool (decide (a<b))) else none
 | .leq, .int k a, .int dU b=>if k=dU then some (True, .bool (decide (a≤b))) else none
 | .gtr, .int k a, .int dU b=>if k=dU then some (True, .bool (decide (b<a))) else none
 | .geq, .int k a, .int dU b=>if k=dU then some (True, .bool (decide (b≤a))) else none
 | .add, .str a, .str b=>some (a.length+b.length≤140737488355328, .str (a++b))
 | .eql, .str a, .str b=>some (True, .bool (a==b))
 | .neq, .str a, .str b=>some (True, .bool (!(a==b)))
 | .lss, .str a, .str b=>some (True, .bool (Op.bytesLess a b))
 | .leq, .str a, .str b=>some (True, .bool (Op.bytesLess a b||a==b))
 | .gtr, .str a, .str b=>some (True, .bool (!(Op.bytesLess a b||a==b)))
 | .geq, .str a, .str b=>some (True, .bool (!(Op.bytesLess a b)))
 | .eql, .bool a, .bool b=>some (P.underlying t=some .bool, .bool (a==b))
 | .neq, .bool a, .bool b=>some (P.underlying t=some .bool, .bool (!(a==b)))
 | .eql, .nilIface, .iface _ _| .eql, .iface _ _, .nilIface=>some ((match P.underlying t with|some (.interface _)=>true|_=>false)=true, .bool false)
 | .neq, .nilIface, .iface _ _| .neq, .iface _ _, .nilIface=>some ((match P.underlying t with|some (.interface _)=>true|_=>false)=true, .bool true)
 | .eql, .iface u (.int k a), .iface ng (.int dU b)=>some ((match P.underlying t with|some (.interface _)=>true|_=>false)=true∧k=dU∧P.underlying u=some (.int k)∧(P.info? u).map (·.comparable)=some true, .bool (u==ng&&a==b))
 | .neq, .iface u (.int k a), .iface ng (.int dU b)=>some ((match P.underlying t with|some (.interface _)=>true|_=>false)=true∧k=dU∧P.underlying u=some (.int k)∧(P.info? u).map (·.comparable)=some true, .bool (!(u==ng&&a==b)))
 | .eql, .ptr _, .fc| .eql, .fc, .ptr _| .eql, .ref _, .fc| .eql, .fc, .ref _=>some ((match P.underlying t with|some (.pointer _)=>true|_=>false)=true, .bool false)
 | .neq, .ptr _, .fc| .neq, .fc, .ptr _| .neq, .ref _, .fc| .neq, .fc, .ref _=>some ((match P.underlying t with|some (.pointer _)=>true|_=>false)=true, .bool true)
 | .eql, .fc, .fc=>some ((match P.underlying t with|some (.pointer _)=>true|_=>false)=true, .bool true)
 | .neq, .fc, .fc=>some ((match P.underlying t with|some (.pointer _)=>true|_=>false)=true, .bool false)
 | .eql, .agg xs, .agg cV=>
   match P.underlying t with
   |some (.struct cA)=>(sZ P xs cV cA.toList).map fun p=>(P.stoodInHeld t=false∧P.eqGuardType P.depth t=false∧p.1, .bool p.2)
   |_=>none
 | .neq, .agg xs, .agg cV=>
   match P.underlying t with
   |some (.struct cA)=>(sZ P xs cV cA.toList).map fun p=>(P.stoodInHeld t=false∧P.eqGuardType P.depth t=false∧p.1, .bool (!p.2))
   |_=>none
 |_,_,_=>none
def mE (P:Program) (op:BinOp) (t:TypeId) (x y:Operand) (a b:R):Option (Prop×R):=
 match op,a,b with
 | .eql, .nilIface, .nilIface=>some ((match P.underlying t with|some (.interface _)=>true|_=>false)=true∧((x matches .const _)||(y matches .const _))=true, .bool true)
 | .neq, .nilIface, .nilIface=>some ((match P.underlying t with|some (.interface _)=>true|_=>false)=true∧((x matches .const _)||(y matches .const _))=true, .bool false)
 | .eql, .err _ e, .nilIface=>some ((match P.underlying t with|some (.interface _)=>true|_=>false)=true∧((x matches .const _)||(y matches .const _))=true, .bool (e==0))
 | .neq, .err _ e, .nilIface=>some ((match P.underlying t with|some (.interface _)=>true|_=>false)=true∧((x matches .const _)||(y matches .const _))=true, .bool (!(e==0)))
 | .eql, .opt b, .nilIface=>some ((match P.underlying t with|some (.interface _)=>true|_=>false)=true∧((x matches .const _)||(y matches .const _))=true, .bool (!b))
 | .neq, .opt b, .nilIface=>some ((match P.underlying t with|some (.interface _)=>true|_=>false)=true∧((x matches .const _)||(y matches .const _))=true, .bool b)
 | .eql, .err hE e, .iface u (.int k c)=>some ((match P.underlying t with|some (.interface _)=>true|_=>false)=true∧ .i64=k∧P.underlying hE=some (.int .i64)∧(P.info? hE).map (·.comparable)=some true∧hE=u∧c≠0, .bool (e==c))
 | .neq, .err hE e, .iface u (.int k c)=>some ((match P.underlying t with|some (.interface _)=>true|_=>false)=true∧ .i64=k∧P.underlying hE=some (.int .i64)∧(P.info? hE).map (·.comparable)=some true∧hE=u∧c≠0, .bool (!(e==c)))
 |_,_,_=>nW P op t a b
def apart (P:Program) (t:TypeId) (l:List R) (off:Nat):R:=
 if ld P t then .agg ((l.drop off).take (P.cellsOf t)) else l.getD off .aP
def jA (P:Program) (t:TypeId) (l:List R) (off:Nat):Prop:=
 ef P t=true∧(if ld P t then off+P.cellsOf t≤l.length else off<l.length)
def l3 (low:Option R) (d:Nat):Option Int:=
 match low with
 |none=>some d
 |some (.int _ n)=>some n
 |_=>none
def cB (c:UInt8):R:= .int .u8 c.toNat
def byteOf:R→UInt8
 | .int _ n=>UInt8.ofNat n.toNat
 |_=>0
theorem N1 (c:UInt8):byteOf (cB c)=c:=by simp [byteOf,cB]
theorem N2 (l:List UInt8):(l.map cB).map byteOf=l:=by
 rw [List.map_map]
 have:byteOf∘cB=id:=by funext c;exact N1 c
 rw [this,List.map_id]
def un:R→R
 | .lazy true x=>x
 |x=>x
def bw (P:Program) (m:ad) (a:Operand→R):Op→Option (Prop×R)
 | .move x| .assign x=>some (True,a x)
 | .pick c x y=>
   match un (a c),a x,a y with
   | .bool b, .bool p, .bool q=>some (True, .bool (if b then p else q))
   | .bool b, .lazy g (.bool p), .bool q=>some (b=true→g=true, .bool (if b then p else q))
   | .bool b, .bool p, .lazy g (.bool q)=>some (b=false→g=true, .bool (if b then p else q))
   | .bool b, .lazy g (.bool p), .lazy h (.bool q)=>some ((b=true→g=true)∧(b=false→h=true), .bool (if b then p else q))
   |_,_,_=>none
 | .load t x=>
   match a x with
   | .ref l=>some (jA P t l 0,apart P t l 0)
   | .ptr ⟨b,off,none⟩=>
     match m b with
     |some (.cells l)=>some (jA P t l off,(apart P t l off).plain)
     |_=>none
   |_=>none
 | .nilCheck x=>
   match a x with
   | .ref l=>some (True, .ref l)
   | .ptr p=>some (True, .ptr p)
   | .func (.func f) b c=>some (True, .func (.func f) b c)
   |_=>none
 | .binOp op t x y _=>mE P op t x y (a x) (a y)
 | .unOp op _ x=>
   match op,a x with
   | .not, .bool b=>some (True, .bool (!b))
   | .neg, .int k n=>some (True, .int k (k.wrap (0- n)))
   |_,_=>none
 | .convert s d x=>
   match P.underlying d,a x with
   |some (.int k), .int _ n=>some (ef P s=true, .int k (k.wrap n))
   |some .string, .str l=>some (ef P s=true, .str l)
   |some .string, .slice _ l=>some (∃e,P.underlying s=some (.slice e)∧P.underlying e=some (.int .u8)∧∀x∈l,∃k:Int,x= .int .u8 k, .str (l.map byteOf))
   |_,_=>none
 | .makeInterface t x=>
   match P.underlying t with
   |some (.interface _)=>none
   |some _=>some (True, .iface t (a x))
   |none=>none
 | .fieldAddr s x f=>
   match P.underlying s with
   |some (.struct cA)=>
    match cA[f]? with
    |some fd=>
     match a x with
     | .ref l=>some (ef P fd.type=true∧P.cellsOf fd.type≠0∧fd.offset<l.length, .ref (l.drop fd.offset))
     | .ptr ⟨b,off,none⟩=>some (ef P fd.type=true∧P.cellsOf fd.type≠0, .ptr ⟨b,off+fd.offset,none⟩)
     |_=>none
    |none=>none
   |_=>none
 | .field t x f=>
   match P.underlying t with
   |some (.struct cA)=>
    match cA[f]?,a x with
    |some fd, .agg l=>some (jA P fd.type l fd.offset,apart P fd.type l fd.offset)
    |_,_=>none
   |_=>none
 | .indexAddr t x i=>
   match P.underlying t with
   |some (.slice e)=>
    match a x,a i with
    | .slice _ l, .int _ k=>some (ef P e=true∧P.cellsOf e≠0∧0≤k∧k<l.length∧(l.getD k.toNat .aP).cells.length=P.cellsOf e, .ref (l.getD k.toNat .aP).cells)
    | .ms ⟨b,off,none⟩ len _, .int _ k=>some (ef P e=true∧0≤k∧k<len, .ptr ⟨b,off+k.toNat*P.cellsOf e,none⟩)
    |_,_=>none
   |_=>none
 | .index t x i=>
   match P.underlying t,a x,a i with
   |some .string, .str l, .int _ k=>some (0≤k∧k<l.length, .int .u8 (l.getD k.toNat 0).toNat)
   |_,_,_=>none
 | .extract x i=>
   match a x with
   | .tuple l=>some (i<l.length,l.getD i .aP)
   |_=>none
 | .slice t x bD ab none=>
   match P.underlying t,a x with
   |some .string, .str l=>
    match l3 (bD.map a) 0,l3 (ab.map a) l.length with
    |some p,some q=>some (0≤p∧p≤q∧q≤l.length, .str ((l.drop p.toNat).take (q- p).toNat))
    |_,_=>none
   |some (.slice e), .slice _ l=>
    match l3 (bD.map a) 0,l3 (ab.map a) l.length with
    |some p,some q=>some (ef P e=true∧0≤p∧p≤q∧q≤l.length∧∀x∈l,x.cells.length=P.cellsOf e, .slice false ((l.drop p.toNat).take (q- p).toNat))
    |_,_=>none
   |some (.slice e), .ms ⟨b,off,none⟩ len cap=>
    match l3 (bD.map a) 0,l3 (ab.map a) len with
    |some p,some q=>some (ef P e=true∧0≤p∧p≤q∧q≤len,if p<cap then .ms ⟨b,off+p.toNat*P.cellsOf e,none⟩ (q- p).toNat (cap- p.toNat) else .fz)
    |_,_=>none
   |_,_=>none
 | .typeAssert x _ t true=>
   match P.underlying t,a x with
   |some (.interface _),_=>none
   |some _, .iface u v=>if u=t then some (True, .tuple [v, .bool true]) else none
   |some _, .err u e=>if u=t then some ((P.info? t).bind (·.zero)=some (.int .i64 0), .tuple [.int .i64 e, .bool (!(e==0))]) else none
   |_,_=>none
 | .call ⟨.builtin .len,args,bC⟩=>
   match args[0]?,bC[0]? with
   |some x,some t=>
    match P.underlying t,a x with
    |some .string, .str l=>some (True, .int .i64 l.length)
    |some (.slice _), .slice _ l=>some (True, .int .i64 l.length)
    |some (.slice _), .ms _ n _=>some (n≤9223372036854775807, .int .i64 n)
    |some (.slice _), .fz=>some (True, .int .i64 0)
    |some (.map _ _), .jS=>some (True, .int .i64 0)
    |some (.map _ _), .map b=>
     match m b with
     |some (.map l)=>some (True, .int .i64 l.length)
     |_=>none
    |_,_=>none
   |_,_=>none
 | .call ⟨.builtin .max,args,_⟩=>
   match args.toList with
   |[x,y]=>
    match a x,a y with
    | .int k p, .int dU q=>if k=dU then some (True, .int k (if q>p then q else p)) else none
    |_,_=>none
   |_=>none
 | .call ⟨.builtin .min,args,_⟩=>
   match args.toList with
   |[x,y]=>
    match a x,a y with
    | .int k p, .int dU q=>if k=dU then some (True, .int k (if q<p then q else p)) else none
    |_,_=>none
   |_=>none
 |_=>none
end Go.bh
end
section
namespace Go.bh
open Go
theorem oM (k:IntKind) (n:Int):k.min≤k.wrap n∧k.wrap n≤k.max:=by
 cases k<;>simp [IntKind.min,IntKind.max,IntKind.wrap,IntKind.signed,IntKind.bits]<;>(repeat' split)<;>omega
theorem GB (k:IntKind) (n:Int) (I:k.min≤n) (J:n≤k.max):k.wrap n=n:=by
 cases k<;>simp [IntKind.min,IntKind.max,IntKind.wrap,IntKind.signed,IntKind.bits] at*<;>(repeat' split)<;>omega
section
variable {P:Program} {w:World} {lim:Nat→Nat}
theorem fB {t:TypeId} {d:TypeDesc} (h:P.underlying t=some d):(underlying t).run P w= .ok d w:=run_underlying h w
theorem mF {t:TypeId} (h:ef P t=true):(sizeOf t).run P w= .ok (P.cellsOf t) w:=by
 cases ab:P.info? t with
 |none=>simp [ef,Program.underlying,ab] at h
 |some i=>simp [sizeOf,typeInfo,ab,Program.cellsOf]
theorem uy {t:TypeId} (h:ef P t=true):(isAgg t).run P w= .ok (ld P t) w:=by
 cases aY:P.underlying t with
 |none=>simp [ef,aY] at h
 |some d=>simp [isAgg,fB aY,ld,aY];cases d<;>simp
theorem N3 (d:Nat) {t u ng:TypeId} {k:IntKind} {a b:Int} (ao:(match P.underlying t with|some (.interface _)=>true|_=>false)=true)
 (hu:P.underlying u=some (.int k)) (ag:(P.info? u).map (·.comparable)=some true):
 (Op.equalIn (d+2) t (.iface u (.int k a)) (.iface ng (.int k b))).run P w= .ok (u==ng&&a==b) w:=by
 cases aY:P.underlying t with
 |none=>simp [aY] at ao
 |some e=>
  cases e<;>simp [aY] at ao
  rename_i ms
  cases ab:P.info? u with
  |none=>simp [ab] at ag
  |some i=>
   have N4:i.comparable=true:=by simpa [ab] using ag
   by_cases e:u=ng
   · subst e
     simp [Op.equalIn,fB aY,typeInfo,ab,N4,fB hu]
   · simp [Op.equalIn,fB aY,e]
theorem N5 (d:Nat) {t:TypeId} {u:TypeId} {v:Value} (ao:(match P.underlying t with|some (.interface _)=>true|_=>false)=true):(Op.equalIn (d+1) t .nilIface (.iface u v)).run P w= .ok false w:=by
 cases aY:P.underlying t with
 |none=>simp [aY] at ao
 |some e=>cases e<;>simp [aY] at ao;simp [Op.equalIn,fB aY]
theorem B5 {t:TypeId} {u:TypeId} {v:Value} (ao:(match P.underlying t with|some (.interface _)=>true|_=>false)=true):(Op.equal t .nilIface (.iface u v)).run P w= .ok false w:=N5 9999 ao
theorem N6 (d:Nat) {t:TypeId} {u:TypeId} {v:Value} (ao:(match P.underlying t with|some (.interface _)=>true|_=>false)=true):(Op.equalIn (d+1) t (.iface u v) .nilIface).run P w= .ok false w:=by
 cases aY:P.underlying t with
 |none=>simp [aY] at ao
 |some e=>cases e<;>simp [aY] at ao;simp [Op.equalIn,fB aY]
theorem wQ {t:TypeId} {u:TypeId} {v:Value} (ao:(match P.underlying t with|some (.interface _)=>true|_=>false)=true):(Op.equal t (.iface u v) .nilIface).run P w= .ok false w:=N6 9999 ao
theorem N7 (d:Nat) {t:TypeId} (ao:(match P.underlying t with|some (.interface _)=>true|_=>false)=true):(Op.equalIn (d+1) t .nilIface .nilIface).run P w= .ok true w:=by
 cases aY:P.underlying t with
 |none=>simp [aY] at ao
 |some e=>cases e<;>simp [aY] at ao;simp [Op.equalIn,fB aY]
theorem uz {t:TypeId} (ao:(match P.underlying t with|some (.interface _)=>true|_=>false)=true):(Op.equal t .nilIface .nilIface).run P w= .ok true w:=N7 9999 ao
theorem N8 (d:Nat) {t:TypeId} {a:Addr} (ao:(match P.underlying t with|some (.pointer _)=>true|_=>false)=true):(Op.equalIn (d+1) t (.pointer (some a)) (.pointer none)).run P w= .ok false w:=by
 cases aY:P.underlying t with
 |none=>simp [aY] at ao
 |some e=>cases e<;>simp [aY] at ao;simp [Op.equalIn,fB aY]
theorem N9 {t:TypeId} {a:Addr} (ao:(match P.underlying t with|some (.pointer _)=>true|_=>false)=true):(Op.equal t (.pointer (some a)) (.pointer none)).run P w= .ok false w:=N8 9999 ao
theorem Oa (d:Nat) {t:TypeId} {a:Addr} (ao:(match P.underlying t with|some (.pointer _)=>true|_=>false)=true):(Op.equalIn (d+1) t (.pointer none) (.pointer (some a))).run P w= .ok false w:=by
 cases aY:P.underlying t with
 |none=>simp [aY] at ao
 |some e=>cases e<;>simp [aY] at ao;simp [Op.equalIn,fB aY]
theorem Ob {t:TypeId} {a:Addr} (ao:(match P.underlying t with|some (.pointer _)=>true|_=>false)=true):(Op.equal t (.pointer none) (.pointer (some a))).run P w= .ok false w:=Oa 9999 ao
theorem Oc (d:Nat) {t:TypeId} (ao:(match P.underlying t with|some (.pointer _)=>true|_=>false)=true):(Op.equalIn (d+1) t (.pointer none) (.pointer none)).run P w= .ok true w:=by
 cases aY:P.underlying t with
 |none=>simp [aY] at ao
 |some e=>cases e<;>simp [aY] at ao;simp [Op.equalIn,fB aY]
theorem Od {t:TypeId} (ao:(match P.underlying t with|some (.pointer _)=>true|_=>false)=true):(Op.equal t (.pointer none) (.pointer none)).run P w= .ok true w:=Oc 9999 ao
theorem Oe (d:Nat) {t:TypeId} {a b:Bool} (ao:P.underlying t=some .bool):(Op.equalIn (d+1) t (.bool a) (.bool b)).run P w= .ok (a==b) w:=by
 simp [Op.equalIn,fB ao]
theorem Of {t:TypeId} {a b:Bool} (ao:P.underlying t=some .bool):(Op.equal t (.bool a) (.bool b)).run P w= .ok (a==b) w:=Oe 9999 ao
theorem B6 {t u ng:TypeId} {k:IntKind} {a b:Int} (ao:(match P.underlying t with|some (.interface _)=>true|_=>false)=true)
 (hu:P.underlying u=some (.int k)) (ag:(P.info? u).map (·.comparable)=some true):
 (Op.equal t (.iface u (.int k a)) (.iface ng (.int k b))).run P w= .ok (u==ng&&a==b) w:=N3 9998 ao hu ag
theorem Og {t:TypeId} {l4 jd:Value} {x y:R} {side:Prop} {b:Bool} (d:Nat) (h:sY P t x y=some (side,b)) (al:side) {iB hR:List Nat} (ah:aF w lim l4 x iB) (aE:aF w lim jd y hR):
 (Op.equalIn (d+1) t l4 jd).run P w= .ok b w∧ld P t=false:=by
 unfold sY at h
 split at h
 · simp only [Option.some.injEq,Prod.mk.injEq] at h
   obtain ⟨rfl,rfl⟩:=h
   obtain ⟨rfl,ao⟩:=al
   cases ah
   cases aE
   exact ⟨run_equalIn_int w d t _ _ _ _ ao,by simp [ld,ao]⟩
 · simp only [Option.some.injEq,Prod.mk.injEq] at h
   obtain ⟨rfl,rfl⟩:=h
   cases ah
   cases aE
   refine ⟨?_,by simp [ld,al]⟩
   rw [run_equalIn_string w d t _ _ al,ByteArray.toList_eq,ByteArray.toList_eq]
 · simp only [Option.some.injEq,Prod.mk.injEq] at h
   obtain ⟨rfl,rfl⟩:=h
   cases ah
   cases aE
   exact ⟨run_equalIn_bool' w d t _ _ al,by simp [ld,al]⟩
 · cases h
theorem Oh {t:TypeId} {x y:R} {side:Prop} {b:Bool} (h:sY P t x y=some (side,b)) (al:side):ef P t=true:=by
 unfold sY at h
 split at h
 · simp only [Option.some.injEq,Prod.mk.injEq] at h
   obtain ⟨rfl,rfl⟩:=h
   simp [ef,al.2]
 · simp only [Option.some.injEq,Prod.mk.injEq] at h
   obtain ⟨rfl,rfl⟩:=h
   simp [ef,al]
 · simp only [Option.some.injEq,Prod.mk.injEq] at h
   obtain ⟨rfl,rfl⟩:=h
   simp [ef,al]
 · cases h
theorem Oi {t:TypeId} {x y:R} {r:Prop×Bool} (h:sY P t x y=some r):x≠ .aP∧y≠ .aP:=by
 unfold sY at h
 split at h
 · exact ⟨(nomatch ·),(nomatch ·)⟩
 · exact ⟨(nomatch ·),(nomatch ·)⟩
 · exact ⟨(nomatch ·),(nomatch ·)⟩
 · cases h
theorem GC {l:List R} {i:Nat} (h:l.getD i .aP≠ .aP):i<l.length:=by
 by_cases ab:i<l.length
 · exact ab
 · exact (h (by simp [List.getD,List.getElem?_eq_none (Nat.not_lt.1 ab)])).elim
theorem GD {t:TypeId} {cs:Array Value} {k:Nat} (hu:ef P t=true) (aH:ld P t=false) (aj:k<cs.size):(part t cs k).run P w= .ok (cs.getD k undef) w:=by
 have this:cs[k]?=some (cs.getD k undef):=by simp [Array.getD,aj]
 unfold part
 simp only [Sem.run_bind,uy hu,aH,Result.andThen_ok,this]
 rfl
theorem Oj {qH qI:Array Value} {xs cV:List R} (ah:qH.size=xs.length) (aE:qI.size=cV.length) {iB hR:Nat→List Nat} (rx:∀i,i<xs.length→aF w lim (qH.getD i undef) (xs.getD i .aP) (iB i)) (Ol:∀i,i<cV.length→aF w lim (qI.getD i undef) (cV.getD i .aP) (hR i)) (d:Nat):
 ∀(cA:List Field) {side:Prop} {b:Bool},sZ P xs cV cA=some (side,b)→side→(Op.eqFields (d+1) qH qI cA).run P w= .ok b w:=by
 intro cA
 induction cA with
 |nil=>
  intro side b h al
  simp only [sZ,Option.some.injEq,Prod.mk.injEq] at h
  rw [←h.2];rfl
 |cons f cA aQ=>
  intro side b h al
  unfold sZ at h
  split at h
  · next s bH hD ho I J=>
    simp only [Option.some.injEq,Prod.mk.injEq] at h
    obtain ⟨rfl,rfl⟩:=h
    obtain ⟨l5,aL,mG⟩:=al
    obtain ⟨jB,gq⟩:=Oi I
    have ie:=GC jB
    have iC:=GC gq
    have hu:=Oh I l5
    obtain ⟨ax,aI⟩:=Og d I l5 (rx _ ie) (Ol _ iC)
    have s0:=GD (P:=P) (w:=w) hu aI (show f.offset<qH.size by omega)
    have uA:=GD (P:=P) (w:=w) hu aI (show f.offset<qI.size by omega)
    simp only [Op.eqFields,if_pos aL,Sem.run_bind,s0,uA,ax,Result.andThen_ok,Sem.run_ite,Sem.run_pure]
    cases bH with
    |true=>simpa using aQ J mG
    |false=>simp
  · cases h
theorem GF {t:TypeId} {iB hR:Operand} {cA:Array Field} {l4 jd:Value} {xs cV:List R} {side:Prop} {b:Bool} (ao:P.underlying t=some (.struct cA)) (bW:P.stoodInHeld t=false) (a8:P.eqGuardType P.depth t=false)
 (h:sZ P xs cV cA.toList=some (side,b)) (al:side) {o dn:List Nat} (ah:aF w lim l4 (.agg xs) o) (aE:aF w lim jd (.agg cV) dn):
 (do eqGuard .eql t iB hR l4 jd;binOp .eql t l4 jd:Sem Value).run P w= .ok (.bool b) w∧(do eqGuard .neq t iB hR l4 jd;binOp .neq t l4 jd:Sem Value).run P w= .ok (.bool (!b)) w:=by
 cases ah with
 |agg qH _ Z1 I hp=>
  cases aE with
  |agg qI _ Om J hF=>
   have aW:P.fieldsOf t=cA:=by simp [Program.fieldsOf,ao]
   have key:=Oj I J hp hF 9998 _ h al
   have he:(Op.equalIn 10000 t (.agg qH) (.agg qI)).run P w= .ok b w:=by
    rw [run_equalIn_struct w 9999 t qH qI (by rw [aW];exact ao) bW,aW];exact key
   constructor
   · simp only [Sem.run_bind,run_eqGuard_agg w _ t iB hR qH qI a8,Result.andThen_ok,run_eql_struct,he]
   · simp only [Sem.run_bind,run_eqGuard_agg w _ t iB hR qH qI a8,Result.andThen_ok,run_neq_struct,he]
set_option maxHeartbeats 4000000 in
theorem On {op:BinOp} {t:TypeId} {iB hR:Operand} {l4 jd:Value} {x y r:R} {side:Prop} (h:nW P op t x y=some (side,r)) (al:side)
 (ah:aF w lim l4 x []) (aE:aF w lim jd y []):∃v,(do eqGuard op t iB hR l4 jd;binOp op t l4 jd:Sem Value).run P w= .ok v w∧aF w lim v r []:=by
 unfold nW at h
 split at h
 case h_17=>
  simp only [Option.some.injEq,Prod.mk.injEq] at h
  obtain ⟨rfl,rfl⟩:=h
  cases ah with|str s l5=>
  cases aE with|str hD mG=>
  have b2:s.size+hD.size≤140737488355328:=by simpa using al
  refine ⟨.string (s++hD),?_,?_⟩
  · simp [eqGuard,binOp,run_string_add_sum w s hD (by omega)]
  · have:=aF.str (w:=w) (lim:=lim) (s++hD) (by simpa using b2)
    simpa using this
 case h_9=>
  simp only [Option.some.injEq,Prod.mk.injEq] at h
  obtain ⟨rfl,rfl⟩:=h
  cases ah with|int k a bD ab=>
  cases aE with|int dU b B7 eH=>
  have ae:=Int.not_lt.2 al
  refine ⟨_,?_, .int _ _ (oM _ _).1 (oM _ _).2⟩
  simp [eqGuard,binOp,Op.shift,ae]
 case h_10=>
  simp only [Option.some.injEq,Prod.mk.injEq] at h
  obtain ⟨rfl,rfl⟩:=h
  cases ah with|int k a bD ab=>
  cases aE with|int dU b B7 eH=>
  obtain ⟨dz,km,nh⟩:=al
  have ae:=Int.not_lt.2 dz
  refine ⟨_,?_, .int _ _ km nh⟩
  simp [eqGuard,binOp,Op.shift,ae]
 case h_42=>
  split at h
  · next cA ko=>
    obtain ⟨p,aB,h⟩:=Option.map_eq_some_iff.1 h
    obtain ⟨ps,Oo⟩:=p
    simp only [Prod.mk.injEq] at h
    obtain ⟨rfl,rfl⟩:=h
    exact ⟨_,(GF ko al.1 al.2.1 aB al.2.2 ah aE).1, .bool _⟩
  · cases h
 case h_43=>
  split at h
  · next cA ko=>
    obtain ⟨p,aB,h⟩:=Option.map_eq_some_iff.1 h
    obtain ⟨ps,Oo⟩:=p
    simp only [Prod.mk.injEq] at h
    obtain ⟨rfl,rfl⟩:=h
    exact ⟨_,(GF ko al.1 al.2.1 aB al.2.2 ah aE).2, .bool _⟩
  · cases h
 all_goals first
  |(simp only [Option.some.injEq,Prod.mk.injEq] at h
    obtain ⟨rfl,rfl⟩:=h
    cases ah with|str s l5=>
    cases aE with|str hD mG=>
    refine ⟨_,?_, .bool _⟩
    simp [eqGuard,binOp,Op.stringOp,ByteArray.toList_eq]
    done)
  |(split at h
    · rename_i aj
      subst aj
      simp only [Option.some.injEq,Prod.mk.injEq] at h
      obtain ⟨rfl,rfl⟩:=h
      cases ah with|int k a bD ab=>
      cases aE with|int dU b B7 eH=>
      first
      |(refine ⟨_,?_, .int _ _ (oM _ _).1 (oM _ _).2⟩
        simp [eqGuard,binOp,Op.intArith,Op.intBits,Op.intDiv,al]
        done)
      |(refine ⟨_,?_, .bool _⟩
        simp [eqGuard,binOp,Op.intCmp,bne]
        done)
      |(refine ⟨_,?_, .int _ _ al.2.1 al.2.2⟩
        simp [eqGuard,binOp,Op.intDiv,al.1]
        done)
    · cases h)
  |(simp only [Option.some.injEq,Prod.mk.injEq] at h
    obtain ⟨rfl,rfl⟩:=h
    cases ah with|int k a bD ab=>
    cases aE with|int dU b B7 eH=>
    first
    |(refine ⟨_,?_, .int _ _ (oM _ _).1 (oM _ _).2⟩
      simp [eqGuard,binOp,Op.shift,show ¬b<0 from by omega]
      done)
    |(refine ⟨_,?_, .int _ _ al.2.1 al.2.2⟩
      simp [eqGuard,binOp,Op.shift,show ¬b<0 from by omega]
      done))
  |(simp only [Option.some.injEq,Prod.mk.injEq] at h
    obtain ⟨rfl,rfl⟩:=h
    cases ah with|bool a=>
    cases aE with|bool b=>
    refine ⟨_,?_, .bool _⟩
    simp [eqGuard,binOp,Of al]
    done)
  |(simp only [Option.some.injEq,Prod.mk.injEq] at h
    obtain ⟨rfl,rfl⟩:=h
    cases ah
    cases aE
    refine ⟨_,?_, .bool _⟩
    simp [eqGuard,binOp,B5 al,wQ al]
    done)
  |(simp only [Option.some.injEq,Prod.mk.injEq] at h
    obtain ⟨rfl,rfl⟩:=h
    cases ah
    cases aE
    refine ⟨_,?_, .bool _⟩
    simp [eqGuard,binOp,N9 al,Ob al,Od al]
    done)
  |(simp only [Option.some.injEq,Prod.mk.injEq] at h
    obtain ⟨rfl,rfl⟩:=h
    obtain ⟨I,rfl,ai,aC⟩:=al
    cases ah with|iface _ _ _ ah=>
    cases aE with|iface _ _ _ aE=>
    cases ah
    cases aE
    refine ⟨_,?_, .bool _⟩
    simp [eqGuard,binOp,B6 I ai aC]
    done)
  |cases h
  |skip
theorem Oq {op:BinOp} {t:TypeId} {iB hR:Operand} {l4 jd:Value} {x y r:R} {side:Prop} (h:mE P op t iB hR x y=some (side,r)) (al:side)
 (ah:aF w lim l4 x []) (aE:aF w lim jd y []):∃v,(do eqGuard op t iB hR l4 jd;binOp op t l4 jd:Sem Value).run P w= .ok v w∧aF w lim v r []:=by
 unfold mE at h
 split at h
 · simp only [Option.some.injEq,Prod.mk.injEq] at h
   obtain ⟨rfl,rfl⟩:=h
   cases ah
   cases aE
   refine ⟨_,?_, .bool _⟩
   have J:=al.2
   simp [eqGuard,binOp,uz al.1]
   cases iB<;>cases hR<;>simp_all
 · simp only [Option.some.injEq,Prod.mk.injEq] at h
   obtain ⟨rfl,rfl⟩:=h
   cases ah
   cases aE
   refine ⟨_,?_, .bool _⟩
   have J:=al.2
   simp [eqGuard,binOp,uz al.1]
   cases iB<;>cases hR<;>simp_all
 · simp only [Option.some.injEq,Prod.mk.injEq] at h
   obtain ⟨rfl,rfl⟩:=h
   cases aE
   cases ah with
   |l2 hE=>
    refine ⟨_,?_, .bool _⟩
    have J:=al.2
    simp [eqGuard,binOp,uz al.1]
    cases iB<;>cases hR<;>simp_all
   |jb hE e aq bD ab=>
    refine ⟨_,?_, .bool _⟩
    simp [eqGuard,binOp,wQ al.1,aq]
 · simp only [Option.some.injEq,Prod.mk.injEq] at h
   obtain ⟨rfl,rfl⟩:=h
   cases aE
   cases ah with
   |l2 hE=>
    refine ⟨_,?_, .bool _⟩
    have J:=al.2
    simp [eqGuard,binOp,uz al.1]
    cases iB<;>cases hR<;>simp_all
   |jb hE e aq bD ab=>
    refine ⟨_,?_, .bool _⟩
    simp [eqGuard,binOp,wQ al.1,aq]
 · simp only [Option.some.injEq,Prod.mk.injEq] at h
   obtain ⟨rfl,rfl⟩:=h
   cases aE
   cases ah with
   |mB=>
    refine ⟨_,?_, .bool _⟩
    have J:=al.2
    simp [eqGuard,binOp,uz al.1]
    cases iB<;>cases hR<;>simp_all
   |mC hE v=>
    refine ⟨_,?_, .bool _⟩
    simp [eqGuard,binOp,wQ al.1]
 · simp only [Option.some.injEq,Prod.mk.injEq] at h
   obtain ⟨rfl,rfl⟩:=h
   cases aE
   cases ah with
   |mB=>
    refine ⟨_,?_, .bool _⟩
    have J:=al.2
    simp [eqGuard,binOp,uz al.1]
    cases iB<;>cases hR<;>simp_all
   |mC hE v=>
    refine ⟨_,?_, .bool _⟩
    simp [eqGuard,binOp,wQ al.1]
 · simp only [Option.some.injEq,Prod.mk.injEq] at h
   obtain ⟨rfl,rfl⟩:=h
   obtain ⟨I,rfl,ai,aC,rfl,aN⟩:=al
   cases aE with|iface _ _ _ aE=>
   cases aE
   cases ah with
   |l2 hE=>
    refine ⟨_,?_, .bool _⟩
    simp [eqGuard,binOp,B5 I,Ne.symm aN]
   |jb hE e aq bD ab=>
    refine ⟨_,?_, .bool _⟩
    simp [eqGuard,binOp,B6 I ai aC]
 · simp only [Option.some.injEq,Prod.mk.injEq] at h
   obtain ⟨rfl,rfl⟩:=h
   obtain ⟨I,rfl,ai,aC,rfl,aN⟩:=al
   cases aE with|iface _ _ _ aE=>
   cases aE
   cases ah with
   |l2 hE=>
    refine ⟨_,?_, .bool _⟩
    simp [eqGuard,binOp,B5 I,Ne.symm aN]
   |jb hE e aq bD ab=>
    refine ⟨_,?_, .bool _⟩
    simp [eqGuard,binOp,B6 I ai aC]
 · exact On h al ah aE
end
end Go.bh
end
section
namespace Go.bh
open Go
section
variable {P:Program} {w:World} {lim:Nat→Nat}
theorem addr_add (b off i:Nat):(⟨b,off,none⟩:Addr).add i=⟨b,off+i,none⟩:=by
 unfold Addr.add
 split
 · rename_i h;subst h;rfl
 · rfl
theorem GG (b off n:Nat) (f:Nat→Value) (h:∀j,j<n→w.cell? ⟨b,off+j,none⟩=some (f j)):
 (loadCells ⟨b,off,none⟩ n).run P w= .ok ((List.range n).map f).toArray w:=by
 have:=run_loadCells_list (P:=P) w ⟨b,off,none⟩ ((List.range n).map f) (fun j v bc=>by
  rw [addr_add]
  by_cases ay:j<n
  · simp [ay] at bc
    rw [h j ay,bc]
  · simp [ay] at bc)
 simpa using this
theorem Ot (n i:Nat) (f:Nat→Value) (ab:i<n):((List.range n).map f).toArray.getD i undef=f i:=by
 simp [Array.getD,ab]
theorem Ou (n:Nat) (f:Nat→Value) (xs:List R) (aL:xs.length=n) (h:∀i,i<n→aF w lim (f i) (xs.getD i .aP) []):
 aF w lim (.agg ((List.range n).map f).toArray) (.agg xs) []:=by
 have:=aF.agg (w:=w) (lim:=lim) ((List.range n).map f).toArray xs (fun _=>[]) (by simp [aL]) (fun i ab=>by rw [Ot n i f (by omega)];exact h i (by omega))
 rw [flatMap_nil] at this
 exact this
theorem B8 (l:List R) (off k i:Nat) (ab:i<k):((l.drop off).take k).getD i .aP=l.getD (off+i) .aP:=by
 simp [List.getD_eq_getElem?_getD,List.getElem?_take,ab]
theorem wR {t:TypeId} {b off:Nat} {l:List R} {f:Nat→Value} {k:Nat} (cO:jA P t l k)
 (ag:∀i,i<l.length→w.cell? ⟨b,off+i,none⟩=some (f i)) (au:∀i,i<l.length→aF w lim (f i) (l.getD i .aP) []):
 ∃v,(loadVar t ⟨b,off+k,none⟩).run P w= .ok v w∧aF w lim v (apart P t l k) []:=by
 obtain ⟨hu,cO⟩:=cO
 by_cases aH:ld P t=true
 · simp only [aH,if_true] at cO
   have ar:=GG (P:=P) (w:=w) b (off+k) (P.cellsOf t) (fun j=>f (k+j)) (fun j ay=>by rw [Nat.add_assoc];exact ag (k+j) (by omega))
   refine ⟨.agg ((List.range (P.cellsOf t)).map fun j=>f (k+j)).toArray,?_,?_⟩
   · simp [loadVar,uy hu,aH,mF hu,ar]
   · simp only [apart,aH,if_true]
     refine Ou _ _ _ (by simp;omega) (fun i ab=>?_)
     rw [B8 _ _ _ _ ab]
     exact au (k+i) (by omega)
 · simp only [aH] at cO
   refine ⟨f k,?_,?_⟩
   · simp [loadVar,uy hu,aH,ag k cO]
   · simp only [apart,aH]
     exact au k cO
theorem Ov {t:TypeId} {cs:Array Value} {l:List R} {k:Nat} (cO:jA P t l k) (al:cs.size=l.length)
 (au:∀i,i<l.length→aF w lim (cs.getD i undef) (l.getD i .aP) []):∃v,(part t cs k).run P w= .ok v w∧aF w lim v (apart P t l k) []:=by
 obtain ⟨hu,cO⟩:=cO
 by_cases aH:ld P t=true
 · simp only [aH,if_true] at cO
   refine ⟨.agg (cs.extract k (k+P.cellsOf t)),?_,?_⟩
   · simp [part,uy hu,aH,mF hu]
   · simp only [apart,aH,if_true]
     have:=aF.agg (w:=w) (lim:=lim) (cs.extract k (k+P.cellsOf t)) ((l.drop k).take (P.cellsOf t)) (fun _=>[]) (by simp [al];omega) (fun i ab=>by
      have eH:i<P.cellsOf t:=by simp at ab;omega
      rw [B8 _ _ _ _ eH]
      have:=au (k+i) (by omega)
      have e:(cs.extract k (k+P.cellsOf t)).getD i undef=cs.getD (k+i) undef:=by
       simp [Array.getD_eq_getD_getElem?,Array.getElem?_extract]
       rw [if_pos (by omega)]
      rw [e];exact this)
     rw [flatMap_nil] at this
     exact this
 · simp only [aH] at cO
   refine ⟨cs.getD k undef,?_,?_⟩
   · have:k<cs.size:=by rw [al];exact cO
     simp [part,uy hu,aH,this]
   · simp only [apart,aH]
     exact au k cO
theorem zh {os:Nat→List Nat} {n:Nat} (h:(List.range n).flatMap os=[]):∀i,i<n→os i=[]:=by
 intro i ab
 simp [List.flatMap_eq_nil_iff] at h
 exact h i ab
theorem Ow {v:Value} {xs:List R} {o:List Nat} (h:aF w lim v (.agg xs) o) (av:o=[]):∃cs:Array Value,v= .agg cs∧cs.size=xs.length∧∀i,i<xs.length→aF w lim (cs.getD i undef) (xs.getD i .aP) []:=by
 cases h with
 |agg cs _ os h au=>exact ⟨cs,rfl,h,fun i ab=>by have:=au i ab;rwa [zh av i ab] at this⟩
theorem Ox {v:Value} {xs:List R} (h:aF w lim v (.agg xs) []):∃cs:Array Value,v= .agg cs∧cs.size=xs.length∧∀i,i<xs.length→aF w lim (cs.getD i undef) (xs.getD i .aP) []:=Ow h rfl
theorem Oy {v:Value} {xs:List R} {o:List Nat} (h:aF w lim v (.tuple xs) o) (av:o=[]):∃cs:Array Value,v= .tuple cs∧cs.size=xs.length∧∀i,i<xs.length→aF w lim (cs.getD i undef) (xs.getD i .aP) []:=by
 cases h with
 |tuple cs _ os h au=>exact ⟨cs,rfl,h,fun i ab=>by have:=au i ab;rwa [zh av i ab] at this⟩
theorem GH {v:Value} {xs:List R} (h:aF w lim v (.tuple xs) []):∃cs:Array Value,v= .tuple cs∧cs.size=xs.length∧∀i,i<xs.length→aF w lim (cs.getD i undef) (xs.getD i .aP) []:=Oy h rfl
theorem B9 {b:Nat} {l:List R} {os:Nat→List Nat} (h:kk w lim b (.cells l) os):∃(cs:Array Value) (e:TypeId) (oss:Nat→List Nat),w.heap[b]?=some (.cells cs e (0,0))∧cs.size=l.length∧
 ∀i,i<l.length→aF w lim (cs.getD i undef) (l.getD i .aP) (oss i):=by
 cases h with
 |cells cs e l _ ae al au=>exact ⟨cs,e,os,ae,al,au⟩
theorem zi {v:Value} {own:Bool} {l:List R} {os:List Nat} (h:aF w lim v (.slice own l) os):aF w lim v (.slice false l) []:=h.plain
theorem uB {v:Value} {l:List R} (h:aF w lim v (.slice false l) []):
 (l=[]∧v= .slice none 0 0)∨(l=[]∧∃a cap,v= .slice (some a) 0 cap∧cap≤maxLen)∨
 ∃b off cap sz,∃cv:Nat→Nat→Value,v= .slice (some ⟨b,off,none⟩) l.length cap∧l.length≤cap∧cap≤maxLen∧l.length≤140737488355328∧(∀i,i<l.length→(l.getD i .aP).cells.length=sz)∧off+l.length*sz≤lim b∧
  (∀i j,i<l.length→j<sz→w.cell? ⟨b,off+i*sz+j,none⟩=some (cv i j))∧(∀i j,i<l.length→j<sz→aF w lim (cv i j) ((l.getD i .aP).cells.getD j .aP) []):=by
 cases h with
 |fz own=>exact .inl ⟨rfl,rfl⟩
 |empty a cap hm=>exact .inr (.inl ⟨rfl,a,cap,rfl,hm⟩)
 |slice b off n cap sz l cv aL dT hm cU b2 ek ag au=>subst aL;exact .inr (.inr ⟨b,off,cap,sz,cv,rfl,dT,hm,cU,b2,ek,ag,au⟩)
theorem Ca {v:Value} {l:List R} (h:aF w lim v (.slice false l) []):∃a cap,v= .slice a l.length cap∧l.length≤140737488355328:=by
 rcases uB h with ⟨rfl,rfl⟩|⟨rfl,a,cap,rfl,_⟩|⟨b,off,cap,sz,cv,rfl,_,_,h,_⟩
 · exact ⟨none,0,rfl,by simp⟩
 · exact ⟨some a,cap,rfl,by simp⟩
 · exact ⟨_,cap,rfl,h⟩
theorem some_inj {α β:Type} {a cw:α} {b c7:β} (h:some (a,b)=some (cw,c7)):a=cw∧b=c7:=by simpa using h
def nX (P:Program) (w:World) (lim:Nat→Nat) (ca:Act) (o:Oper) (x:R):Prop:=∃v,(execOp ca.eval o).run P w= .ok (.value v) w∧aF w lim v x []
theorem qJ {v:Value} {b:Bool} {o:List Nat} (h:aF w lim v (.bool b) o):v= .bool b:=by cases h;rfl
theorem lE {v:Value} {k:IntKind} {n:Int} {o:List Nat} (h:aF w lim v (.int k n) o):v= .int k n∧k.min≤n∧n≤k.max:=by cases h;exact ⟨rfl,‹_›,‹_›⟩
theorem uC {v:Value} {l:List UInt8} {o:List Nat} (h:aF w lim v (.str l) o):∃s:ByteArray,v= .string s∧s.data.toList=l∧s.size≤140737488355328:=by cases h;exact ⟨_,rfl,rfl,‹_›⟩
theorem oN {v:Value} {a:Addr} {o:List Nat} (h:aF w lim v (.ptr a) o):v= .pointer (some a):=by cases h;rfl
theorem wS {v:Value} {x:R} {o:List Nat} (h:aF w lim v (.lazy true x) o):aF w lim v x o:=by cases h;assumption
def R.num:R→Int
 | .int _ n=>n
 |_=>0
theorem zj {GI GJ:Value} {p q b:Bool} (aB:b=true→aF w lim GI (.bool p) []) (aO:b=false→aF w lim GJ (.bool q) []):
 aF w lim (if b then GI else GJ) (.bool (if b then p else q)) []:=by
 cases b
 · simpa using aO rfl
 · simpa using aB rfl
theorem GK {v:Value} {x:R} {os:List Nat} (h:aF w lim v x os):aF w lim v (un x) os:=by
 unfold un
 split
 · exact wS h
 · exact h
theorem Oz {m:ad} {a:Operand→R} {ca:Act} {o:Oper} {c p q:Operand} (av:o.op= .pick c p q) {side:Prop} {x:R} (h:bw P m a (.pick c p q)=some (side,x)) (al:side)
 (ag:aF w lim (ca.eval c) (a c) []) (aB:aF w lim (ca.eval p) (a p) []) (aO:aF w lim (ca.eval q) (a q) []):nX P w lim ca o x:=by
 simp only [bw] at h
 replace ag:=GK ag
 have fin:∀b:Bool,ca.eval c= .bool b→∀r,aF w lim (if b then ca.eval p else ca.eval q) r []→nX P w lim ca o r:=fun b ae r au=>
  ⟨if b then ca.eval p else ca.eval q,by cases b<;>simp [execOp,av,ae,asBool],au⟩
 split at h
 · next b gr dA s3 pw s4=>
   obtain ⟨rfl,rfl⟩:=some_inj h
   rw [s3] at ag;rw [pw] at aB;rw [s4] at aO
   exact fin b (qJ ag) _ (zj (fun _=>aB) (fun _=>aO))
 · next b g gr dA s3 pw s4=>
   obtain ⟨rfl,rfl⟩:=some_inj h
   rw [s3] at ag;rw [pw] at aB;rw [s4] at aO
   exact fin b (qJ ag) _ (zj (fun ae=>by rw [al ae] at aB;exact wS aB) (fun _=>aO))
 · next b gr g dA s3 pw s4=>
   obtain ⟨rfl,rfl⟩:=some_inj h
   rw [s3] at ag;rw [pw] at aB;rw [s4] at aO
   exact fin b (qJ ag) _ (zj (fun _=>aB) (fun ae=>by rw [al ae] at aO;exact wS aO))
 · next b g gr dQ dA s3 pw s4=>
   obtain ⟨rfl,rfl⟩:=some_inj h
   rw [s3] at ag;rw [pw] at aB;rw [s4] at aO
   exact fin b (qJ ag) _ (zj (fun ae=>by rw [al.1 ae] at aB;exact wS aB) (fun ae=>by rw [al.2 ae] at aO;exact wS aO))
 · cases h
theorem OA {m:ad} {a:Operand→R} {ca:Act} {o:Oper} {t:TypeId} {y:Operand} (av:o.op= .load t y) {side:Prop} {x:R} (h:bw P m a (.load t y)=some (side,x)) (al:side)
 (aE:aF w lim (ca.eval y) (a y) []) (hm:∀b gu,m b=some gu→∃os,kk w lim b gu os):nX P w lim ca o x:=by
 simp only [bw] at h
 split at h
 · rename_i l dI
   obtain ⟨rfl,rfl⟩:=some_inj h
   rw [dI] at aE
   generalize he:ca.eval y=e at aE
   cases aE with
   |ref b off l cv ar ag au=>
    obtain ⟨v,I,J⟩:=wR (P:=P) al ag au
    simp only [Nat.add_zero] at I
    exact ⟨v,by simp [execOp,av,he,Instr.loadAt,Instr.sureAddr,I],J⟩
 · rename_i b off dI
   rw [dI] at aE
   split at h
   · rename_i l ae
     obtain ⟨rfl,rfl⟩:=some_inj h
     obtain ⟨os,eI⟩:=hm _ _ ae
     obtain ⟨cs,e,oss,px,b2,au⟩:=B9 eI
     generalize he:ca.eval y=e at aE
     cases aE with
     |ptr=>
      obtain ⟨v,I,J⟩:=wR (P:=P) (w:=w) (lim:=lim) (t:=t) (b:=b) (off:=0) (l:=R.fe l) (f:=fun i=>cs.getD i undef) (k:=off) (by simpa [jA,R.iI] using al)
       (fun i ab=>by
         have eH:i<cs.size:=by simpa [R.iI,b2] using ab
         simp [World.cell?,px,Array.getD,eH])
       (fun i ab=>by rw [oJ];exact (au i (by simpa [R.iI] using ab)).plain)
      simp only [Nat.zero_add] at I
      refine ⟨v,by simp [execOp,av,he,Instr.loadAt,Instr.sureAddr,I],?_⟩
      have:apart P t (R.fe l) off=(apart P t l off).plain:=by
       unfold apart
       split
       · simp [R.plain,R.iI,List.map_drop,List.map_take]
       · rw [oJ]
      rw [←this];exact J
   · cases h
 · cases h
set_option maxHeartbeats 1000000 in
theorem OB {m:ad} {a:Operand→R} {ca:Act} {o:Oper} {s d:TypeId} {y:Operand} (av:o.op= .convert s d y) {side:Prop} {x:R} (h:bw P m a (.convert s d y)=some (side,x)) (al:side)
 (aE:aF w lim (ca.eval y) (a y) []):nX P w lim ca o x:=by
 simp only [bw] at h
 generalize he:ca.eval y=e at aE
 split at h
 · rename_i k dU n aY dI
   obtain ⟨rfl,rfl⟩:=some_inj h
   rw [dI] at aE
   cases aE with
   |int _ _ bD ab=>
    cases hu:P.underlying s with
    |none=>simp [ef,hu] at al
    |some u=>
     refine ⟨.int k (k.wrap n),?_, .int _ _ (oM _ _).1 (oM _ _).2⟩
     simp [execOp,av,he,convert,fB hu,fB aY,Conv.intToInt]
 · rename_i l aY dI
   obtain ⟨rfl,rfl⟩:=some_inj h
   rw [dI] at aE
   cases aE with
   |str b ae=>
    cases hu:P.underlying s with
    |none=>simp [ef,hu] at al
    |some u=>
     refine ⟨.string b,?_, .str b ae⟩
     simp [execOp,av,he,convert,fB hu,fB aY]
 · rename_i own l aY dI
   obtain ⟨rfl,rfl⟩:=some_inj h
   obtain ⟨b9,hu,OC,je⟩:=al
   rw [dI] at aE
   have qK:=zi aE
   have Cb:∀(qL:Option Addr) (n c:Nat),(convert s d (.slice qL n c)).run P w=(Conv.bytesToString (.slice qL n c)).run P w:=fun qL n c=>run_convert_bytes_string w s d b9 qL n c hu OC aY
   have Cc:∀bs:List UInt8,bs.length≤140737488355328→aF w lim (.string ⟨bs.toArray⟩) (.str bs) []:=fun bs ae=>by
    have:=aF.str (w:=w) (lim:=lim) ⟨bs.toArray⟩ (by simpa [ByteArray.size] using ae)
    simpa using this
   rcases uB qK with ⟨rfl,rfl⟩|⟨rfl,qL,cap,rfl,_⟩|⟨b,off,cap,sz,cv,rfl,dT,hm,cU,b2,ek,ag,au⟩
   · exact ⟨.string ⟨#[]⟩,by simp [execOp,av,he,Cb,Conv.bytesToString];rfl,Cc [] (by simp)⟩
   · have aq:=run_bytesToString (P:=P) w qL 0 cap [] (by simp [loadCells,loadCellsFrom])
     refine ⟨.string ⟨#[]⟩,by simp [execOp,av,he,Cb,aq];rfl,Cc [] (by simp)⟩
   · have py:∀i,i<l.length→(l.getD i .aP).cells=[l.getD i .aP]∧∃k:Int,l.getD i .aP= .int .u8 k:=fun i ab=>by
      have hS:l.getD i .aP∈l:=by simp [List.getD_eq_getElem?_getD,ab]
      obtain ⟨k,aj⟩:=je _ hS
      rw [aj];exact ⟨rfl,k,rfl⟩
     have pz:0<l.length→sz=1:=fun ar=>by rw [←b2 0 ar,(py 0 ar).1];rfl
     have fU:∀i,i<l.length→∃k:Int,w.cell? ⟨b,off+i,none⟩=some (.int .u8 k)∧l.getD i .aP= .int .u8 k:=fun i ab=>by
      have aA:=pz (by omega)
      subst aA
      have I:=ag i 0 ab (by omega)
      have J:=au i 0 ab (by omega)
      obtain ⟨OD,k,aj⟩:=py i ab
      rw [OD] at J
      simp only [List.getD_cons_zero,aj] at J
      refine ⟨k,?_,aj⟩
      have ai:cv i 0= .int .u8 k:=(lE J).1
      rw [←ai];simpa using I
     have OE:∀i,i<l.length→w.cell? ⟨b,off+i,none⟩=some (Value.int .u8 (l.getD i .aP).num):=fun i ab=>by
      obtain ⟨k,I,J⟩:=fU i ab
      rw [J];exact I
     have ar:=GG (P:=P) (w:=w) b off l.length (fun i=>Value.int .u8 (l.getD i .aP).num) OE
     have zk:((List.range l.length).map fun i=>Value.int .u8 (l.getD i .aP).num)=((List.range l.length).map fun i=>(l.getD i .aP).num).map (Value.int .u8):=by
      rw [List.map_map];rfl
     rw [zk] at ar
     have aq:=run_bytesToString (P:=P) w ⟨b,off,none⟩ l.length cap _ ar
     have ae:(List.range l.length).map (fun i=>UInt8.ofNat (l.getD i .aP).num.toNat)=l.map byteOf:=by
      apply List.ext_getElem?
      intro i
      by_cases ab:i<l.length
      · obtain ⟨k,I,J⟩:=fU i ab
        simp only [List.getD_eq_getElem?_getD,List.getElem?_eq_getElem ab,Option.getD_some] at J
        simp [ab,J,byteOf,R.num]
      · simp [ab]
     refine ⟨_,by simp only [execOp,av,he,Sem.run_bind,Cb,aq];rfl,?_⟩
     rw [foldl_push_bytes,List.map_map]
     have aI:((fun n:Int=>UInt8.ofNat n.toNat)∘fun i=>(l.getD i .aP).num)=fun i=>UInt8.ofNat (l.getD i .aP).num.toNat:=rfl
     rw [aI,ae]
     have:=Cc (l.map byteOf) (by simpa using cU)
     simpa using this
 · cases h
end
end Go.bh
end
section
namespace Go.bh
open Go
section
variable {P:Program} {w:World} {lim:Nat→Nat}
theorem GL {b off:Nat} {f:Field} (hu:ef P f.type=true) (aL:P.cellsOf f.type≠0):(fieldPlace ⟨b,off,none⟩ f).run P w= .ok ⟨b,off+f.offset,none⟩ w:=by
 simp [fieldPlace,mF hu,aL,addr_add]
theorem Cd (l:List R) (off i:Nat):(l.drop off).getD i .aP=l.getD (off+i) .aP:=by
 simp [List.getD_eq_getElem?_getD]
theorem GM {m:ad} {a:Operand→R} {ca:Act} {o:Oper} {s:TypeId} {y:Operand} {f:Nat} (av:o.op= .fieldAddr s y f) {side:Prop} {x:R} (h:bw P m a (.fieldAddr s y f)=some (side,x)) (al:side)
 (aE:aF w lim (ca.eval y) (a y) []):nX P w lim ca o x:=by
 simp only [bw] at h
 generalize he:ca.eval y=e at aE
 split at h
 · next cA ko=>
   split at h
   · next fd uD=>
     split at h
     · next l dI=>
       obtain ⟨rfl,rfl⟩:=some_inj h
       obtain ⟨I,J,ai⟩:=al
       rw [dI] at aE
       cases aE with
       |ref b off l cv ar ag au=>
        refine ⟨.pointer (some ⟨b,off+fd.offset,none⟩),by simp [execOp,av,he,Instr.fieldAt,fB ko,uD,Instr.sureAddr,GL I J],?_⟩
        exact .ref b (off+fd.offset) (l.drop fd.offset) (fun i=>cv (fd.offset+i)) (by simp;omega) (fun i ab=>by
         simp at ab;rw [Nat.add_assoc];exact ag _ (by omega)) (fun i ab=>by simp at ab;rw [Cd];exact au _ (by omega))
     · next b off dI=>
       obtain ⟨rfl,rfl⟩:=some_inj h
       rw [dI] at aE
       have:=oN aE
       subst this
       exact ⟨.pointer (some ⟨b,off+fd.offset,none⟩),by simp [execOp,av,he,Instr.fieldAt,fB ko,uD,Instr.sureAddr,GL al.1 al.2], .ptr _⟩
     · cases h
   · cases h
 · cases h
theorem OF {m:ad} {a:Operand→R} {ca:Act} {o:Oper} {s:TypeId} {y:Operand} {f:Nat} (av:o.op= .field s y f) {side:Prop} {x:R} (h:bw P m a (.field s y f)=some (side,x)) (al:side)
 (aE:aF w lim (ca.eval y) (a y) []):nX P w lim ca o x:=by
 simp only [bw] at h
 generalize he:ca.eval y=e at aE
 split at h
 · next cA ko=>
   split at h
   · next fd l uD dI=>
     obtain ⟨rfl,rfl⟩:=some_inj h
     rw [dI] at aE
     obtain ⟨cs,rfl,I,J⟩:=Ox aE
     obtain ⟨v,ai,aC⟩:=Ov (P:=P) al I J
     exact ⟨v,by simp [execOp,av,he,Instr.field,fB ko,uD,asAgg,ai],aC⟩
   · cases h
 · cases h
theorem rH {v:Value} {a:Addr} {n c:Nat} {o:List Nat} (h:aF w lim v (.ms a n c) o):v= .slice (some a) n c∧n≤c∧c≤maxLen:=by cases h;exact ⟨rfl,‹_›,‹_›⟩
theorem OG {m:ad} {a:Operand→R} {ca:Act} {o:Oper} {t:TypeId} {y i:Operand} (av:o.op= .indexAddr t y i) {side:Prop} {x:R} (h:bw P m a (.indexAddr t y i)=some (side,x)) (al:side)
 (aE:aF w lim (ca.eval y) (a y) []) (ab:aF w lim (ca.eval i) (a i) []):nX P w lim ca o x:=by
 simp only [bw] at h
 generalize he:ca.eval y=e at aE
 generalize zl:ca.eval i=OH at ab
 split at h
 · next el py=>
   split at h
   · next own l k n jT s5=>
     obtain ⟨rfl,rfl⟩:=some_inj h
     obtain ⟨I,J,ai,aC,aN⟩:=al
     rw [jT] at aE;rw [s5] at ab
     obtain ⟨rfl,_,_⟩:=lE ab
     have bG:n.toNat<l.length:=by omega
     rcases uB (zi aE) with ⟨rfl,_⟩|⟨rfl,_⟩|⟨b,off,cap,sz,cv,rfl,dT,hm,cU,b2,ek,ag,au⟩
     · simp at bG
     · simp at bG
     · have aA:sz=P.cellsOf el:=by rw [←b2 _ bG,aN]
       refine ⟨.pointer (some ⟨b,off+n.toNat*P.cellsOf el,none⟩),?_,?_⟩
       · simp [execOp,av,he,zl,Instr.indexAt,asIntOf,fB py,ai,aC,mF I,addr_add]
       · refine .ref b _ _ (cv n.toNat) ?_ (fun j ay=>?_) (fun j ay=>?_)
         · rw [aN,aA.symm]
           have:n.toNat*sz+sz≤l.length*sz:=by rw [←Nat.succ_mul];exact Nat.mul_le_mul_right _ bG
           omega
         · rw [aN,←aA] at ay;rw [←aA];exact ag _ j bG ay
         · rw [aN,←aA] at ay;exact au _ j bG ay
   · next b off len cap k n jT s5=>
     obtain ⟨rfl,rfl⟩:=some_inj h
     obtain ⟨I,ai,aC⟩:=al
     rw [jT] at aE;rw [s5] at ab
     obtain ⟨rfl,_,_⟩:=lE ab
     obtain ⟨rfl,_,_⟩:=rH aE
     refine ⟨.pointer (some ⟨b,off+n.toNat*P.cellsOf el,none⟩),?_, .ptr _⟩
     simp [execOp,av,he,zl,Instr.indexAt,asIntOf,fB py,ai,aC,mF I,addr_add]
   · cases h
 · cases h
theorem OI {m:ad} {a:Operand→R} {ca:Act} {o:Oper} {t:TypeId} {y i:Operand} (av:o.op= .index t y i) {side:Prop} {x:R} (h:bw P m a (.index t y i)=some (side,x)) (al:side)
 (aE:aF w lim (ca.eval y) (a y) []) (ab:aF w lim (ca.eval i) (a i) []):nX P w lim ca o x:=by
 simp only [bw] at h
 generalize he:ca.eval y=e at aE
 generalize zl:ca.eval i=OH at ab
 split at h
 · next l k n hu jT s5=>
   obtain ⟨rfl,rfl⟩:=some_inj h
   obtain ⟨ai,aC⟩:=al
   rw [jT] at aE;rw [s5] at ab
   obtain ⟨rfl,_,_⟩:=lE ab
   obtain ⟨s,rfl,rfl,b2⟩:=uC aE
   have bG:n.toNat<s.data.size:=by simp only [Array.length_toList] at aC;omega
   refine ⟨.int .u8 (s.data[n.toNat]).toNat,?_,?_⟩
   · have a8:s[n.toNat]?=some (s.data[n.toNat]):=by
      rw [getElem?_pos s n.toNat bG];rfl
     simp [execOp,av,he,zl,Instr.index,asIntOf,fB hu,ai,a8]
   · have ax:s.data.toList.getD n.toNat 0=s.data[n.toNat]:=by rw [List.getD_eq_getElem?_getD,Array.getElem?_toList,Array.getElem?_eq_getElem bG,Option.getD_some]
     rw [ax]
     have:=(s.data[n.toNat]).toNat_lt
     exact .int .u8 _ (by simp [IntKind.min,IntKind.signed]) (by simp [IntKind.max,IntKind.signed,IntKind.bits];omega)
 · cases h
theorem OJ {m:ad} {a:Operand→R} {ca:Act} {o:Oper} {y:Operand} {i:Nat} (av:o.op= .extract y i) {side:Prop} {x:R} (h:bw P m a (.extract y i)=some (side,x)) (al:side)
 (aE:aF w lim (ca.eval y) (a y) []):nX P w lim ca o x:=by
 simp only [bw] at h
 generalize he:ca.eval y=e at aE
 split at h
 · next l dI=>
   obtain ⟨rfl,rfl⟩:=some_inj h
   rw [dI] at aE
   obtain ⟨cs,rfl,I,J⟩:=GH aE
   have ab:i<cs.size:=by rw [I];exact al
   refine ⟨cs.getD i undef,?_,J i al⟩
   simp [execOp,av,he,Instr.extract,ab]
 · cases h
theorem GN {a:Operand→R} {ca:Act} {bD:Option Operand} {d:Nat} {p:Int} (h:l3 (bD.map a) d=some p) (au:∀y,bD=some y→aF w lim (ca.eval y) (a y) []):
 (bD=none∧p=d)∨(∃y k,bD=some y∧ca.eval y= .int k p):=by
 cases bD with
 |none=>simp [l3] at h;exact .inl ⟨rfl,h.symm⟩
 |some y=>
  have:=au y rfl
  simp only [Option.map_some,l3] at h
  split at h
  · next hT=>cases hT
  · next k n jT=>
    simp at h;subst h
    simp at jT
    rw [jT] at this
    exact .inr ⟨y,k,rfl,(lE this).1⟩
  · cases h
theorem wT (zm:Bool) (len cap:Nat) {a:Operand→R} {ca:Act} {bD ab:Option Operand} {p q:Int} (aB:l3 (bD.map a) 0=some p) (aO:l3 (ab.map a) len=some q)
 (km:∀y,bD=some y→aF w lim (ca.eval y) (a y) []) (nh:∀y,ab=some y→aF w lim (ca.eval y) (a y) []) (aq:0≤p) (I:p≤q) (J:q≤cap):
 (Instr.sliceBounds zm len cap (bD.map ca.eval) (ab.map ca.eval) none).run P w= .ok (p.toNat,q.toNat,cap) w:=by
 have ax:(p≤(q.toNat:Int)):=by omega
 rcases GN aB km with ⟨rfl,rfl⟩|⟨y,k,rfl,aE⟩<;>rcases GN aO nh with ⟨rfl,rfl⟩|⟨p6,dU,rfl,qK⟩
 · simp [Instr.sliceBounds]
 · simp [Instr.sliceBounds,Instr.sliceBound,qK,asIntOf,show 0≤q from by omega,J]
 · simp [Instr.sliceBounds,Instr.sliceBound,aE,asIntOf,aq,I]
 · have aI:((q.toNat:Nat):Int)=q:=by omega
   simp only [Instr.sliceBounds,Instr.sliceBound,Option.map_some,Sem.run_bind,Sem.run_pure,Result.andThen_ok,aE,qK,asIntOf,Sem.run_ite,aI,aq,I,J,show 0≤q from by omega,and_self,if_true]
theorem OK {m:ad} {a:Operand→R} {ca:Act} {o:Oper} {t:TypeId} {y:Operand} {bD ab:Option Operand} (av:o.op= .slice t y bD ab none) {side:Prop} {x:R} (h:bw P m a (.slice t y bD ab none)=some (side,x)) (al:side)
 (aE:aF w lim (ca.eval y) (a y) []) (km:∀y,bD=some y→aF w lim (ca.eval y) (a y) []) (nh:∀y,ab=some y→aF w lim (ca.eval y) (a y) []):nX P w lim ca o x:=by
 simp only [bw] at h
 generalize he:ca.eval y=e at aE
 split at h
 · next l hu jT=>
   split at h
   · next p q aB aO=>
     obtain ⟨rfl,rfl⟩:=some_inj h
     obtain ⟨aq,I,J⟩:=al
     rw [jT] at aE
     obtain ⟨s,rfl,rfl,b2⟩:=uC aE
     have ae:=wT (P:=P) (w:=w) false s.size s.size aB (by simpa using aO) km nh aq I (by simpa using J)
     refine ⟨.string (s.extract p.toNat q.toNat),?_,?_⟩
     · simp [execOp,av,he,Instr.sliceAt,Instr.slice,fB hu,ae]
     · have:=aF.str (w:=w) (lim:=lim) (s.extract p.toNat q.toNat) (by simp;omega)
       have aI:(s.extract p.toNat q.toNat).data.toList=(s.data.toList.drop p.toNat).take (q- p).toNat:=by
        simp [show q.toNat- p.toNat=(q- p).toNat from by omega]
       rw [aI] at this;exact this
   · cases h
 · next el own l hu jT=>
   split at h
   · next p q aB aO=>
     obtain ⟨rfl,rfl⟩:=some_inj h
     obtain ⟨lf,aq,I,J,je⟩:=al
     rw [jT] at aE
     rcases uB (zi aE) with ⟨rfl,rfl⟩|⟨rfl,qL,cap,rfl,hm⟩|⟨b,off,cap,sz,cv,rfl,dT,hm,cU,b2,ek,ag,au⟩
     · have ae:=wT (P:=P) (w:=w) true 0 0 aB (by simpa using aO) km nh aq I (by simpa using J)
       have ax:p.toNat=0:=by simp at J;omega
       have aI:q.toNat=0:=by simp at J;omega
       refine ⟨.slice none 0 0,?_,by simpa using aF.fz false⟩
       simp [execOp,av,he,Instr.sliceAt,Instr.slice,fB hu,ae,mF lf,ax,aI]
     · have ae:=wT (P:=P) (w:=w) true 0 cap aB (by simpa using aO) km nh aq I (by simp at J;omega)
       have ax:p.toNat=0:=by simp at J;omega
       have aI:q.toNat=0:=by simp at J;omega
       refine ⟨_,by simp only [execOp,av,he,Option.map_none,Instr.sliceAt,Instr.slice,fB hu,Sem.run_bind,Result.andThen_ok,ae,mF lf];rfl,?_⟩
       simp only [ax,aI,List.drop_nil,List.take_nil,Nat.sub_self]
       split
       · exact .empty _ _ (by omega)
       · simp;exact .empty _ _ (by omega)
     · have ae:=wT (P:=P) (w:=w) true l.length cap aB aO km nh aq I (by omega)
       have aL:q.toNat- p.toNat=(q- p).toNat:=by omega
       have hlen:((l.drop p.toNat).take (q- p).toNat).length=(q- p).toNat:=by simp;omega
       have gi:∀i,i<(q- p).toNat→((l.drop p.toNat).take (q- p).toNat).getD i .aP=l.getD (p.toNat+i) .aP:=fun i ab=>B8 _ _ _ _ ab
       by_cases uE:cap=p.toNat
       · subst uE
         have aA:(q- p).toNat=0:=by omega
         refine ⟨.slice (some ⟨b,off,none⟩) 0 0,?_,?_⟩
         · simp [execOp,av,he,Instr.sliceAt,Instr.slice,fB hu,ae,mF lf,aL,aA]
         · rw [aA];exact .empty _ _ (by omega)
       · refine ⟨.slice (some ⟨b,off+p.toNat*P.cellsOf el,none⟩) (q- p).toNat (cap- p.toNat),?_,?_⟩
         · simp [execOp,av,he,Instr.sliceAt,Instr.slice,fB hu,ae,mF lf,aL,uE,addr_add]
         · by_cases aA:(q- p).toNat=0
           · rw [aA];exact .empty _ _ (by omega)
           · have oO:sz=P.cellsOf el:=by
              have GO:0<l.length:=by omega
              rw [←b2 0 GO]
              exact je _ (by simp [List.getD_eq_getElem?_getD,GO])
             subst oO
             have hmul:p.toNat*P.cellsOf el+(q- p).toNat*P.cellsOf el≤l.length*P.cellsOf el:=by
              rw [←Nat.add_mul];exact Nat.mul_le_mul_right _ (by omega)
             refine .slice b _ _ _ (P.cellsOf el) _ (fun i j=>cv (p.toNat+i) j) hlen (by omega) (by omega) (by omega) (fun i ab=>by rw [gi i ab];exact b2 _ (by omega)) (by omega)
              (fun i j ab ay=>?_) (fun i j ab ay=>by rw [gi i ab];exact au _ j (by omega) ay)
             have:=ag (p.toNat+i) j (by omega) ay
             rw [Nat.add_mul,←Nat.add_assoc] at this
             exact this
   · cases h
 · next el b off len cap hu jT=>
   split at h
   · next p q aB aO=>
     obtain ⟨rfl,rfl⟩:=some_inj h
     obtain ⟨lf,aq,I,J⟩:=al
     rw [jT] at aE
     obtain ⟨rfl,Z2,lD⟩:=rH aE
     have ae:=wT (P:=P) (w:=w) true len cap aB aO km nh aq I (by omega)
     have aL:q.toNat- p.toNat=(q- p).toNat:=by omega
     by_cases ai:¬p<cap
     · rw [if_neg ai]
       have uE:cap=p.toNat:=by omega
       have aA:(q- p).toNat=0:=by omega
       refine ⟨.slice (some ⟨b,off,none⟩) 0 0,?_, .pq _⟩
       have qM:(cap=p.toNat)=True:=eq_true uE
       have uF:cap- p.toNat=0:=by omega
       simp only [execOp,av,he,Instr.sliceAt,Instr.slice,Sem.run_bind,fB hu,ae,mF lf,aL,aA,qM,uF,Result.andThen_ok,Sem.run_pure,if_true]
       simp [ae,mF lf,aL,aA,qM,uF]
     rw [if_pos (Decidable.not_not.1 ai)]
     have uE:¬cap=p.toNat:=by omega
     refine ⟨.slice (some ⟨b,off+p.toNat*P.cellsOf el,none⟩) (q- p).toNat (cap- p.toNat),?_, .ms _ _ _ (by omega) (by omega)⟩
     simp [execOp,av,he,Instr.sliceAt,Instr.slice,fB hu,ae,mF lf,aL,uE,addr_add]
   · cases h
 · cases h
theorem OL {b:Nat} {l:List (R×R)} {os:Nat→List Nat} (h:kk w lim b (.map l) os):∃(es:Array MapEntry) (clock:Nat),w.heap[b]?=some (.map es clock)∧es.size=l.length∧l.length≤140737488355328∧
 (∀i,i<l.length→aF w lim (es.getD i default).key (l.getD i (.aP, .aP)).1 [])∧(∀i,i<l.length→aF w lim (es.getD i default).val (l.getD i (.aP, .aP)).2 [])∧
 (∀i j,i<j→j<l.length→(es.getD i default).born<(es.getD j default).born)∧(∀i,i<l.length→(es.getD i default).born<clock):=by
 cases h with
 |map es clock l ae al cU aj bc I J _=>exact ⟨es,clock,ae,al,cU,aj,bc,I,J⟩
theorem run_getObj_map {b:Nat} {es:Array MapEntry} {clock:Nat} (h:w.heap[b]?=some (.map es clock)):(getObj b).run P w= .ok (.map es clock) w:=by
 simp [getObj,Sem.run,h]
theorem OM {m:ad} {a:Operand→R} {ca:Act} {o:Oper} {args:Array Operand} {bC:Array TypeId} (av:o.op= .call ⟨.builtin .len,args,bC⟩) {side:Prop} {x:R}
 (h:bw P m a (.call ⟨.builtin .len,args,bC⟩)=some (side,x)) (al:side)
 (au:∀y∈args.toList,aF w lim (ca.eval y) (a y) []) (hm:∀b gu,m b=some gu→∃os,kk w lim b gu os):nX P w lim ca o x:=by
 simp only [bw] at h
 split at h
 · next y t jT uG=>
   have aE:=au y (by rw [Array.mem_toList_iff];exact Array.mem_of_getElem? jT)
   generalize he:ca.eval y=e at aE
   have jU:(args.map ca.eval)[0]?=some e:=by simp [jT,he]
   have fin:∀v,(Builtin.len_ bC o.type (args.map ca.eval)).run P w= .ok v w→∀x,aF w lim v x []→nX P w lim ca o x:=fun v I x J=>
    ⟨v,by simp [execOp,av,resolve,invoke,builtin,I],J⟩
   have wU:∀n:Nat,n≤140737488355328→aF w lim (goInt n) (.int .i64 n) []:=fun n aL=>
    .int .i64 n (by simp [IntKind.min,IntKind.signed,IntKind.bits]) (by simp [IntKind.max,IntKind.signed,IntKind.bits];omega)
   split at h
   · next l hu dI=>
     obtain ⟨rfl,rfl⟩:=some_inj h
     rw [dI] at aE
     obtain ⟨s,rfl,rfl,b2⟩:=uC aE
     refine fin (goInt s.size) (by simp [Builtin.len_,uG,jU,fB hu]) _ ?_
     have:=wU s.size b2
     simpa using this
   · next el own l hu dI=>
     obtain ⟨rfl,rfl⟩:=some_inj h
     rw [dI] at aE
     obtain ⟨qL,cap,rfl,ar⟩:=Ca (zi aE)
     exact fin (goInt l.length) (by simp [Builtin.len_,uG,jU,fB hu]) _ (wU _ ar)
   · next el p n c hu dI=>
     obtain ⟨rfl,rfl⟩:=some_inj h
     rw [dI] at aE
     obtain ⟨rfl,_,_⟩:=rH aE
     exact fin (goInt n) (by simp [Builtin.len_,uG,jU,fB hu]) _ (.int .i64 n (by simp [IntKind.min,IntKind.signed,IntKind.bits]) (by simp [IntKind.max,IntKind.signed,IntKind.bits];omega))
   · next el hu dI=>
     obtain ⟨rfl,rfl⟩:=some_inj h
     rw [dI] at aE
     have:∃a0,e= .slice a0 0 0:=by cases aE;exact ⟨_,rfl⟩
     obtain ⟨a0,rfl⟩:=this
     exact fin (goInt 0) (by simp [Builtin.len_,uG,jU,fB hu]) _ (by simpa using wU 0 (by omega))
   · next rI ON hu dI=>
     obtain ⟨rfl,rfl⟩:=some_inj h
     rw [dI] at aE
     have:e= .map none:=by cases aE;rfl
     subst this
     exact fin (goInt 0) (by simp [Builtin.len_,uG,jU,fB hu]) _ (by simpa using wU 0 (by omega))
   · next rI ON b hu dI=>
     split at h
     · next l ae=>
       obtain ⟨rfl,rfl⟩:=some_inj h
       rw [dI] at aE
       have:e= .map (some b):=by cases aE;rfl
       subst this
       obtain ⟨os,eI⟩:=hm _ _ ae
       obtain ⟨es,clock,I,J,ai,_⟩:=OL eI
       exact fin (goInt l.length) (by simp [Builtin.len_,uG,jU,fB hu,run_getObj_map I,J]) _ (wU _ ai)
     · cases h
   · cases h
 · cases h
theorem OO {t:TypeId} {v:Value} (h:(P.info? t).bind (·.zero)=some v):(zeroValue t).run P w= .ok v w:=by
 cases ab:P.info? t with
 |none=>simp [ab] at h
 |some i=>simp [ab] at h;simp [zeroValue,typeInfo,ab,h]
theorem wV {m:ad} {a:Operand→R} {ca:Act} {o:Oper} {side:Prop} {x:R} (h:bw P m a o.op=some (side,x)) (al:side)
 (au:∀y∈o.op.operands.toList,aF w lim (ca.eval y) (a y) []) (hm:∀b gu,m b=some gu→∃os,kk w lim b gu os):nX P w lim ca o x:=by
 cases av:o.op with
 |move y=>
  rw [av] at h au
  obtain ⟨rfl,rfl⟩:=some_inj h
  exact ⟨_,by simp [execOp,av],au y (by simp [Op.operands])⟩
 |assign y=>
  rw [av] at h au
  obtain ⟨rfl,rfl⟩:=some_inj h
  exact ⟨_,by simp [execOp,av],au y (by simp [Op.operands])⟩
 |pick c p q=>rw [av] at h au;exact Oz av h al (au c (by simp [Op.operands])) (au p (by simp [Op.operands])) (au q (by simp [Op.operands]))
 |load t y=>rw [av] at h au;exact OA av h al (au y (by simp [Op.operands])) hm
 |nilCheck y=>
  rw [av] at h au
  have aE:=au y (by simp [Op.operands])
  generalize he:ca.eval y=e at aE
  simp only [bw] at h
  split at h
  · next l dI=>
    obtain ⟨rfl,rfl⟩:=some_inj h
    rw [dI] at aE
    cases aE with
    |ref b off l cv ar ag au=>exact ⟨_,by simp only [execOp,av,he,Sem.run_pure], .ref b off l cv ar ag au⟩
  · next p dI=>
    obtain ⟨rfl,rfl⟩:=some_inj h
    rw [dI] at aE
    obtain rfl:=oN aE
    exact ⟨_,by simp only [execOp,av,he,Sem.run_pure], .ptr p⟩
  · next f b c dI=>
    obtain ⟨rfl,rfl⟩:=some_inj h
    rw [dI] at aE
    cases aE with
    |func fn fa dj bu fK I J ai aC=>exact ⟨.func (.func f) fa dj,by simp only [execOp,av,he,Sem.run_pure], .func _ fa dj b c I ‹_› ai aC⟩
  · cases h
 |binOp op t y z t2=>
  rw [av] at h au
  obtain ⟨v,I,J⟩:=Oq (P:=P) (w:=w) (lim:=lim) h al (au y (by simp [Op.operands])) (au z (by simp [Op.operands]))
  exact ⟨v,by simp only [execOp,av,Sem.run_bind,Result.andThen_ok] at I ⊢;rw [I];rfl,J⟩
 |unOp op t y=>
  rw [av] at h au
  have aE:=au y (by simp [Op.operands])
  generalize he:ca.eval y=e at aE
  simp only [bw] at h
  split at h
  · next b dI=>
    obtain ⟨rfl,rfl⟩:=some_inj h
    rw [dI] at aE
    obtain rfl:=qJ aE
    exact ⟨_,by simp only [execOp,av,he,Op.unary,Sem.run_bind,Sem.run_pure,Result.andThen_ok], .bool _⟩
  · next k n dI=>
    obtain ⟨rfl,rfl⟩:=some_inj h
    rw [dI] at aE
    obtain ⟨rfl,_,_⟩:=lE aE
    exact ⟨_,by simp only [execOp,av,he,Op.unary,Op.intArith,Sem.run_bind,Sem.run_pure,Result.andThen_ok], .int _ _ (oM _ _).1 (oM _ _).2⟩
  · cases h
 |convert s d y=>rw [av] at h au;exact OB av h al (au y (by simp [Op.operands]))
 |makeInterface t y=>
  rw [av] at h au
  have aE:=au y (by simp [Op.operands])
  simp only [bw] at h
  split at h
  · cases h
  · next d l6 hu=>
    obtain ⟨rfl,rfl⟩:=some_inj h
    refine ⟨.iface t (ca.eval y),?_, .iface _ _ _ aE⟩
    cases d<;>first|exact (l6 _ rfl).elim|simp [execOp,av,Instr.makeInterface,fB hu]
  · cases h
 |fieldAddr s y f=>rw [av] at h au;exact GM av h al (au y (by simp [Op.operands]))
 |field s y f=>rw [av] at h au;exact OF av h al (au y (by simp [Op.operands]))
 |indexAddr t y i=>rw [av] at h au;exact OG av h al (au y (by simp [Op.operands])) (au i (by simp [Op.operands]))
 |index t y i=>rw [av] at h au;exact OI av h al (au y (by simp [Op.operands])) (au i (by simp [Op.operands]))
 |extract y i=>rw [av] at h au;exact OJ av h al (au y (by simp [Op.operands]))
 |slice t y bD ab wW=>
  cases wW with
  |some z=>rw [av] at h;simp [bw] at h
  |none=>
   rw [av] at h au
   exact OK av h al (au y (by simp [Op.operands])) (fun z aA=>au z (by simp [Op.operands,aA])) (fun z aA=>au z (by simp [Op.operands,aA]))
 |typeAssert y t u ok=>
  cases ok with
  |false=>rw [av] at h;simp [bw] at h
  |true=>
   rw [av] at h au
   have aE:=au y (by simp [Op.operands])
   generalize he:ca.eval y=e at aE
   simp only [bw] at h
   split at h
   · cases h
   · next d z ng v l6 hu dI=>
     split at h
     · next heq=>
       subst heq
       obtain ⟨rfl,rfl⟩:=some_inj h
       rw [dI] at aE
       cases aE with
       |iface _ mH _ bc=>
        refine ⟨.tuple #[mH, .bool true],?_,?_⟩
        · cases d<;>first|exact (l6 _ _ rfl).elim|exact (l6 _ rfl).elim|simp [execOp,av,he,Instr.typeAssert,fB hu]
        · have:=aF.tuple (w:=w) (lim:=lim) #[mH, .bool true] [v, .bool true] (fun _=>[]) (by simp) (fun i ab=>by
           have:i=0∨i=1:=by simp at ab;omega
           rcases this with rfl|rfl
           · exact bc
           · exact .bool true)
          rw [flatMap_nil] at this
          exact this
     · cases h
   · next d z ng e l6 hu dI=>
     split at h
     · next heq=>
       subst heq
       obtain ⟨rfl,rfl⟩:=some_inj h
       rw [dI] at aE
       have ez:∀(n:Int) (b:Bool),IntKind.i64.min≤n→n≤IntKind.i64.max→aF w lim (.tuple #[.int .i64 n, .bool b]) (.tuple [.int .i64 n, .bool b]) []:=fun n b bD ab=>by
        have:=aF.tuple (w:=w) (lim:=lim) #[.int .i64 n, .bool b] [.int .i64 n, .bool b] (fun _=>[]) (by simp) (fun i ab=>by
         have:i=0∨i=1:=by simp at ab;omega
         rcases this with rfl|rfl
         · exact .int _ _ bD ‹_›
         · exact .bool b)
        rw [flatMap_nil] at this
        exact this
       cases aE with
       |l2 _=>
        refine ⟨.tuple #[.int .i64 0, .bool false],?_,ez 0 false (by decide) (by decide)⟩
        cases d<;>first|exact (l6 _ _ rfl).elim|exact (l6 _ rfl).elim|(simp only [execOp,av,he,Instr.typeAssert,Sem.run_bind,fB hu,Result.andThen_ok,if_true,OO al];rfl)
       |jb _ _ aq bD ab=>
        refine ⟨.tuple #[.int .i64 e, .bool true],?_,(show (!(e==0))=true from by simp [aq])▸ez e true bD ab⟩
        cases d<;>first|exact (l6 _ _ rfl).elim|exact (l6 _ rfl).elim|simp [execOp,av,he,Instr.typeAssert,fB hu]
     · cases h
   · cases h
 |call c=>
  obtain ⟨Ce,args,bC⟩:=c
  rw [av] at h au
  cases Ce with
  |value f=>simp [bw] at h
  |invoke r n=>simp [bw] at h
  |builtin b=>
   have jC:∀y∈args.toList,aF w lim (ca.eval y) (a y) []:=fun y aE=>au y (by simpa [Op.operands,Call.operands] using aE)
   cases b with
   |len=>exact OM av h al jC hm
   |max=>
    simp only [bw] at h
    split at h
    · next y z nY=>
      have aE:=jC y (by rw [nY];simp)
      have aA:=jC z (by rw [nY];simp)
      split at h
      · next k p dU q jT Cf=>
        split at h
        · next aj=>
          subst aj
          obtain ⟨rfl,rfl⟩:=some_inj h
          rw [jT] at aE;rw [Cf] at aA
          obtain ⟨ax,ie,jD⟩:=lE aE
          obtain ⟨aI,iC,jE⟩:=lE aA
          have jU:(args.map ca.eval).toList=[.int k p, .int k q]:=by simp [nY,ax,aI]
          refine ⟨.int k (if q>p then q else p),?_,?_⟩
          · simp [execOp,av,resolve,invoke,builtin,Builtin.max_,nY,ax,aI,Builtin.max2]
          · by_cases ag:q>p
            · rw [if_pos ag];exact .int k q iC jE
            · rw [if_neg ag];exact .int k p ie jD
        · cases h
      · cases h
    · cases h
   |min=>
    simp only [bw] at h
    split at h
    · next y z nY=>
      have aE:=jC y (by rw [nY];simp)
      have aA:=jC z (by rw [nY];simp)
      split at h
      · next k p dU q jT Cf=>
        split at h
        · next aj=>
          subst aj
          obtain ⟨rfl,rfl⟩:=some_inj h
          rw [jT] at aE;rw [Cf] at aA
          obtain ⟨ax,ie,jD⟩:=lE aE
          obtain ⟨aI,iC,jE⟩:=lE aA
          have jU:(args.map ca.eval).toList=[.int k p, .int k q]:=by simp [nY,ax,aI]
          refine ⟨.int k (if q<p then q else p),?_,?_⟩
          · simp [execOp,av,resolve,invoke,builtin,Builtin.min_,nY,ax,aI,Builtin.min2]
          · by_cases ag:q<p
            · rw [if_pos ag];exact .int k q iC jE
            · rw [if_neg ag];exact .int k p ie jD
        · cases h
      · cases h
    · cases h
   |_=>simp [bw] at h
 |_=>rw [av] at h;simp [bw] at h
end
end Go.bh
end
section
namespace Go.bh
open Go
def eQ (n:Nat) (o:Oper):Bool:=(match o.dst with|some d=>decide (d<n)|none=>true)&&o.op.operands.toList.all kl
def bQ (P:Program) (n:Nat) (ops:Array Oper) (l:List Oper) (K:Fr→ad→Prop) (fr:Fr) (m:ad):Prop:=
 ∀F lim w ca Q,bd F lim w n fr m ca []→(∀lim' w' bb m' dj,K bb m'→bd F lim' w' n bb m' dj []→dc F w lim w' lim'→Q Exit.normal dj w')→wpList P ops Q l ca w
def ni (F:Nat→Prop) (lim:Nat→Nat) (w:World) (n:Nat) (Q:Exit→Fr→ad→Prop):Exit→Act→World→Prop:=
 fun e dj w'=>∃lim' bb m',Q e bb m'∧bd F lim' w' n bb m' dj []∧dc F w lim w' lim'
def b7 (P:Program) (n:Nat) (c:Code) (Q:Exit→Fr→ad→Prop) (fr:Fr) (m:ad):Prop:=
 ∀F lim w ca,bd F lim w n fr m ca []→c.wp P (ni F lim w n Q) ca w
def Cg (next:Fr→ad→Prop) (Q:Exit→Fr→ad→Prop):Exit→Fr→ad→Prop
 | .normal,fr,m=>next fr m
 |e,fr,m=>Q e fr m
def Ch (id:Nat) (Q:Exit→Fr→ad→Prop):Exit→Fr→ad→Prop
 | .exit Ci,fr,m=>if Ci=id then Q .normal fr m else Q (.exit Ci) fr m
 |e,fr,m=>Q e fr m
def oP:Act:=⟨#[],[]⟩
def bn (P:Program) (f:FuncId) (args:List R) (m:ad) (K:R→ad→Prop):Prop:=
 (∃fn,P.funcs[f]?=some fn∧fn.body.isSome=true∧(fn.name== "runtime.NumGoroutine")=false)∧
 ∀F lim w (cargs:Array Value),cargs.size=args.length→(∀i,i<args.length→aF w lim (cargs.getD i undef) (args.getD i .aP) [])→bd F lim w 0 [] m oP []→
  Calls P f cargs w fun e w'=>∃v x lim' m' os,e= .returned v∧K x m'∧aF w' lim' v x os∧bd F lim' w' 0 [] m' oP os∧dc F w lim w' lim'
theorem bn.mono {P:Program} {f:FuncId} {args:List R} {m:ad} {K iD:R→ad→Prop} (h:bn P f args m K) (aj:∀x m',K x m'→iD x m'):bn P f args m iD:=
 ⟨h.1,fun F lim w cargs I J ai=>(h.2 F lim w cargs I J ai).mono fun e w' ⟨v,x,lim',m',os,he,U,r⟩=>⟨v,x,lim',m',os,he,aj _ _ U,r⟩⟩
section
variable {P:Program} {n:Nat} {Q:Exit→Fr→ad→Prop} {fr:Fr} {m:ad}
theorem b7.mono {c:Code} {ha:Exit→Fr→ad→Prop} (h:b7 P n c Q fr m) (aO:∀e fr m,Q e fr m→ha e fr m):b7 P n c ha fr m:=
 fun F lim w ca st=>wp_mono (h F lim w ca st) fun e a w ⟨lim',bb,m',q,r⟩=>⟨lim',bb,m',aO _ _ _ q,r⟩
theorem ni.from {F:Nat→Prop} {lim lim':Nat→Nat} {w w':World} (aB:dc F w lim w' lim') {e:Exit} {a:Act} {gG:World} (h:ni F lim' w' n Q e a gG):ni F lim w n Q e a gG:=by
 obtain ⟨l,f,m,q,st,dL⟩:=h
 exact ⟨l,f,m,q,st,aB.trans dL⟩
theorem jF (h:Q .normal fr m):b7 P n .skip Q fr m:=fun F lim w ca st=>wp_skip ⟨lim,fr,m,h,st, .refl _ _ _⟩
theorem hU (h:Q .ret fr m):b7 P n .ret Q fr m:=fun F lim w ca st=>wp_ret ⟨lim,fr,m,h,st, .refl _ _ _⟩
theorem Cj {id:Nat} (h:Q (.exit id) fr m):b7 P n (.exit id) Q fr m:=fun F lim w ca st=>wp_exit ⟨lim,fr,m,h,st, .refl _ _ _⟩
theorem GP {x y:Code} (h:b7 P n x (Cg (b7 P n y Q) Q) fr m):b7 P n (.seq x y) Q fr m:=fun F lim w ca st=>
 wp_seq (wp_mono (h F lim w ca st) fun e a w' ⟨lim',bb,m',q,fM,dL⟩=>by
  cases e with
  |normal=>exact wp_mono (q F lim' w' a fM) fun e a gG h=>h.from dL
  |_=>exact ⟨lim',bb,m',q,fM,dL⟩)
theorem rJ {x y:Code} (h:∀K:Fr→ad→Prop,(∀fr m,b7 P n y Q fr m→K fr m)→b7 P n x (Cg K Q) fr m):b7 P n (.seq x y) Q fr m:=
 GP (h _ fun _ _ h=>h)
theorem uH {id:Nat} {c:Code} (h:b7 P n c (Ch id Q) fr m):b7 P n (.block id c) Q fr m:=fun F lim w ca st=>
 wp_block (wp_mono (h F lim w ca st) fun e a w' ⟨lim',bb,m',q,fM,dL⟩=>by
  cases e with
  |exit Ci=>
   simp only [Exit.inBlock,Ch] at q ⊢
   split at q
   · rename_i h;rw [if_pos h];exact ⟨lim',bb,m',q,fM,dL⟩
   · rename_i h;rw [if_neg h];exact ⟨lim',bb,m',q,fM,dL⟩
  |_=>exact ⟨lim',bb,m',q,fM,dL⟩)
theorem uI {c:Operand} {x y:Code} {b:Bool} (ag:fq fr c= .bool b) (aj:kl c=true) (ao:b=true→b7 P n x Q fr m) (aW:b=false→b7 P n y Q fr m):b7 P n (.cond c x y) Q fr m:=fun F lim w ca st=>by
 obtain ⟨_,au,rfl⟩:=wP st aj
 rw [ag] at au
 exact wp_cond_split (qJ au) (fun h=>ao h F lim w ca st) (fun h=>aW h F lim w ca st)
theorem GQ {id:Nat} {ops:Array Oper} (ks:List Nat) (s6:(ks.all fun t=>decide (t<n))=true) (h:bQ P n ops ops.toList (fun fr m=>Q .normal (fr.keep ks) m) fr m):b7 P n (.region id ops false) Q fr m:=fun F lim w ca st=>
 wp_region_list (h F lim w ca _ st fun lim' w' bb m' dj q fM dL=>⟨lim',_,m',q,fM.keep (by simpa using s6),dL⟩)
theorem bQ.nil {ops:Array Oper} {K:Fr→ad→Prop} (h:K fr m):bQ P n ops [] K fr m:=fun F lim w ca Q st aO=>wpList_nil (aO lim w fr m ca h st (.refl _ _ _))
theorem bQ.from {ops:Array Oper} {l:List Oper} {K:Fr→ad→Prop} {bb:Fr} {m':ad} (h:bQ P n ops l K bb m') {F:Nat→Prop} {lim lim':Nat→Nat} {w w':World} {dj:Act} {Q:Exit→Act→World→Prop}
 (aO:∀lim' w' bb m' dj,K bb m'→bd F lim' w' n bb m' dj []→dc F w lim w' lim'→Q Exit.normal dj w') (st:bd F lim' w' n bb m' dj []) (dL:dc F w lim w' lim'):wpList P ops Q l dj w':=
 h F lim' w' dj Q st fun hC gG rK nj uJ aj fM rL=>aO hC gG rK nj uJ aj fM (dL.trans rL)
theorem bQ.step {ops:Array Oper} {o:Oper} {l:List Oper} {K:Fr→ad→Prop} (a8:o.guard=none)
 (h:∀F lim w ca,bd F lim w n fr m ca []→∀(next:Act→World→Prop) Q,(∀lim' w' bb m' dj,bQ P n ops l K bb m'→bd F lim' w' n bb m' dj []→dc F w lim w' lim'→next dj w')→o.wp P ca w next Q):bQ P n ops (o::l) K fr m:=
 fun F lim w ca Q st aO=>wpList_plain a8 fun next aL=>h F lim w ca st next Q fun _ _ _ _ _ au fM dL=>aL _ _ (au.from aO fM dL)
theorem nk {o:Oper} {ca:Act} {w w':World} {v:Value} {next:Act→World→Prop} {Q:Exit→Act→World→Prop} (h:(execOp ca.eval o).run P w= .ok (.value v) w') (aL:next (ca.put o.dst v) w'):o.wp P ca w next Q:=by
 unfold Oper.wp;rw [h];exact aL
theorem Ck {o:Oper} {ca:Act} {w w':World} {next:Act→World→Prop} {Q:Exit→Act→World→Prop} (h:(execOp ca.eval o).run P w= .ok .skip w') (aL:next (ca.put o.dst undef) w'):o.wp P ca w next Q:=by
 unfold Oper.wp;rw [h];exact aL
theorem iJ {o:Oper} {d:Nat} (h:eQ n o=true) (aY:o.dst=some d):d<n:=by
 simp [eQ,aY] at h;exact h.1
theorem hV {o:Oper} (h:eQ n o=true):∀y∈o.op.operands.toList,kl y=true:=by
 simp only [eQ,Bool.and_eq_true,List.all_eq_true] at h;exact h.2
theorem bd.uK {F:Nat→Prop} {lim:Nat→Nat} {w:World} {ca:Act} {bu:List Nat} (st:bd F lim w n fr m ca bu):∀b gu,m b=some gu→∃os,kk w lim b gu os:=by
 obtain ⟨os,b6,bA,h⟩:=st
 exact fun b gu ae=>⟨b6 b,(h.mem b gu ae).1⟩
theorem bQ.quiet {ops:Array Oper} {o:Oper} {l:List Oper} {K:Fr→ad→Prop} {d:Nat} {side:Prop} {x:R} (a8:o.guard=none) (aY:o.dst=some d) (aj:eQ n o=true)
 (h:bw P m (fq fr) o.op=some (side,x)) (al:side) (au:bQ P n ops l K (fr.put d x) m):bQ P n ops (o::l) K fr m:=by
 refine bQ.step a8 fun F lim w ca st next Q aL=>?_
 obtain ⟨v,I,J⟩:=wV (P:=P) (w:=w) (lim:=lim) h al (ca:=ca) (fun y aE=>by
  obtain ⟨_,au,rfl⟩:=wP st (hV aj y aE);exact au) st.uK
 exact nk I (aL lim w _ m _ au (by rw [aY];exact st.set (iJ aj aY) J) (.refl _ _ _))
end
end Go.bh
end
section
namespace Go.bh
open Go
def a1 (fr:Fr) (t:Nat):R:=(fr.get t).getD .aP
def fV (raw:Nat→R):Operand→R
 | .tmp t=>raw t
 | .const v=>kS v
 | .global g=> .ptr ⟨g,0,none⟩
 | .func f=> .func (.func f) [] []
def bx (raw:Nat→R):Operand→R
 | .tmp t=>(raw t).plain
 | .const v=>kS v
 | .global g=> .ptr ⟨g,0,none⟩
 | .func f=> .func (.func f) [] []
theorem wX (fr:Fr):bx (a1 fr)=fq fr:=by funext x;cases x<;>rfl
def Fr.strip (fr:Fr):List Nat→Fr
 |[]=>fr
 |s::r=>Fr.strip (fr.put s (a1 fr s).plain) r
def nZ:Operand→List Nat
 | .tmp t=>[t]
 |_=>[]
inductive jV where
 |stuck
 |val (side:Prop) (ss:List Nat) (m:ad) (x:R)
 |p7 (side:Prop) (ss:List Nat) (m:ad)
 |new (side:Prop) (ss:List Nat) (mk:Nat→R) (o:ed)
 |call (f:FuncId) (args:List R)
def nn (place:Nat→Option (Nat×Nat)) (cells:List R):List (Nat×R)→Option (List R)
 |[]=>some cells
 |(i,x)::r=>
  match place i with
  |none=>none
  |some (off,size)=>if x.cells.length=size∧off+size≤cells.length then nn place (cells.take off++x.cells++cells.drop (off+size)) r else none
def hG (P:Program) (t:TypeId):Option R:=
 match (P.info? t).bind (·.zero) with
 |some z=>if p5 z then some (kS z) else none
 |none=>none
def kp (P:Program) (t:TypeId):Bool:=
 match hG P t with
 |some z=>z.cells.length==P.cellsOf t
 |none=>false
def R.eg:R→Bool
 | .aP| .lazy _ _| .tuple _=>false
 |_=>true
def R.one:R→Bool
 | .aP| .lazy _ _| .tuple _| .agg _=>false
 |_=>true
def eo (P:Program) (m:ad) (raw:Nat→R) (st:List Nat) (d:Option Nat) (op:Op):jV:=
 match op with
 | .assign (.tmp s)=> .val True [s] m (raw s)
 | .move (.tmp s)=>if (d.map st.contains).getD false then .val True [s] m (raw s) else .val True [] m (raw s).plain
 | .extract (.tmp s) i=>
   match raw s with
   | .tuple l=>if (d.map st.contains).getD false then .val (i<l.length) [s] m (l.getD i .aP) else .val (i<l.length) [] m (l.getD i .aP).plain
   |_=> .stuck
 | .load t x=>
   if (d.map st.contains).getD false then
    match bx raw x with
    | .ptr ⟨b,off,none⟩=>
      match m b with
      |some (.cells l)=> .val (ef P t=true∧ld P t=false∧off<l.length) [] (m.bL b (some (.cells (l.set off (l.getD off .aP).plain)))) (l.getD off .aP)
      |_=> .stuck
    |_=> .stuck
   else
    match bw P m (bx raw) (.load t x) with
    |some (side,v)=> .val side [] m v
    |none=> .stuck
 | .store t a x=>
   match bx raw a with
   | .ptr ⟨b,off,none⟩=>
     match m b with
     |some (.cells l)=> .p7 ((fV raw x).eg=true∧((fV raw x).cells.all R.one)=true∧(fV raw x).cells.length=P.cellsOf t∧ef P t=true∧off+P.cellsOf t≤l.length) (nZ x) (m.bL b (some (.cells (l.take off++(fV raw x).cells++l.drop (off+P.cellsOf t)))))
     |_=> .stuck
   |_=> .stuck
 | .box _ x=> .new ((bx raw x).eg=true) [] (fun b=> .ptr ⟨b,0,none⟩) (.cells (bx raw x).cells)
 | .alloc t=>
   match hG P t with
   |some z=> .new (z.eg=true) [] (fun b=> .ptr ⟨b,0,none⟩) (.cells z.cells)
   |none=> .stuck
 | .makeSlice t n c=>
   match P.underlying t,bx raw n,bx raw c with
   |some (.slice e), .int .i64 k, .int .i64 dU=>
    match hG P e with
    |some z=> .new (z.eg=true∧ef P e=true∧z.cells.length=P.cellsOf e∧0<P.cellsOf e∧k=dU∧0≤k∧k*P.bytesOf e≤140737488355328∧k≤140737488355328) [] (fun b=> .ms ⟨b,0,none⟩ k.toNat k.toNat) (.cells (List.replicate k.toNat z.cells).flatten)
    |none=> .stuck
   |_,_,_=> .stuck
 | .makeMap t r=>
   match P.underlying t,r.map (bx raw) with
   |some (.map _ _),none=> .new True [] (fun b=> .map b) (.map [])
   |some (.map _ _),some (.int _ _)=> .new True [] (fun b=> .map b) (.map [])
   |_,_=> .stuck
 | .build t parts=>
   if (d.map st.contains).getD false then .stuck else
   match P.underlying t,hG P t with
   |some (.struct cA),some z=>
    match nn (fun i=>(cA[i]?).map fun f=>(f.offset,P.cellsOf f.type)) z.cells (parts.toList.map fun p=>(p.1,bx raw p.2)) with
    |some cells=> .val (z.eg=true∧(∀f∈cA.toList,ef P f.type=true)∧∀p∈parts.toList,(bx raw p.2).eg=true) [] m (.agg cells)
    |none=> .stuck
   |_,_=> .stuck
 | .buildSlice t len parts=>
   if (d.map st.contains).getD false then .stuck else
   match P.underlying t with
   |some (.slice e)=>
    .val (ef P e=true∧0<P.cellsOf e∧kp P e=true∧len*P.cellsOf e≤16777216∧parts.toList.map (·.1)=List.range len∧∀p∈parts.toList,(bx raw p.2).eg=true∧(bx raw p.2).cells.length=P.cellsOf e) [] m
      (.slice true (parts.toList.map fun p=>bx raw p.2))
   |_=> .stuck
 | .call ⟨.builtin .append,args,bC⟩=>
   match args.toList,bC.toList with
   |[.tmp s,y],[t,u]=>
    match P.underlying t,P.underlying u,raw s,bx raw y with
    |some (.slice e),some (.slice _), .slice true l, .slice _ l'=>
     .val (t=u∧ef P e=true∧0<P.cellsOf e∧kp P e=true∧(l.length+l'.length)*P.bytesOf e≤140737488355328∧l.length+l'.length≤140737488355328∧(∀x∈l,x.cells.length=P.cellsOf e)∧∀x∈l',x.cells.length=P.cellsOf e∧x.cells.all R.one=true) [s] m
       (.slice true (l++l'))
    |_,_,_,_=> .stuck
   |[.const (.slice none 0 0),y],[t,u]=>
    match P.underlying t,P.underlying u,bx raw y with
    |some (.slice e),some (.slice _), .slice _ l'=>
     .val (t=u∧ef P e=true∧0<P.cellsOf e∧kp P e=true∧l'.length*P.bytesOf e≤140737488355328∧∀x∈l',x.cells.length=P.cellsOf e∧x.cells.all R.one=true) [] m
       (.slice true l')
    |_,_,_=> .stuck
   |_,_=> .stuck
 | .call ⟨.value (.func f),args,_⟩=> .call f (args.toList.map (bx raw))
 | .call ⟨.value (.tmp t),args,_⟩=>
   match raw t with
   | .func (.func f) first n0=> .call f (first++args.toList.map (bx raw)++n0)
   |_=> .stuck
 |op=>
  match bw P m (bx raw) op with
  |some (side,x)=> .val side [] m x
  |none=> .stuck
def uL (P:Program) (f:FuncId) (args:List R) (m:ad) (x:R):Prop:=∀K:R→ad→Prop,K x m→bn P f args m K
def zn (K:Fr→ad→Prop) (d:Option Nat) (fr:Fr):R→ad→Prop:=fun x m=>
 match d with
 |some d=>K (fr.put d x) m
 |none=>K fr m
def dR (fr:Fr) (d:Option Nat) (x:R):Fr:=
 match d with
 |some d=>fr.put d x
 |none=>fr
def zo (g:Bool):R→R
 | .lazy h x=> .lazy (!g||h) x
 |x=>x
def OP:Op→Bool
 | .pick _ _ _=>true
 |_=>false
def rM (raw:Nat→R) (g:Bool) (op:Op) (y:Operand):R:=if OP op then zo g (bx raw y) else un (zo g (bx raw y))
def uM:R→Bool→Option Bool
 | .bool c,true=>some c
 | .bool c,false=>some (!c)
 | .lazy h (.bool c),true=>some (h&&c)
 | .lazy h (.bool c),false=>some (h&&!c)
 |_,_=>none
def oQ (P:Program) (ops:Array Oper) (st:List Nat) (o:Oper) (K:Fr→ad→Prop) (fr:Fr) (m:ad):Prop:=
 match o.guard with
 |none=>
  match eo P m (a1 fr) st o.dst o.op with
  | .val side ss m' x=>side∧K (dR (fr.strip ss) o.dst x) m'
  | .p7 side ss m'=>side∧K (dR (fr.strip ss) o.dst .aP) m'
  | .new side ss mk gu=>side∧∀b,m b=none→K (dR (fr.strip ss) o.dst (mk b)) (m.bL b (some gu))
  | .call f args=>bn P f args m (zn K o.dst fr)
  | .stuck=>False
 |some (j,b)=>
  match (ops[j]?).bind (·.dst),o.dst with
  |some g,some d=>
   match uM (a1 fr g) b with
   |some z=>
    match o.op with
    | .call ⟨.value (.func f),args,_⟩=>
      ∃x,(z=true→uL P f (args.toList.map (rM (a1 fr) z o.op)) m x)∧K (fr.put d (.lazy z x.plain)) m
    | .call ⟨.value (.tmp t),args,_⟩=>
      match rM (a1 fr) z o.op (.tmp t) with
      | .func (.func f) first n0=>∃x,(z=true→uL P f (first++args.toList.map (rM (a1 fr) z o.op)++n0) m x)∧K (fr.put d (.lazy z x.plain)) m
      |_=>False
    |op=>
     match bw P m (rM (a1 fr) z op) op with
     |some (side,x)=>(z=true→side)∧K (fr.put d (.lazy z x)) m
     |none=>False
   |none=>False
  |_,_=>False
end Go.bh
end
