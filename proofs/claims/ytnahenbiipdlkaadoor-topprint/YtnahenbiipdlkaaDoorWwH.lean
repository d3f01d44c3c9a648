/-
  The abstract layer, part 1: abstract values (trees), how a Go value in a world reads as one, and what keeps that reading. No program in sight.
-/
import Derived.WalkKit
section
namespace Go.bb
open Go
inductive aa where
 |bool (b:Bool)
 |int (k:IntKind) (n:Int)
 |str (s:List UInt8)
 |ptr (a:Addr)
 |eK
 |ref (l:List aa)
 |slice (own:Bool) (l:List aa)
 |ms (a:Addr) (len cap:Nat)
 |map (b:Nat)
 |iq
 |func (fn:Fn) (first captured:List aa)
 |jg
 |eR
 |iface (t:TypeId) (v:aa)
 |nilIface
 |err (t:TypeId) (e:Int)
 |opt (b:Bool)
 |agg (l:List aa)
 |tuple (l:List aa)
 |lazy (g:Bool) (v:aa)
 |aP
instance:Inhabited aa:=⟨.aP⟩
def aa.cells:aa→List aa
 | .agg l=>l
 |x=>[x]
mutual
def aa.plain:aa→aa
 | .slice _ l=> .slice false l
 | .agg l=> .agg (aa.ey l)
 | .tuple l=> .tuple (aa.ey l)
 | .lazy g x=> .lazy g x.plain
 | .bool b=> .bool b
 | .int k n=> .int k n
 | .str s=> .str s
 | .ptr a=> .ptr a
 | .eK=> .eK
 | .ref l=> .ref l
 | .ms a n c=> .ms a n c
 | .map b=> .map b
 | .iq=> .iq
 | .func f a b=> .func f a b
 | .jg=> .jg
 | .eR=> .eR
 | .iface t v=> .iface t v
 | .nilIface=> .nilIface
 | .err t e=> .err t e
 | .opt b=> .opt b
 | .aP=> .aP
def aa.ey:List aa→List aa
 |[]=>[]
 |x::r=>x.plain::aa.ey r
end
theorem aa.hE (l:List aa):aa.ey l=l.map aa.plain:=by
 induction l with
 |nil=>rfl
 |cons x r aO=>simp [aa.ey,aO]
theorem mg (l:List aa) (i:Nat):(aa.ey l).getD i .aP=(l.getD i .aP).plain:=by
 rw [aa.hE]
 simp only [List.getD_eq_getElem?_getD,List.getElem?_map]
 cases l[i]?<;>simp [aa.plain]
inductive aF (w:World) (lim:Nat→Nat):Value→aa→List Nat→Prop
 |bool (b:Bool):aF w lim (.bool b) (.bool b) []
 |int (k:IntKind) (n:Int) (bh:k.min≤n) (ab:n≤k.max):aF w lim (.int k n) (.int k n) []
 |str (s:ByteArray) (h:s.size≤140737488355328):aF w lim (.string s) (.str s.data.toList) []
 |ptr (a:Addr):aF w lim (.pointer (some a)) (.ptr a) []
 |eK:aF w lim (.pointer none) .eK []
 |ref (b off:Nat) (l:List aa) (cv:Nat→Value) (av:off+l.length≤lim b) (ah:∀i,i<l.length→w.cell? ⟨b,off+i,none⟩=some (cv i))
   (aw:∀i,i<l.length→aF w lim (cv i) (l.getD i .aP) []):aF w lim (.pointer (some ⟨b,off,none⟩)) (.ref l) []
 |eR (own:Bool):aF w lim (.slice none 0 0) (.slice own []) []
 |empty (a:Addr) (cap:Nat) (hm:cap≤maxLen):aF w lim (.slice (some a) 0 cap) (.slice false []) []
 |slice (b off n cap sz:Nat) (l:List aa) (cv:Nat→Nat→Value) (aJ:l.length=n) (et:n≤cap) (hm:cap≤maxLen) (cF:n≤140737488355328)
   (b5:∀i,i<n→(l.getD i .aP).cells.length=sz) (eL:off+n*sz≤lim b)
   (ah:∀i j,i<n→j<sz→w.cell? ⟨b,off+i*sz+j,none⟩=some (cv i j))
   (aw:∀i j,i<n→j<sz→aF w lim (cv i j) ((l.getD i .aP).cells.getD j .aP) []):aF w lim (.slice (some ⟨b,off,none⟩) n cap) (.slice false l) []
 |own (b n cap sz:Nat) (l:List aa) (cv:Nat→Nat→Value) (cur:Array Value) (e:TypeId) (aJ:l.length=n) (et:n≤cap) (hm:cap≤maxLen) (cF:n≤140737488355328)
   (aA:0<n∨cap=0) (ag:w.heap[b]?=some (.cells cur e (0,0))) (jK:cur.size=cap*sz)
   (b5:∀i,i<n→(l.getD i .aP).cells.length=sz) (eL:n*sz=lim b)
   (ah:∀i j,i<n→j<sz→w.cell? ⟨b,i*sz+j,none⟩=some (cv i j))
   (aw:∀i j,i<n→j<sz→aF w lim (cv i j) ((l.getD i .aP).cells.getD j .aP) []):aF w lim (.slice (some ⟨b,0,none⟩) n cap) (.slice true l) [b]
 |ms (a:Addr) (len cap:Nat) (h:len≤cap) (hm:cap≤maxLen):aF w lim (.slice (some a) len cap) (.ms a len cap) []
 |map (b:Nat):aF w lim (.map (some b)) (.map b) []
 |iq:aF w lim (.map none) .iq []
 |func (fn:Fn) (f c:Array Value) (bn eW:List aa) (aM:f.size=bn.length) (ah:c.size=eW.length) (sY:∀i,i<bn.length→aF w lim (f.getD i undef) (bn.getD i .aP) [])
   (sZ:∀i,i<eW.length→aF w lim (c.getD i undef) (eW.getD i .aP) []):aF w lim (.func fn f c) (.func fn bn eW) []
 |jg:aF w lim .nilFunc .jg []
 |mQ (a:Option Addr):aF w lim (.slice a 0 0) .eR []
 |iface (t:TypeId) (v:Value) (x:aa) (h:aF w lim v x []):aF w lim (.iface t v) (.iface t x) []
 |nilIface:aF w lim .nilIface .nilIface []
 |k1 (t:TypeId):aF w lim .nilIface (.err t 0) []
 |ir (t:TypeId) (e:Int) (h:e≠0) (bh:IntKind.i64.min≤e) (ab:e≤IntKind.i64.max):aF w lim (.iface t (.int .i64 e)) (.err t e) []
 |mR:aF w lim .nilIface (.opt false) []
 |mS (t:TypeId) (v:Value):aF w lim (.iface t v) (.opt true) []
 |agg (cs:Array Value) (xs:List aa) (os:Nat→List Nat) (h:cs.size=xs.length) (aw:∀i,i<xs.length→aF w lim (cs.getD i undef) (xs.getD i .aP) (os i)):
   aF w lim (.agg cs) (.agg xs) ((List.range xs.length).flatMap os)
 |tuple (cs:Array Value) (xs:List aa) (os:Nat→List Nat) (h:cs.size=xs.length) (aw:∀i,i<xs.length→aF w lim (cs.getD i undef) (xs.getD i .aP) (os i)):
   aF w lim (.tuple cs) (.tuple xs) ((List.range xs.length).flatMap os)
 |mT (v:Value) (x:aa) (os:List Nat) (h:aF w lim v x os):aF w lim v (.lazy true x) os
 |k2 (x:aa):aF w lim undef (.lazy false x) []
 |aP (v:Value):aF w lim v .aP []
section
variable {w w':World} {lim lim':Nat→Nat} {v:Value} {x:aa} {os:List Nat}
theorem aF.fX (h:aF w lim v x os) (av:∀b,lim b≤lim' b) (ah:∀b o,o<lim b→w'.cell? ⟨b,o,none⟩=w.cell? ⟨b,o,none⟩)
 (aD:∀c∈os,w'.heap[c]?=w.heap[c]?∧lim' c=lim c):aF w' lim' v x os:=by
 induction h with
 |bool b=>exact .bool b
 |int k n bh ab=>exact .int k n bh ab
 |str s h=>exact .str s h
 |ptr a=>exact .ptr a
 |eK=>exact .eK
 |ref b off l cv lD jh aw aO=>
  exact .ref b off l cv (Nat.le_trans lD (av b)) (fun i ab=>by rw [ah b (off+i) (by omega)];exact jh i ab) (fun i ab=>aO i ab (by simp))
 |eR own=>exact .eR own
 |empty a cap hm=>exact .empty a cap hm
 |slice b off n cap sz l cv aJ et hm cF b5 eL jh aw aO=>
  refine .slice b off n cap sz l cv aJ et hm cF b5 (Nat.le_trans eL (av b)) (fun i j ab aG=>?_) (fun i j ab aG=>aO i j ab aG (by simp))
  rw [ah b _ ?_]
  · exact jh i j ab aG
  · have:i*sz+sz≤n*sz:=by rw [←Nat.succ_mul];exact Nat.mul_le_mul_right _ ab
    omega
 |own b n cap sz l cv cur e aJ et hm cF aA ag jK b5 eL jh aw aO=>
  have BW:=aD b (by simp)
  refine .own b n cap sz l cv cur e aJ et hm cF aA (BW.1.trans ag) jK b5 (eL.trans BW.2.symm) (fun i j ab aG=>?_) (fun i j ab aG=>aO i j ab aG (by simp))
  rw [ah b _ ?_]
  · exact jh i j ab aG
  · have:i*sz+sz≤n*sz:=by rw [←Nat.succ_mul];exact Nat.mul_le_mul_right _ ab
    omega
 |ms a len cap h hm=>exact .ms a len cap h hm
 |map b=>exact .map b
 |iq=>exact .iq
 |func fn f c bn eW aM jh sY sZ BX BY=>exact .func fn f c bn eW aM jh (fun i ab=>BX i ab (by simp)) (fun i ab=>BY i ab (by simp))
 |jg=>exact .jg
 |mQ a=>exact .mQ a
 |iface t v x h aO=>exact .iface t v x (aO (by simp))
 |nilIface=>exact .nilIface
 |k1 t=>exact .k1 t
 |ir t e h bh ab=>exact .ir t e h bh ab
 |mR=>exact .mR
 |mS t v=>exact .mS t v
 |agg cs xs os h aw aO=>exact .agg cs xs os h (fun i ab=>aO i ab (fun c ah=>aD c (List.mem_flatMap.2 ⟨i,by simpa using ab,ah⟩)))
 |tuple cs xs os h aw aO=>exact .tuple cs xs os h (fun i ab=>aO i ab (fun c ah=>aD c (List.mem_flatMap.2 ⟨i,by simpa using ab,ah⟩)))
 |mT v x os h aO=>exact .mT v x os (aO aD)
 |k2 x=>exact .k2 x
 |aP v=>exact .aP v
theorem flatMap_nil (n:Nat):(List.range n).flatMap (fun _=>([]:List Nat))=[]:=by
 induction n<;>simp_all
theorem aF.plain (h:aF w lim v x os):aF w lim v x.plain []:=by
 induction h with
 |bool b=>exact .bool b
 |int k n bh ab=>exact .int k n bh ab
 |str s h=>exact .str s h
 |ptr a=>exact .ptr a
 |eK=>exact .eK
 |ref b off l cv av ah aw aO=>exact .ref b off l cv av ah aw
 |eR own=>exact .eR false
 |empty a cap hm=>exact .empty a cap hm
 |slice b off n cap sz l cv aJ et hm cF b5 eL ah aw aO=>exact .slice b off n cap sz l cv aJ et hm cF b5 eL ah aw
 |own b n cap sz l cv cur e aJ et hm cF aA ag jK b5 eL ah aw aO=>exact .slice b 0 n cap sz l cv aJ et hm cF b5 (by omega) (fun i j ab aG=>by simpa using ah i j ab aG) aw
 |ms a len cap h hm=>exact .ms a len cap h hm
 |map b=>exact .map b
 |iq=>exact .iq
 |func fn f c bn eW aM ah sY sZ BX BY=>exact .func fn f c bn eW aM ah sY sZ
 |jg=>exact .jg
 |mQ a=>exact .mQ a
 |iface t v x h aO=>exact .iface t v x h
 |nilIface=>exact .nilIface
 |k1 t=>exact .k1 t
 |ir t e h bh ab=>exact .ir t e h bh ab
 |mR=>exact .mR
 |mS t v=>exact .mS t v
 |agg cs xs os h aw aO=>
  have:=aF.agg (w:=w) (lim:=lim) cs (aa.ey xs) (fun _=>[]) (by simp [aa.hE,h]) (fun i ab=>by rw [mg];exact aO i (by simpa [aa.hE] using ab))
  rw [flatMap_nil] at this
  exact this
 |tuple cs xs os h aw aO=>
  have:=aF.tuple (w:=w) (lim:=lim) cs (aa.ey xs) (fun _=>[]) (by simp [aa.hE,h]) (fun i ab=>by rw [mg];exact aO i (by simpa [aa.hE] using ab))
  rw [flatMap_nil] at this
  exact this
 |mT v x os h aO=>exact .mT v _ _ aO
 |k2 x=>exact .k2 _
 |aP v=>exact .aP v
theorem aF.BZ (h:aF w lim v x os):∀c∈os,c<w.heap.size:=by
 induction h with
 |own b n cap sz l cv cur e aJ et hm cF aA ag jK b5 eL ah aw aO=>
  intro c ah
  simp only [List.mem_singleton] at ah
  subst ah
  exact (Array.getElem?_eq_some_iff.1 ag).1
 |agg cs xs os h aw aO=>
  intro c ah
  obtain ⟨i,ab,ah⟩:=List.mem_flatMap.1 ah
  exact aO i (by simpa using ab) c ah
 |tuple cs xs os h aw aO=>
  intro c ah
  obtain ⟨i,ab,ah⟩:=List.mem_flatMap.1 ah
  exact aO i (by simpa using ab) c ah
 |mT v x os h aO=>exact aO
 |_=>intro c ah;cases ah
end
end Go.bb
end
section
namespace Go.bb
open Go
abbrev Fr:=List (Nat×aa)
def Fr.get:Fr→Nat→Option aa
 |[],_=>none
 |(s,x)::r,t=>if s=t then some x else Fr.get r t
def Fr.put (fr:Fr) (t:Nat) (x:aa):Fr:=(t,x)::fr
theorem Fr.oo (fr:Fr) (t s:Nat) (x:aa):(fr.put t x).get s=if t=s then some x else fr.get s:=rfl
def Fr.keep (ks:List Nat) (fr:Fr):Fr:=ks.map fun t=>(t,(fr.get t).getD .aP)
inductive e2 where
 |cells (l:List aa)
 |map (l:List (aa×aa))
 |iter (r:Nat) (l:List (aa×aa)) (seen:List Nat)
 |bx (e eb:TypeId) (l:List aa)
 |lE (e:TypeId) (z:Nat×Nat) (cs:Array Value)
abbrev ae:=Nat→Option e2
def ae.bX (m:ae) (b:Nat) (o:Option e2):ae:=fun c=>if c=b then o else m c
inductive Place where
 |none
 |slot (t:Nat)
 |nD (b i:Nat)
 |ka
 deriving DecidableEq
inductive jB (w:World) (lim:Nat→Nat) (b:Nat):e2→(Nat→List Nat)→Prop
 |cells (cs:Array Value) (e:TypeId) (l:List aa) (os:Nat→List Nat) (ag:w.heap[b]?=some (.cells cs e (0,0))) (aj:cs.size=l.length)
   (aw:∀i,i<l.length→aF w lim (cs.getD i undef) (l.getD i .aP) (os i)):jB w lim b (.cells l) os
 |map (es:Array MapEntry) (clock:Nat) (l:List (aa×aa)) (ag:w.heap[b]?=some (.map es clock)) (aj:es.size=l.length) (cF:l.length≤140737488355328)
   (ai:∀i,i<l.length→aF w lim (es.getD i default).key (l.getD i (.aP, .aP)).1 []) (ba:∀i,i<l.length→aF w lim (es.getD i default).val (l.getD i (.aP, .aP)).2 [])
   (oq:∀i j,i<j→j<l.length→(es.getD i default).born<(es.getD j default).born) (nE:∀i,i<l.length→(es.getD i default).born<clock) (os:Nat→List Nat):jB w lim b (.map l) os
 |iter (es:Array MapEntry) (clock r:Nat) (l:List (aa×aa)) (seen:List Nat) (ag:w.heap[b]?=some (.map es clock)) (aj:es.size=l.length) (cF:l.length≤140737488355328)
   (ai:∀i,i<l.length→aF w lim (es.getD i default).key (l.getD i (.aP, .aP)).1 []) (ba:∀i,i<l.length→aF w lim (es.getD i default).val (l.getD i (.aP, .aP)).2 [])
   (oq:∀i j,i<j→j<l.length→(es.getD i default).born<(es.getD j default).born) (nE:∀i,i<l.length→(es.getD i default).born<clock)
   (aw:w.heap[r]?=some (.mapIter (some b) clock (seen.map fun i=>(es.getD i default).born).toArray clock)) (rn:∀i∈seen,i<l.length) (os:Nat→List Nat) (iN:r∈os 0):jB w lim b (.iter r l seen) os
 |bx (p v:Value) (e eb:TypeId) (l:List aa) (os:Nat→List Nat) (ag:w.heap[b]?=some (.cells #[p,v] e (0,0))) (aB:p= .pointer none∨p= .pointer (some ⟨b,0,none⟩)) (aw:aF w lim v (.slice true l) (os 1))
   (a8:v= .slice none 0 0∨∃g n c cur,v= .slice (some ⟨g,0,none⟩) n c∧g∈os 1∧l≠[]∧w.heap[g]?=some (.cells cur eb (0,0))):jB w lim b (.bx e eb l) os
 |lE (e:TypeId) (z:Nat×Nat) (cs:Array Value) (os:Nat→List Nat) (ag:w.heap[b]?=some (.cells cs e z)):jB w lim b (.lE e z cs) os
structure ot (F:Nat→Prop) (lim:Nat→Nat) (w:World) (n:Nat) (fr:Fr) (m:ae) (ca:Act) (bn:List Nat) (os:Nat→List Nat) (b3:Nat→Nat→List Nat) (bu:Nat→Place):Prop where
 size:ca.tmps.size=n
 defers:ca.defers=[]
 dv:∀t x,fr.get t=some x→t<n∧aF w lim (ca.tmps.getD t undef) x (os t)
 mem:∀b o,m b=some o→jB w lim b o (b3 b)∧lim b=0∧¬F b
 ea:∀t x,fr.get t=some x→(os t).Nodup∧∀c∈os t,bu c= .slot t
 dn:∀b o,m b=some o→∀i,(b3 b i).Nodup∧∀c∈b3 b i,bu c= .nD b i
 fs:bn.Nodup∧∀c∈bn,bu c= .ka
 free:∀c,bu c≠ .none→¬F c∧m c=none∧c<w.heap.size
 fresh:∀b,w.heap.size≤b→lim b=0∧¬F b∧m b=none
def aV (F:Nat→Prop) (lim:Nat→Nat) (w:World) (n:Nat) (fr:Fr) (m:ae) (ca:Act) (bn:List Nat):Prop:=
 ∃os b3 bu,ot F lim w n fr m ca bn os b3 bu
structure cU (F:Nat→Prop) (w:World) (lim:Nat→Nat) (w':World) (lim':Nat→Nat):Prop where
 os:w'.os=w.os
 tape:w'.tape=w.tape
 output:w'.output=w.output
 size:w.heap.size≤w'.heap.size
 res:∀b,F b→w'.heap[b]?=w.heap[b]?∧lim' b=lim b
 mono:∀b,lim b≤lim' b
 cell:∀b o,o<lim b→w'.cell? ⟨b,o,none⟩=w.cell? ⟨b,o,none⟩
theorem cU.refl (F:Nat→Prop) (w:World) (lim:Nat→Nat):cU F w lim w lim:=⟨rfl,rfl,rfl,Nat.le_refl _,fun _ _=>⟨rfl,rfl⟩,fun _=>Nat.le_refl _,fun _ _ _=>rfl⟩
theorem cU.trans {F:Nat→Prop} {w w' hF:World} {lim lim' ji:Nat→Nat} (h:cU F w lim w' lim') (k:cU F w' lim' hF ji):cU F w lim hF ji:=
 ⟨k.os.trans h.os,k.tape.trans h.tape,k.output.trans h.output,Nat.le_trans h.size k.size,
  fun b ag=>⟨(k.res b ag).1.trans (h.res b ag).1,(k.res b ag).2.trans (h.res b ag).2⟩,fun b=>Nat.le_trans (h.mono b) (k.mono b),
  fun b o aD=>(k.cell b o (Nat.lt_of_lt_of_le aD (h.mono b))).trans (h.cell b o aD)⟩
theorem cU.weaken {F mh:Nat→Prop} {w w':World} {lim lim':Nat→Nat} (h:cU mh w lim w' lim') (dB:∀b,F b→mh b):cU F w lim w' lim':=
 ⟨h.os,h.tape,h.output,h.size,fun b ag=>h.res b (dB b ag),h.mono,h.cell⟩
theorem cU.drew (F:Nat→Prop) (w:World) (lim:Nat→Nat):cU F w lim w.drew lim:=⟨rfl,rfl,rfl,Nat.le_refl _,fun _ _=>⟨rfl,rfl⟩,fun _=>Nat.le_refl _,fun _ _ _=>rfl⟩
theorem mU (w:World) (o:Obj):(w.alloc o).heap[w.heap.size]?=some o:=by
 show (w.heap.push o)[w.heap.size]?=some o
 simp
theorem kb (w:World) (o:Obj) (i:Nat) (h:i<w.heap.size):(w.alloc o).heap[i]?=w.heap[i]?:=by
 show (w.heap.push o)[i]?=w.heap[i]?
 rw [Array.getElem?_push,if_neg (Nat.ne_of_lt h)]
section
variable {F:Nat→Prop} {lim lim':Nat→Nat} {w w':World} {n:Nat} {fr:Fr} {m:ae} {ca:Act} {bn:List Nat}
theorem jB.fX {b:Nat} {o:e2} {os:Nat→List Nat} (h:jB w lim b o os) (ag:w'.heap[b]?=w.heap[b]?) (av:∀b,lim b≤lim' b)
 (ah:∀b o,o<lim b→w'.cell? ⟨b,o,none⟩=w.cell? ⟨b,o,none⟩) (aD:∀i,∀c∈os i,w'.heap[c]?=w.heap[c]?∧lim' c=lim c):jB w' lim' b o os:=by
 cases h with
 |cells cs e l os e9 aj aw=>
  exact .cells cs e l os (ag.trans e9) aj (fun i ab=>(aw i ab).fX av ah (aD i))
 |map es clock l e9 aj cF ai ba I J _=>
  exact .map es clock l (ag.trans e9) aj cF (fun i ab=>(ai i ab).fX av ah (by simp)) (fun i ab=>(ba i ab).fX av ah (by simp)) I J os
 |iter es clock r l seen e9 aj cF ai ba I J aw rn _ iN=>
  exact .iter es clock r l seen (ag.trans e9) aj cF (fun i ab=>(ai i ab).fX av ah (by simp)) (fun i ab=>(ba i ab).fX av ah (by simp)) I J ((aD 0 r iN).1.trans aw) rn os iN
 |bx p v e eb l os e9 aB aw a8=>
  exact .bx p v e eb l os (ag.trans e9) aB (aw.fX av ah (aD 1)) (by
   rcases a8 with a8|⟨g,n,c,cur,I,J,ak,aH⟩
   · exact .inl a8
   · exact .inr ⟨g,n,c,cur,I,J,ak,(aD 1 g J).1.trans aH⟩)
 |lE e z cs os e9=>exact .lE e z cs _ (ag.trans e9)
theorem aV.world (h:aV F lim w n fr m ca bn) (b5:w.heap.size≤w'.heap.size) (av:∀b,lim b≤lim' b) (ah:∀b o,o<lim b→w'.cell? ⟨b,o,none⟩=w.cell? ⟨b,o,none⟩)
 (HZ:∀c,c<w.heap.size→(¬F c∧m c=none→False)∨(w'.heap[c]?=w.heap[c]?∧lim' c=lim c)) (hm:∀b,m b≠none→w'.heap[b]?=w.heap[b]?∧lim' b=lim b)
 (xQ:∀b,w'.heap.size≤b→lim' b=0):aV F lim' w' n fr m ca bn:=by
 obtain ⟨os,b3,bu,h⟩:=h
 have iO:∀c,bu c≠ .none→w'.heap[c]?=w.heap[c]?∧lim' c=lim c:=fun c ou=>by
  have aM:=h.free c ou
  rcases HZ c aM.2.2 with ai|ai
  · exact (ai ⟨aM.1,aM.2.1⟩).elim
  · exact ai
 refine ⟨os,b3,bu,h.size,h.defers,fun t x ao=>⟨(h.dv t x ao).1,(h.dv t x ao).2.fX av ah (fun c lF=>iO c (by rw [(h.ea t x ao).2 c lF];simp))⟩,fun b o ag=>?_,h.ea,h.dn,h.fs,
  fun c ou=>⟨(h.free c ou).1,(h.free c ou).2.1,Nat.lt_of_lt_of_le (h.free c ou).2.2 b5⟩,fun b ag=>⟨xQ b ag,(h.fresh b (Nat.le_trans b5 ag)).2⟩⟩
 have k3:=hm b (by rw [ag];simp)
 exact ⟨(h.mem b o ag).1.fX k3.1 av ah (fun i c lF=>iO c (by rw [(h.dn b o ag i).2 c lF];simp)),k3.2.trans (h.mem b o ag).2.1,(h.mem b o ag).2.2⟩
theorem aV.heap (h:aV F lim w n fr m ca bn) (aL:w'.heap=w.heap):aV F lim w' n fr m ca bn:=by
 have hR:∀b o,w'.cell? ⟨b,o,none⟩=w.cell? ⟨b,o,none⟩:=fun b o=>by simp [World.cell?,aL]
 refine h.world (by rw [aL];exact Nat.le_refl _) (fun _=>Nat.le_refl _) (fun b o _=>hR b o) (fun c _=> .inr ⟨by rw [aL],rfl⟩) (fun b _=>⟨by rw [aL],rfl⟩) (fun b ag=>?_)
 obtain ⟨os,b3,bu,h⟩:=h
 exact (h.fresh b (by rw [←aL];exact ag)).1
theorem B0 (w:World) (o:Obj) {b:Nat} (ag:b<w.heap.size) (i:Nat):(w.alloc o).cell? ⟨b,i,none⟩=w.cell? ⟨b,i,none⟩:=
 World.cell?_alloc_lt w o ⟨b,i,none⟩ ag
theorem aV.pg (h:aV F lim w n fr m ca bn) {b o:Nat} (aD:o<lim b):b<w.heap.size:=by
 obtain ⟨os,b3,bu,h⟩:=h
 rcases Nat.lt_or_ge b w.heap.size with ag|ag
 · exact ag
 · have:=(h.fresh b ag).1;omega
theorem aV.ov (h:aV F lim w n fr m ca bn) {b:Nat} (ag:F b):b<w.heap.size:=by
 obtain ⟨os,b3,bu,h⟩:=h
 rcases Nat.lt_or_ge b w.heap.size with e9|e9
 · exact e9
 · exact ((h.fresh b e9).2.1 ag).elim
theorem aV.ow (h:aV F lim w n fr m ca bn) {b:Nat} (ag:m b≠none):b<w.heap.size:=by
 obtain ⟨os,b3,bu,h⟩:=h
 rcases Nat.lt_or_ge b w.heap.size with e9|e9
 · exact e9
 · exact (ag (h.fresh b e9).2.2).elim
theorem aV.ph (h:aV F lim w n fr m ca bn):lim w.heap.size=0:=by
 obtain ⟨os,b3,bu,h⟩:=h
 exact (h.fresh _ (Nat.le_refl _)).1
theorem aV.alloc (h:aV F lim w n fr m ca bn) (o:Obj) (k:Nat):aV F (fun b=>if b=w.heap.size then k else lim b) (w.alloc o) n fr m ca bn:=by
 have au:=h.ph
 refine h.world (by simp) (fun b=>?_) (fun b i ab=>B0 w o (h.pg ab) i) (fun c ah=> .inr ⟨kb w o c ah,by rw [if_neg (by omega)]⟩)
  (fun b ag=>⟨kb w o b (h.ow ag),by rw [if_neg (Nat.ne_of_lt (h.ow ag))]⟩) (fun b ag=>?_)
 · by_cases ag:b=w.heap.size
   · subst ag;rw [au];exact Nat.zero_le _
   · rw [if_neg ag];exact Nat.le_refl _
 · simp at ag
   rw [if_neg (by omega)]
   obtain ⟨os,b3,bu,h⟩:=h
   exact (h.fresh b (by omega)).1
theorem cU.alloc (h:aV F lim w n fr m ca bn) (o:Obj) (k:Nat):cU F w lim (w.alloc o) (fun b=>if b=w.heap.size then k else lim b):=by
 have au:=h.ph
 refine ⟨rfl,rfl,rfl,by simp,fun b ag=>⟨kb w o b (h.ov ag),by rw [if_neg (Nat.ne_of_lt (h.ov ag))]⟩,fun b=>?_,fun b i ab=>B0 w o (h.pg ab) i⟩
 by_cases ag:b=w.heap.size
 · subst ag;rw [au];exact Nat.zero_le _
 · rw [if_neg ag];exact Nat.le_refl _
theorem aV.set (h:aV F lim w n fr m ca []) {d:Nat} (a7:d<n) {v:Value} {x:aa} (ao:aF w lim v x []):aV F lim w n (fr.put d x) m (ca.put (some d) v) []:=by
 obtain ⟨os,b3,bu,h⟩:=h
 refine ⟨fun t=>if t=d then [] else os t,b3,bu,by simp [Act.put,h.size],h.defers,fun t y aE=>?_,h.mem,fun t y aE=>?_,h.dn,h.fs,h.free,h.fresh⟩
 · rw [Fr.oo] at aE
   by_cases an:t=d
   · subst an
     simp only [↓reduceIte,Option.some.injEq] at aE ⊢
     subst aE
     refine ⟨a7,?_⟩
     simpa [Act.put,Array.getD,h.size,a7] using ao
   · rw [if_neg (fun e=>an e.symm)] at aE
     rw [if_neg an]
     refine ⟨(h.dv t y aE).1,?_⟩
     have:=(h.dv t y aE).2
     have ek:¬d=t:=fun e=>an e.symm
     simp only [Act.put,Array.getD_eq_getD_getElem?,Array.getElem?_setIfInBounds,ek,if_false] at this ⊢
     exact this
 · rw [Fr.oo] at aE
   by_cases an:t=d
   · simp [an]
   · rw [if_neg (fun e=>an e.symm)] at aE
     simp only [if_neg an]
     exact h.ea t y aE
theorem aV.B1 (h:aV F lim w n fr m ca bn) {d:Nat} (a7:d<n) {v:Value} {x:aa} (ao:aF w lim v x bn):aV F lim w n (fr.put d x) m (ca.put (some d) v) []:=by
 obtain ⟨os,b3,bu,h⟩:=h
 refine ⟨fun t=>if t=d then bn else os t,b3,fun c=>if bu c= .ka then .slot d else if bu c= .slot d then .none else bu c,by simp [Act.put,h.size],h.defers,fun t y aE=>?_,h.mem,fun t y aE=>?_,fun b o ag=>?_,by simp,fun c ah=>?_,h.fresh⟩
 · rw [Fr.oo] at aE
   by_cases an:t=d
   · subst an
     simp only [↓reduceIte,Option.some.injEq] at aE ⊢
     subst aE
     refine ⟨a7,?_⟩
     simpa [Act.put,Array.getD,h.size,a7] using ao
   · rw [if_neg (fun e=>an e.symm)] at aE
     rw [if_neg an]
     refine ⟨(h.dv t y aE).1,?_⟩
     have:=(h.dv t y aE).2
     have ek:¬d=t:=fun e=>an e.symm
     simp only [Act.put,Array.getD_eq_getD_getElem?,Array.getElem?_setIfInBounds,ek,if_false] at this ⊢
     exact this
 · rw [Fr.oo] at aE
   by_cases an:t=d
   · simp only [an,↓reduceIte]
     exact ⟨h.fs.1,fun c ah=>by simp [h.fs.2 c ah]⟩
   · rw [if_neg (fun e=>an e.symm)] at aE
     simp only [if_neg an]
     refine ⟨(h.ea t y aE).1,fun c ah=>?_⟩
     simp [(h.ea t y aE).2 c ah,an]
 · exact fun i=>⟨(h.dn b o ag i).1,fun c ah=>by simp [(h.dn b o ag i).2 c ah]⟩
 · by_cases I:bu c= .ka
   · exact h.free c (by rw [I];simp)
   · simp only [I,↓reduceIte] at ah
     by_cases J:bu c= .slot d
     · simp [J] at ah
     · simp only [J,↓reduceIte] at ah
       exact h.free c ah
theorem aV.take (h:aV F lim w n fr m ca []) {s:Nat} {x:aa} (aj:fr.get s=some x):
 ∃os,aV F lim w n (fr.put s x.plain) m ca os∧aF w lim (ca.tmps.getD s undef) x os:=by
 obtain ⟨os,b3,bu,h⟩:=h
 refine ⟨os s,⟨fun t=>if t=s then [] else os t,b3,fun c=>if bu c= .slot s then .ka else if bu c= .ka then .none else bu c,h.size,h.defers,fun t y aE=>?_,h.mem,fun t y aE=>?_,fun b o ag=>?_,?_,fun c ah=>?_,h.fresh⟩,(h.dv s x aj).2⟩
 · rw [Fr.oo] at aE
   by_cases an:t=s
   · subst an
     simp only [↓reduceIte,Option.some.injEq] at aE ⊢
     subst aE
     exact ⟨(h.dv t x aj).1,(h.dv t x aj).2.plain⟩
   · rw [if_neg (fun e=>an e.symm)] at aE
     simpa [if_neg an] using h.dv t y aE
 · rw [Fr.oo] at aE
   by_cases an:t=s
   · simp [an]
   · rw [if_neg (fun e=>an e.symm)] at aE
     simp only [if_neg an]
     refine ⟨(h.ea t y aE).1,fun c ah=>?_⟩
     simp [(h.ea t y aE).2 c ah,an]
 · exact fun i=>⟨(h.dn b o ag i).1,fun c ah=>by simp [(h.dn b o ag i).2 c ah]⟩
 · exact ⟨(h.ea s x aj).1,fun c ah=>by simp [(h.ea s x aj).2 c ah]⟩
 · by_cases I:bu c= .slot s
   · exact h.free c (by rw [I];simp)
   · simp only [I,↓reduceIte] at ah
     by_cases J:bu c= .ka
     · simp [J] at ah
     · simp only [J,↓reduceIte] at ah
       exact h.free c ah
theorem aV.drop (h:aV F lim w n fr m ca bn):aV F lim w n fr m ca []:=by
 obtain ⟨os,b3,bu,h⟩:=h
 exact ⟨os,b3,bu,h.size,h.defers,h.dv,h.mem,h.ea,h.dn,⟨by simp,by simp⟩,h.free,h.fresh⟩
theorem aV.sub {aY:Fr} (h:aV F lim w n fr m ca bn) (aj:∀t x,aY.get t=some x→fr.get t=some x∨(x= .aP∧t<n)):aV F lim w n aY m ca bn:=by
 obtain ⟨os,b3,bu,h⟩:=h
 classical
 refine ⟨fun t=>if aY.get t=fr.get t then os t else [],b3,bu,h.size,h.defers,fun t x ao=>?_,h.mem,fun t x ao=>?_,h.dn,h.fs,h.free,h.fresh⟩
 · by_cases he:aY.get t=fr.get t
   · simp only [he,if_true]
     exact h.dv t x (he▸ao)
   · simp only [if_neg he]
     rcases aj t x ao with I|⟨I,J⟩
     · exact (he (ao.trans I.symm)).elim
     · subst I;exact ⟨J, .aP _⟩
 · by_cases he:aY.get t=fr.get t
   · simp only [he,if_true]
     exact h.ea t x (he▸ao)
   · simp [if_neg he]
theorem Fr.H0 (ks:List Nat) (fr:Fr) (t:Nat) (x:aa) (h:(Fr.keep ks fr).get t=some x):t∈ks∧(fr.get t).getD .aP=x:=by
 induction ks with
 |nil=>simp [Fr.keep,Fr.get] at h
 |cons k ks aO=>
  simp only [Fr.keep,List.map_cons,Fr.get] at h
  by_cases ai:k=t
  · subst ai
    simp only [↓reduceIte,Option.some.injEq] at h
    exact ⟨by simp,h⟩
  · rw [if_neg ai] at h
    have:=aO h
    exact ⟨by simp [this.1],this.2⟩
theorem aV.keep (h:aV F lim w n fr m ca bn) {ks:List Nat} (ai:∀t∈ks,t<n):aV F lim w n (fr.keep ks) m ca bn:=by
 refine h.sub fun t x ao=>?_
 have:=Fr.H0 ks fr t x ao
 cases a8:fr.get t with
 |none=>rw [a8] at this;exact .inr ⟨this.2.symm,ai t this.1⟩
 |some y=>rw [a8] at this;simp at this;exact .inl (by rw [this.2])
theorem aV.qd {m':ae} (h:aV F lim w n fr m ca bn) (aj:∀b o,m' b=some o→m b=some o):aV F lim w n fr m' ca bn:=by
 obtain ⟨os,b3,bu,h⟩:=h
 have aJ:∀b,m b=none→m' b=none:=fun b ag=>by
  cases e9:m' b with
  |none=>rfl
  |some o=>rw [aj b o e9] at ag;cases ag
 exact ⟨os,b3,bu,h.size,h.defers,h.dv,fun b o ag=>h.mem b o (aj b o ag),h.ea,fun b o ag=>h.dn b o (aj b o ag),h.fs,
  fun c ah=>⟨(h.free c ah).1,aJ c (h.free c ah).2.1,(h.free c ah).2.2⟩,fun b ag=>⟨(h.fresh b ag).1,(h.fresh b ag).2.1,aJ b (h.fresh b ag).2.2⟩⟩
theorem aV.xR (h:aV F lim w n fr m ca bn) (cs:Array Value) (e:TypeId) (l:List aa) (aj:cs.size=l.length) (aw:∀i,i<l.length→aF w lim (cs.getD i undef) (l.getD i .aP) []):
 m w.heap.size=none∧aV F lim (w.alloc (.cells cs e)) n fr (m.bX w.heap.size (some (.cells l))) ca bn:=by
 have au:=h.ph
 have cW:=h.alloc (.cells cs e) 0
 have eL:(fun b=>if b=w.heap.size then 0 else lim b)=lim:=by funext b;by_cases ag:b=w.heap.size<;>simp [ag,au]
 rw [eL] at cW
 have eh:=cU.alloc h (.cells cs e) 0
 rw [eL] at eh
 have dB:¬F w.heap.size:=fun aM=>absurd (h.ov aM) (Nat.lt_irrefl _)
 have hm:m w.heap.size=none:=by
  cases ag:m w.heap.size with
  |none=>rfl
  |some o=>exact absurd (h.ow (b:=w.heap.size) (by rw [ag];simp)) (Nat.lt_irrefl _)
 obtain ⟨ox,H2,H3,aA⟩:=h
 refine ⟨hm,?_⟩
 obtain ⟨os,b3,bu,cW⟩:=cW
 refine ⟨ox,fun b i=>if b=w.heap.size then [] else H2 b i,H3,aA.size,aA.defers,fun t x ao=>?_,fun b o ag=>?_,aA.ea,fun b o ag=>?_,aA.fs,fun c ah=>?_,fun b ag=>?_⟩
 · refine ⟨(aA.dv t x ao).1,(aA.dv t x ao).2.fX (fun _=>Nat.le_refl _) eh.cell (fun c ah=>⟨kb w _ c ?_,rfl⟩)⟩
   exact (aA.free c (by rw [(aA.ea t x ao).2 c ah];simp)).2.2
 · by_cases mi:b=w.heap.size
   · subst mi
     simp only [ae.bX,↓reduceIte,Option.some.injEq] at ag ⊢
     subst ag
     refine ⟨?_,au,dB⟩
     exact jB.cells (w:=w.alloc (.cells cs e)) (lim:=lim) (b:=w.heap.size) cs e l (fun _=>[]) (mU w _) aj
      (fun i ab=>(aw i ab).fX (fun _=>Nat.le_refl _) eh.cell (by simp))
   · simp only [ae.bX,if_neg mi] at ag ⊢
     have bN:b<w.heap.size:=by
      rcases Nat.lt_or_ge b w.heap.size with e9|e9
      · exact e9
      · have:=(aA.fresh b e9).2.2;rw [ag] at this;cases this
     refine ⟨(aA.mem b o ag).1.fX (kb w _ b bN) (fun _=>Nat.le_refl _) eh.cell (fun i c ah=>⟨kb w _ c ?_,rfl⟩),(aA.mem b o ag).2⟩
     exact (aA.free c (by rw [(aA.dn b o ag i).2 c ah];simp)).2.2
 · by_cases mi:b=w.heap.size
   · simp [mi]
   · simp only [ae.bX,if_neg mi] at ag ⊢
     exact aA.dn b o ag
 · have:=aA.free c ah
   refine ⟨this.1,?_,by simp;omega⟩
   simp only [ae.bX]
   rw [if_neg (by omega)]
   exact this.2.1
 · simp at ag
   have:=aA.fresh b (by omega)
   refine ⟨this.1,this.2.1,?_⟩
   simp only [ae.bX]
   rw [if_neg (by omega)]
   exact this.2.2
end
end Go.bb
end
section
namespace Go.bb
open Go
def hS:Value→aa
 | .bool b=> .bool b
 | .int k n=> .int k n
 | .string s=> .str s.data.toList
 | .pointer none=> .eK
 | .slice none _ _=> .slice true []
 | .map none=> .iq
 | .nilFunc=> .jg
 | .nilIface=> .nilIface
 |_=> .aP
def jj:Value→aa
 | .agg cs=> .agg (cs.toList.map hS)
 | .iface t v=> .iface t (hS v)
 |v=>hS v
def qe:Value→Bool
 | .int k n=>decide (k.min≤n)&&decide (n≤k.max)
 | .string s=>decide (s.size≤140737488355328)
 | .slice none n c=>n==0&&c==0
 |_=>true
def nF:Value→Bool
 | .agg cs=>cs.toList.all qe
 | .iface _ v=>qe v
 |v=>qe v
def kc:Operand→Bool
 | .const v=>nF v
 |_=>true
section
variable {w:World} {lim:Nat→Nat}
theorem xS {v:Value} (h:qe v=true):aF w lim v (hS v) []:=by
 cases v with
 |bool b=>exact .bool b
 |int k n=>simp [qe] at h;exact .int k n h.1 h.2
 |string s=>simp [qe] at h;exact .str s h
 |pointer a=>cases a with
  |none=>exact .eK
  |some a=>exact .aP _
 |slice a n c=>cases a with
  |none=>simp [qe] at h;obtain ⟨rfl,rfl⟩:=h;exact .eR true
  |some a=>exact .aP _
 |map r=>cases r with
  |none=>exact .iq
  |some r=>exact .aP _
 |nilFunc=>exact .jg
 |nilIface=>exact .nilIface
 |_=>exact .aP _
theorem xT {v:Value} (h:nF v=true):aF w lim v (jj v) []:=by
 cases v with
 |agg cs=>
  simp only [nF,List.all_eq_true] at h
  have:=aF.agg (w:=w) (lim:=lim) cs (cs.toList.map hS) (fun _=>[]) (by simp) (fun i ab=>by
   have eX:i<cs.size:=by simpa using ab
   have ay:cs.getD i undef=cs[i]:=by simp [Array.getD,eX]
   have az:(cs.toList.map hS).getD i .aP=hS cs[i]:=by simp [List.getD,eX]
   rw [ay,az]
   exact xS (h _ (by simp)))
  rw [flatMap_nil] at this
  exact this
 |iface t v=>exact .iface t v _ (xS h)
 |_=>exact xS h
end
def jL (fr:Fr):Operand→aa
 | .tmp t=>((fr.get t).getD .aP).plain
 | .const v=>jj v
 | .global g=> .ptr ⟨g,0,none⟩
 | .func f=> .func (.func f) [] []
section
variable {F:Nat→Prop} {lim:Nat→Nat} {w:World} {n:Nat} {fr:Fr} {m:ae} {ca:Act} {bn:List Nat}
theorem s0 (h:aV F lim w n fr m ca bn) {x:Operand} (ao:kc x=true):∃os,aF w lim (ca.eval x) (jL fr x) os∧os=[]:=by
 obtain ⟨os,b3,bu,h⟩:=h
 refine ⟨[],?_,rfl⟩
 cases x with
 |tmp t=>
  simp only [jL,Act.eval]
  cases a8:fr.get t with
  |none=>exact .aP _
  |some x=>exact (h.dv t x a8).2.plain
 |const v=>exact xT ao
 |global g=>exact .ptr _
 |func f=>exact .func _ #[] #[] [] [] rfl rfl (by simp) (by simp)
end
def jM (P:Program) (t:TypeId):Bool:=
 match P.underlying t with
 |some (.struct _)|some (.array _ _)=>true
 |_=>false
def dG (P:Program) (t:TypeId):Bool:=(P.underlying t).isSome
def qf (P:Program) (t:TypeId):aa→aa→Option (Prop×Bool)
 | .int k a, .int cX b=>some (k=cX∧P.underlying t=some (.int k),a==b)
 | .str a, .str b=>some (P.underlying t=some .string,a==b)
 | .bool a, .bool b=>some (P.underlying t=some .bool,a==b)
 |_,_=>none
def qg (P:Program) (xs eH:List aa):List Field→Option (Prop×Bool)
 |[]=>some (True,true)
 |f::cj=>
  match qf P f.type (xs.getD f.offset .aP) (eH.getD f.offset .aP),qg P xs eH cj with
  |some (s,b),some (ho,ft)=>some (s∧f.name≠ "_"∧ho,b&&ft)
  |_,_=>none
def mV (P:Program) (op:BinOp) (t:TypeId) (x y:aa):Option (Prop×aa):=
 match op,x,y with
 | .add, .int k a, .int cX b=>if k=cX then some (True, .int k (k.wrap (a+b))) else none
 | .sub, .int k a, .int cX b=>if k=cX then some (True, .int k (k.wrap (a- b))) else none
 | .mul, .int k a, .int cX b=>if k=cX then some (True, .int k (k.wrap (a*b))) else none
 | .quo, .int k a, .int cX b=>if k=cX then some (b≠0, .int k (k.wrap (a.tdiv b))) else none
 | .rem, .int k a, .int cX b=>if k=cX then some (b≠0∧k.min≤a.tmod b∧a.tmod b≤k.max, .int k (a.tmod b)) else none
 | .and, .int k a, .int cX b=>if k=cX then some (True, .int k (k.wrap (BitVec.ofInt k.bits a &&& BitVec.ofInt k.bits b).toNat)) else none
 | .or, .int k a, .int cX b=>if k=cX then some (True, .int k (k.wrap (BitVec.ofInt k.bits a ||| BitVec.ofInt k.bits b).toNat)) else none
 | .xor, .int k a, .int cX b=>if k=cX then some (True, .int k (k.wrap (BitVec.ofInt k.bits a ^^^ BitVec.ofInt k.bits b).toNat)) else none
 | .shl, .int k a, .int _ b=>some (0≤b, .int k (k.wrap (a*2^(min b.toNat k.bits))))
 | .shr, .int k a, .int _ b=>some (0≤b∧k.min≤a.fdiv (2^(min b.toNat k.bits))∧a.fdiv (2^(min b.toNat k.bits))≤k.max, .int k (a.fdiv (2^(min b.toNat k.bits))))
 | .eql, .int k a, .int cX b=>if k=cX then some (True, .bool (a==b)) else none
 | .neq, .int k a, .int cX b=>if k=cX then some (True, .bool (!(a==b))) else none
 | .lss, .int k a, .int cX b=>if k=cX then some (True, .bool (decide (a<b))) else none
 | .leq, .int k a, .int cX b=>if k=cX then some (True, .bool (decide (a≤b))) else none
 | .gtr, .int k a, .int cX b=>if k=cX then some (True, .bool (decide (b<a))) else none
 | .geq, .int k a, .int cX b=>if k=cX then some (True, .bool (decide (b≤a))) else none
 | .add, .str a, .str b=>some (a.length+b.length≤140737488355328, .str (a++b))
 | .eql, .str a, .str b=>some (True, .bool (a==b))
 | .neq, .str a, .str b=>some (True, .bool (!(a==b)))
 | .lss, .str a, .str b=>some (True, .bool (Op.bytesLess a b))
 | .leq, .str a, .str b=>some (True, .bool (Op.bytesLess a b||a==b))
 | .gtr, .str a, .str b=>some (True, .bool (!(Op.bytesLess a b||a==b)))
 | .geq, .str a, .str b=>some (True, .bool (!(Op.bytesLess a b)))
 | .eql, .bool a, .bool b=>some (P.underlying t=some .bool, .bool (a==b))
 | .neq, .bool a, .bool b=>some (P.underlying t=some .bool, .bool (!(a==b)))
 | .eql, .nilIface, .iface _ _| .eql, .iface _ _, .nilIface=>some ((match P.underlying t with|some (.interface _)=>true|_=>false)=true, .bool false)
 | .neq, .nilIface, .iface _ _| .neq, .iface _ _, .nilIface=>some ((match P.underlying t with|some (.interface _)=>true|_=>false)=true, .bool true)
 | .eql, .iface u (.int k a), .iface k4 (.int cX b)=>some ((match P.underlying t with|some (.interface _)=>true|_=>false)=true∧k=cX∧P.underlying u=some (.int k)∧(P.info? u).map (·.comparable)=some true, .bool (u==k4&&a==b))
 | .neq, .iface u (.int k a), .iface k4 (.int cX b)=>some ((match P.underlying t with|some (.interface _)=>true|_=>false)=true∧k=cX∧P.underlying u=some (.int k)∧(P.info? u).map (·.comparable)=some true, .bool (!(u==k4&&a==b)))
 | .eql, .ptr _, .eK| .eql, .eK, .ptr _| .eql, .ref _, .eK| .eql, .eK, .ref _=>some ((match P.underlying t with|some (.pointer _)=>true|_=>false)=true, .bool false)
 | .neq, .ptr _, .eK| .neq, .eK, .ptr _| .neq, .ref _, .eK| .neq, .eK, .ref _=>some ((match P.underlying t with|some (.pointer _)=>true|_=>false)=true, .bool true)
 | .eql, .eK, .eK=>some ((match P.underlying t with|some (.pointer _)=>true|_=>false)=true, .bool true)
 | .neq, .eK, .eK=>some ((match P.underlying t with|some (.pointer _)=>true|_=>false)=true, .bool false)
 | .eql, .agg xs, .agg eH=>
   match P.underlying t with
   |some (.struct cj)=>(qg P xs eH cj.toList).map fun p=>(P.stoodInHeld t=false∧P.eqGuardType P.depth t=false∧p.1, .bool p.2)
   |_=>none
 | .neq, .agg xs, .agg eH=>
   match P.underlying t with
   |some (.struct cj)=>(qg P xs eH cj.toList).map fun p=>(P.stoodInHeld t=false∧P.eqGuardType P.depth t=false∧p.1, .bool (!p.2))
   |_=>none
 |_,_,_=>none
def lG (P:Program) (op:BinOp) (t:TypeId) (x y:Operand) (a b:aa):Option (Prop×aa):=
 match op,a,b with
 | .eql, .nilIface, .nilIface=>some ((match P.underlying t with|some (.interface _)=>true|_=>false)=true∧((x matches .const _)||(y matches .const _))=true, .bool true)
 | .neq, .nilIface, .nilIface=>some ((match P.underlying t with|some (.interface _)=>true|_=>false)=true∧((x matches .const _)||(y matches .const _))=true, .bool false)
 | .eql, .err _ e, .nilIface=>some ((match P.underlying t with|some (.interface _)=>true|_=>false)=true∧((x matches .const _)||(y matches .const _))=true, .bool (e==0))
 | .neq, .err _ e, .nilIface=>some ((match P.underlying t with|some (.interface _)=>true|_=>false)=true∧((x matches .const _)||(y matches .const _))=true, .bool (!(e==0)))
 | .eql, .opt b, .nilIface=>some ((match P.underlying t with|some (.interface _)=>true|_=>false)=true∧((x matches .const _)||(y matches .const _))=true, .bool (!b))
 | .neq, .opt b, .nilIface=>some ((match P.underlying t with|some (.interface _)=>true|_=>false)=true∧((x matches .const _)||(y matches .const _))=true, .bool b)
 | .eql, .err gZ e, .iface u (.int k c)=>some ((match P.underlying t with|some (.interface _)=>true|_=>false)=true∧ .i64=k∧P.underlying gZ=some (.int .i64)∧(P.info? gZ).map (·.comparable)=some true∧gZ=u∧c≠0, .bool (e==c))
 | .neq, .err gZ e, .iface u (.int k c)=>some ((match P.underlying t with|some (.interface _)=>true|_=>false)=true∧ .i64=k∧P.underlying gZ=some (.int .i64)∧(P.info? gZ).map (·.comparable)=some true∧gZ=u∧c≠0, .bool (!(e==c)))
 |_,_,_=>mV P op t a b
def apart (P:Program) (t:TypeId) (l:List aa) (off:Nat):aa:=
 if jM P t then .agg ((l.drop off).take (P.cellsOf t)) else l.getD off .aP
def jk (P:Program) (t:TypeId) (l:List aa) (off:Nat):Prop:=
 dG P t=true∧(if jM P t then off+P.cellsOf t≤l.length else off<l.length)
def kd (low:Option aa) (d:Nat):Option Int:=
 match low with
 |none=>some d
 |some (.int _ n)=>some n
 |_=>none
def bk (c:UInt8):aa:= .int .u8 c.toNat
def byteOf:aa→UInt8
 | .int _ n=>UInt8.ofNat n.toNat
 |_=>0
theorem H4 (c:UInt8):byteOf (bk c)=c:=by simp [byteOf,bk]
theorem H5 (l:List UInt8):(l.map bk).map byteOf=l:=by
 rw [List.map_map]
 have:byteOf∘bk=id:=by funext c;exact H4 c
 rw [this,List.map_id]
def un:aa→aa
 | .lazy true x=>x
 |x=>x
def bq (P:Program) (m:ae) (a:Operand→aa):Op→Option (Prop×aa)
 | .move x| .assign x=>some (True,a x)
 | .pick c x y=>
   match un (a c),a x,a y with
   | .bool b, .bool p, .bool q=>some (True, .bool (if b then p else q))
   | .bool b, .lazy g (.bool p), .bool q=>some (b=true→g=true, .bool (if b then p else q))
   | .bool b, .bool p, .lazy g (.bool q)=>some (b=false→g=true, .bool (if b then p else q))
   | .bool b, .lazy g (.bool p), .lazy h (.bool q)=>some ((b=true→g=true)∧(b=false→h=true), .bool (if b then p else q))
   |_,_,_=>none
 | .load t x=>
   match a x with
   | .ref l=>some (jk P t l 0,apart P t l 0)
   | .ptr ⟨b,off,none⟩=>
     match m b with
     |some (.cells l)=>some (jk P t l off,(apart P t l off).plain)
     |_=>none
   |_=>none
 | .nilCheck x=>
   match a x with
   | .ref l=>some (True, .ref l)
   | .ptr p=>some (True, .ptr p)
   | .func (.func f) b c=>some (True, .func (.func f) b c)
   |_=>none
 | .binOp op t x y _=>lG P op t x y (a x) (a y)
 | .unOp op _ x=>
   match op,a x with
   | .not, .bool b=>some (True, .bool (!b))
   | .neg, .int k n=>some (True, .int k (k.wrap (0- n)))
   |_,_=>none
 | .convert s d x=>
   match P.underlying d,a x with
   |some (.int k), .int _ n=>some (dG P s=true, .int k (k.wrap n))
   |some .string, .str l=>some (dG P s=true, .str l)
   |some .string, .slice _ l=>some (∃e,P.underlying s=some (.slice e)∧P.underlying e=some (.int .u8)∧∀x∈l,∃k:Int,x= .int .u8 k, .str (l.map byteOf))
   |_,_=>none
 | .makeInterface t x=>
   match P.underlying t with
   |some (.interface _)=>none
   |some _=>some (True, .iface t (a x))
   |none=>none
 | .fieldAddr s x f=>
   match P.underlying s with
   |some (.struct cj)=>
    match cj[f]? with
    |some fd=>
     match a x with
     | .ref l=>some (dG P fd.type=true∧P.cellsOf fd.type≠0∧fd.offset<l.length, .ref (l.drop fd.offset))
     | .ptr ⟨b,off,none⟩=>some (dG P fd.type=true∧P.cellsOf fd.type≠0, .ptr ⟨b,off+fd.offset,none⟩)
     |_=>none
    |none=>none
   |_=>none
 | .field t x f=>
   match P.underlying t with
   |some (.struct cj)=>
    match cj[f]?,a x with
    |some fd, .agg l=>some (jk P fd.type l fd.offset,apart P fd.type l fd.offset)
    |_,_=>none
   |_=>none
 | .indexAddr t x i=>
   match P.underlying t with
   |some (.slice e)=>
    match a x,a i with
    | .slice _ l, .int _ k=>some (dG P e=true∧P.cellsOf e≠0∧0≤k∧k<l.length∧(l.getD k.toNat .aP).cells.length=P.cellsOf e, .ref (l.getD k.toNat .aP).cells)
    | .ms ⟨b,off,none⟩ len _, .int _ k=>some (dG P e=true∧0≤k∧k<len, .ptr ⟨b,off+k.toNat*P.cellsOf e,none⟩)
    |_,_=>none
   |_=>none
 | .index t x i=>
   match P.underlying t,a x,a i with
   |some .string, .str l, .int _ k=>some (0≤k∧k<l.length, .int .u8 (l.getD k.toNat 0).toNat)
   |_,_,_=>none
 | .extract x i=>
   match a x with
   | .tuple l=>some (i<l.length,l.getD i .aP)
   |_=>none
 | .slice t x bh ab none=>
   match P.underlying t,a x with
   |some .string, .str l=>
    match kd (bh.map a) 0,kd (ab.map a) l.length with
    |some p,some q=>some (0≤p∧p≤q∧q≤l.length, .str ((l.drop p.toNat).take (q- p).toNat))
    |_,_=>none
   |some (.slice e), .slice _ l=>
    match kd (bh.map a) 0,kd (ab.map a) l.length with
    |some p,some q=>some (dG P e=true∧0≤p∧p≤q∧q≤l.length∧∀x∈l,x.cells.length=P.cellsOf e, .slice false ((l.drop p.toNat).take (q- p).toNat))
    |_,_=>none
   |some (.slice e), .ms ⟨b,off,none⟩ len cap=>
    match kd (bh.map a) 0,kd (ab.map a) len with
    |some p,some q=>some (dG P e=true∧0≤p∧p≤q∧q≤len,if p<cap then .ms ⟨b,off+p.toNat*P.cellsOf e,none⟩ (q- p).toNat (cap- p.toNat) else .eR)
    |_,_=>none
   |_,_=>none
 | .typeAssert x _ t true=>
   match P.underlying t,a x with
   |some (.interface _),_=>none
   |some _, .iface u v=>if u=t then some (True, .tuple [v, .bool true]) else none
   |some _, .err u e=>if u=t then some ((P.info? t).bind (·.zero)=some (.int .i64 0), .tuple [.int .i64 e, .bool (!(e==0))]) else none
   |_,_=>none
 | .call ⟨.builtin .len,args,bd⟩=>
   match args[0]?,bd[0]? with
   |some x,some t=>
    match P.underlying t,a x with
    |some .string, .str l=>some (True, .int .i64 l.length)
    |some (.slice _), .slice _ l=>some (True, .int .i64 l.length)
    |some (.slice _), .ms _ n _=>some (n≤9223372036854775807, .int .i64 n)
    |some (.slice _), .eR=>some (True, .int .i64 0)
    |some (.map _ _), .iq=>some (True, .int .i64 0)
    |some (.map _ _), .map b=>
     match m b with
     |some (.map l)=>some (True, .int .i64 l.length)
     |_=>none
    |_,_=>none
   |_,_=>none
 | .call ⟨.builtin .max,args,_⟩=>
   match args.toList with
   |[x,y]=>
    match a x,a y with
    | .int k p, .int cX q=>if k=cX then some (True, .int k (if q>p then q else p)) else none
    |_,_=>none
   |_=>none
 | .call ⟨.builtin .min,args,_⟩=>
   match args.toList with
   |[x,y]=>
    match a x,a y with
    | .int k p, .int cX q=>if k=cX then some (True, .int k (if q<p then q else p)) else none
    |_,_=>none
   |_=>none
 |_=>none
end Go.bb
end
section
namespace Go.bb
open Go
theorem mj (k:IntKind) (n:Int):k.min≤k.wrap n∧k.wrap n≤k.max:=by
 cases k<;>simp [IntKind.min,IntKind.max,IntKind.wrap,IntKind.signed,IntKind.bits]<;>(repeat' split)<;>omega
theorem B2 (k:IntKind) (n:Int) (I:k.min≤n) (J:n≤k.max):k.wrap n=n:=by
 cases k<;>simp [IntKind.min,IntKind.max,IntKind.wrap,IntKind.signed,IntKind.bits] at*<;>(repeat' split)<;>omega
section
variable {P:Program} {w:World} {lim:Nat→Nat}
theorem eM {t:TypeId} {d:TypeDesc} (h:P.underlying t=some d):(underlying t).run P w= .ok d w:=run_underlying h w
theorem k5 {t:TypeId} (h:dG P t=true):(sizeOf t).run P w= .ok (P.cellsOf t) w:=by
 cases ab:P.info? t with
 |none=>simp [dG,Program.underlying,ab] at h
 |some i=>simp [sizeOf,typeInfo,ab,Program.cellsOf]
theorem rp {t:TypeId} (h:dG P t=true):(isAgg t).run P w= .ok (jM P t) w:=by
 cases a7:P.underlying t with
 |none=>simp [dG,a7] at h
 |some d=>simp [isAgg,eM a7,jM,a7];cases d<;>simp
theorem H6 (d:Nat) {t u k4:TypeId} {k:IntKind} {a b:Int} (an:(match P.underlying t with|some (.interface _)=>true|_=>false)=true)
 (hu:P.underlying u=some (.int k)) (ah:(P.info? u).map (·.comparable)=some true):
 (Op.equalIn (d+2) t (.iface u (.int k a)) (.iface k4 (.int k b))).run P w= .ok (u==k4&&a==b) w:=by
 cases a7:P.underlying t with
 |none=>simp [a7] at an
 |some e=>
  cases e<;>simp [a7] at an
  rename_i ms
  cases ab:P.info? u with
  |none=>simp [ab] at ah
  |some i=>
   have H7:i.comparable=true:=by simpa [ab] using ah
   by_cases e:u=k4
   · subst e
     simp [Op.equalIn,eM a7,typeInfo,ab,H7,eM hu]
   · simp [Op.equalIn,eM a7,e]
theorem H8 (d:Nat) {t:TypeId} {u:TypeId} {v:Value} (an:(match P.underlying t with|some (.interface _)=>true|_=>false)=true):(Op.equalIn (d+1) t .nilIface (.iface u v)).run P w= .ok false w:=by
 cases a7:P.underlying t with
 |none=>simp [a7] at an
 |some e=>cases e<;>simp [a7] at an;simp [Op.equalIn,eM a7]
theorem xU {t:TypeId} {u:TypeId} {v:Value} (an:(match P.underlying t with|some (.interface _)=>true|_=>false)=true):(Op.equal t .nilIface (.iface u v)).run P w= .ok false w:=H8 9999 an
theorem H9 (d:Nat) {t:TypeId} {u:TypeId} {v:Value} (an:(match P.underlying t with|some (.interface _)=>true|_=>false)=true):(Op.equalIn (d+1) t (.iface u v) .nilIface).run P w= .ok false w:=by
 cases a7:P.underlying t with
 |none=>simp [a7] at an
 |some e=>cases e<;>simp [a7] at an;simp [Op.equalIn,eM a7]
theorem s3 {t:TypeId} {u:TypeId} {v:Value} (an:(match P.underlying t with|some (.interface _)=>true|_=>false)=true):(Op.equal t (.iface u v) .nilIface).run P w= .ok false w:=H9 9999 an
theorem Ia (d:Nat) {t:TypeId} (an:(match P.underlying t with|some (.interface _)=>true|_=>false)=true):(Op.equalIn (d+1) t .nilIface .nilIface).run P w= .ok true w:=by
 cases a7:P.underlying t with
 |none=>simp [a7] at an
 |some e=>cases e<;>simp [a7] at an;simp [Op.equalIn,eM a7]
theorem rq {t:TypeId} (an:(match P.underlying t with|some (.interface _)=>true|_=>false)=true):(Op.equal t .nilIface .nilIface).run P w= .ok true w:=Ia 9999 an
theorem Ib (d:Nat) {t:TypeId} {a:Addr} (an:(match P.underlying t with|some (.pointer _)=>true|_=>false)=true):(Op.equalIn (d+1) t (.pointer (some a)) (.pointer none)).run P w= .ok false w:=by
 cases a7:P.underlying t with
 |none=>simp [a7] at an
 |some e=>cases e<;>simp [a7] at an;simp [Op.equalIn,eM a7]
theorem Ic {t:TypeId} {a:Addr} (an:(match P.underlying t with|some (.pointer _)=>true|_=>false)=true):(Op.equal t (.pointer (some a)) (.pointer none)).run P w= .ok false w:=Ib 9999 an
theorem Ie (d:Nat) {t:TypeId} {a:Addr} (an:(match P.underlying t with|some (.pointer _)=>true|_=>false)=true):(Op.equalIn (d+1) t (.pointer none) (.pointer (some a))).run P w= .ok false w:=by
 cases a7:P.underlying t with
 |none=>simp [a7] at an
 |some e=>cases e<;>simp [a7] at an;simp [Op.equalIn,eM a7]
theorem Ig {t:TypeId} {a:Addr} (an:(match P.underlying t with|some (.pointer _)=>true|_=>false)=true):(Op.equal t (.pointer none) (.pointer (some a))).run P w= .ok false w:=Ie 9999 an
theorem Ih (d:Nat) {t:TypeId} (an:(match P.underlying t with|some (.pointer _)=>true|_=>false)=true):(Op.equalIn (d+1) t (.pointer none) (.pointer none)).run P w= .ok true w:=by
 cases a7:P.underlying t with
 |none=>simp [a7] at an
 |some e=>cases e<;>simp [a7] at an;simp [Op.equalIn,eM a7]
theorem Ii {t:TypeId} (an:(match P.underlying t with|some (.pointer _)=>true|_=>false)=true):(Op.equal t (.pointer none) (.pointer none)).run P w= .ok true w:=Ih 9999 an
theorem Ij (d:Nat) {t:TypeId} {a b:Bool} (an:P.underlying t=some .bool):(Op.equalIn (d+1) t (.bool a) (.bool b)).run P w= .ok (a==b) w:=by
 simp [Op.equalIn,eM an]
theorem Ik {t:TypeId} {a b:Bool} (an:P.underlying t=some .bool):(Op.equal t (.bool a) (.bool b)).run P w= .ok (a==b) w:=Ij 9999 an
theorem xV {t u k4:TypeId} {k:IntKind} {a b:Int} (an:(match P.underlying t with|some (.interface _)=>true|_=>false)=true)
 (hu:P.underlying u=some (.int k)) (ah:(P.info? u).map (·.comparable)=some true):
 (Op.equal t (.iface u (.int k a)) (.iface k4 (.int k b))).run P w= .ok (u==k4&&a==b) w:=H6 9998 an hu ah
theorem Il {t:TypeId} {kf iP:Value} {x y:aa} {side:Prop} {b:Bool} (d:Nat) (h:qf P t x y=some (side,b)) (aj:side) {jl jm:List Nat} (ao:aF w lim kf x jl) (aE:aF w lim iP y jm):
 (Op.equalIn (d+1) t kf iP).run P w= .ok b w∧jM P t=false:=by
 unfold qf at h
 split at h
 · simp only [Option.some.injEq,Prod.mk.injEq] at h
   obtain ⟨rfl,rfl⟩:=h
   obtain ⟨rfl,an⟩:=aj
   cases ao
   cases aE
   exact ⟨run_equalIn_int w d t _ _ _ _ an,by simp [jM,an]⟩
 · simp only [Option.some.injEq,Prod.mk.injEq] at h
   obtain ⟨rfl,rfl⟩:=h
   cases ao
   cases aE
   refine ⟨?_,by simp [jM,aj]⟩
   rw [run_equalIn_string w d t _ _ aj,ByteArray.toList_eq,ByteArray.toList_eq]
 · simp only [Option.some.injEq,Prod.mk.injEq] at h
   obtain ⟨rfl,rfl⟩:=h
   cases ao
   cases aE
   exact ⟨run_equalIn_bool' w d t _ _ aj,by simp [jM,aj]⟩
 · cases h
theorem Im {t:TypeId} {x y:aa} {side:Prop} {b:Bool} (h:qf P t x y=some (side,b)) (aj:side):dG P t=true:=by
 unfold qf at h
 split at h
 · simp only [Option.some.injEq,Prod.mk.injEq] at h
   obtain ⟨rfl,rfl⟩:=h
   simp [dG,aj.2]
 · simp only [Option.some.injEq,Prod.mk.injEq] at h
   obtain ⟨rfl,rfl⟩:=h
   simp [dG,aj]
 · simp only [Option.some.injEq,Prod.mk.injEq] at h
   obtain ⟨rfl,rfl⟩:=h
   simp [dG,aj]
 · cases h
theorem Io {t:TypeId} {x y:aa} {r:Prop×Bool} (h:qf P t x y=some r):x≠ .aP∧y≠ .aP:=by
 unfold qf at h
 split at h
 · exact ⟨(nomatch ·),(nomatch ·)⟩
 · exact ⟨(nomatch ·),(nomatch ·)⟩
 · exact ⟨(nomatch ·),(nomatch ·)⟩
 · cases h
theorem B3 {l:List aa} {i:Nat} (h:l.getD i .aP≠ .aP):i<l.length:=by
 by_cases ab:i<l.length
 · exact ab
 · exact (h (by simp [List.getD,List.getElem?_eq_none (Nat.not_lt.1 ab)])).elim
theorem B4 {t:TypeId} {cs:Array Value} {k:Nat} (hu:dG P t=true) (aN:jM P t=false) (ai:k<cs.size):(part t cs k).run P w= .ok (cs.getD k undef) w:=by
 have this:cs[k]?=some (cs.getD k undef):=by simp [Array.getD,ai]
 unfold part
 simp only [Sem.run_bind,rp hu,aN,Result.andThen_ok,this]
 rfl
theorem Ip {oy oz:Array Value} {xs eH:List aa} (ao:oy.size=xs.length) (aE:oz.size=eH.length) {jl jm:Nat→List Nat} (rx:∀i,i<xs.length→aF w lim (oy.getD i undef) (xs.getD i .aP) (jl i)) (Iq:∀i,i<eH.length→aF w lim (oz.getD i undef) (eH.getD i .aP) (jm i)) (d:Nat):
 ∀(cj:List Field) {side:Prop} {b:Bool},qg P xs eH cj=some (side,b)→side→(Op.eqFields (d+1) oy oz cj).run P w= .ok b w:=by
 intro cj
 induction cj with
 |nil=>
  intro side b h aj
  simp only [qg,Option.some.injEq,Prod.mk.injEq] at h
  rw [←h.2];rfl
 |cons f cj aO=>
  intro side b h aj
  unfold qg at h
  split at h
  · next s lH ho ml I J=>
    simp only [Option.some.injEq,Prod.mk.injEq] at h
    obtain ⟨rfl,rfl⟩:=h
    obtain ⟨oA,aJ,pj⟩:=aj
    obtain ⟨jn,e3⟩:=Io I
    have h3:=B3 jn
    have jo:=B3 e3
    have hu:=Im I oA
    obtain ⟨ay,az⟩:=Il d I oA (rx _ h3) (Iq _ jo)
    have qh:=B4 (P:=P) (w:=w) hu az (show f.offset<oy.size by omega)
    have xW:=B4 (P:=P) (w:=w) hu az (show f.offset<oz.size by omega)
    simp only [Op.eqFields,if_pos aJ,Sem.run_bind,qh,xW,ay,Result.andThen_ok,Sem.run_ite,Sem.run_pure]
    cases lH with
    |true=>simpa using aO J pj
    |false=>simp
  · cases h
theorem B5 {t:TypeId} {jl jm:Operand} {cj:Array Field} {kf iP:Value} {xs eH:List aa} {side:Prop} {b:Bool} (an:P.underlying t=some (.struct cj)) (bU:P.stoodInHeld t=false) (a8:P.eqGuardType P.depth t=false)
 (h:qg P xs eH cj.toList=some (side,b)) (aj:side) {o ez:List Nat} (ao:aF w lim kf (.agg xs) o) (aE:aF w lim iP (.agg eH) ez):
 (do eqGuard .eql t jl jm kf iP;binOp .eql t kf iP:Sem Value).run P w= .ok (.bool b) w∧(do eqGuard .neq t jl jm kf iP;binOp .neq t kf iP:Sem Value).run P w= .ok (.bool (!b)) w:=by
 cases ao with
 |agg oy _ R9 I h4=>
  cases aE with
  |agg oz _ Ir J iQ=>
   have aM:P.fieldsOf t=cj:=by simp [Program.fieldsOf,an]
   have key:=Ip I J h4 iQ 9998 _ h aj
   have he:(Op.equalIn 10000 t (.agg oy) (.agg oz)).run P w= .ok b w:=by
    rw [run_equalIn_struct w 9999 t oy oz (by rw [aM];exact an) bU,aM];exact key
   constructor
   · simp only [Sem.run_bind,run_eqGuard_agg w _ t jl jm oy oz a8,Result.andThen_ok,run_eql_struct,he]
   · simp only [Sem.run_bind,run_eqGuard_agg w _ t jl jm oy oz a8,Result.andThen_ok,run_neq_struct,he]
set_option maxHeartbeats 4000000 in
theorem Is {op:BinOp} {t:TypeId} {jl jm:Operand} {kf iP:Value} {x y r:aa} {side:Prop} (h:mV P op t x y=some (side,r)) (aj:side)
 (ao:aF w lim kf x []) (aE:aF w lim iP y []):∃v,(do eqGuard op t jl jm kf iP;binOp op t kf iP:Sem Value).run P w= .ok v w∧aF w lim v r []:=by
 unfold mV at h
 split at h
 case h_17=>
  simp only [Option.some.injEq,Prod.mk.injEq] at h
  obtain ⟨rfl,rfl⟩:=h
  cases ao with|str s oA=>
  cases aE with|str ho pj=>
  have b5:s.size+ho.size≤140737488355328:=by simpa using aj
  refine ⟨.string (s++ho),?_,?_⟩
  · simp [eqGuard,binOp,run_string_add_sum w s ho (by omega)]
  · have:=aF.str (w:=w) (lim:=lim) (s++ho) (by simpa using b5)
    simpa using this
 case h_9=>
  simp only [Option.some.injEq,Prod.mk.injEq] at h
  obtain ⟨rfl,rfl⟩:=h
  cases ao with|int k a bh ab=>
  cases aE with|int cX b xX eX=>
  have ag:=Int.not_lt.2 aj
  refine ⟨_,?_, .int _ _ (mj _ _).1 (mj _ _).2⟩
  simp [eqGuard,binOp,Op.shift,ag]
 case h_10=>
  simp only [Option.some.injEq,Prod.mk.injEq] at h
  obtain ⟨rfl,rfl⟩:=h
  cases ao with|int k a bh ab=>
  cases aE with|int cX b xX eX=>
  obtain ⟨cK,mm,nG⟩:=aj
  have ag:=Int.not_lt.2 cK
  refine ⟨_,?_, .int _ _ mm nG⟩
  simp [eqGuard,binOp,Op.shift,ag]
 case h_42=>
  split at h
  · next cj iR=>
    obtain ⟨p,aB,h⟩:=Option.map_eq_some_iff.1 h
    obtain ⟨ps,It⟩:=p
    simp only [Prod.mk.injEq] at h
    obtain ⟨rfl,rfl⟩:=h
    exact ⟨_,(B5 iR aj.1 aj.2.1 aB aj.2.2 ao aE).1, .bool _⟩
  · cases h
 case h_43=>
  split at h
  · next cj iR=>
    obtain ⟨p,aB,h⟩:=Option.map_eq_some_iff.1 h
    obtain ⟨ps,It⟩:=p
    simp only [Prod.mk.injEq] at h
    obtain ⟨rfl,rfl⟩:=h
    exact ⟨_,(B5 iR aj.1 aj.2.1 aB aj.2.2 ao aE).2, .bool _⟩
  · cases h
 all_goals first
  |(simp only [Option.some.injEq,Prod.mk.injEq] at h
    obtain ⟨rfl,rfl⟩:=h
    cases ao with|str s oA=>
    cases aE with|str ho pj=>
    refine ⟨_,?_, .bool _⟩
    simp [eqGuard,binOp,Op.stringOp,ByteArray.toList_eq]
    done)
  |(split at h
    · rename_i ai
      subst ai
      simp only [Option.some.injEq,Prod.mk.injEq] at h
      obtain ⟨rfl,rfl⟩:=h
      cases ao with|int k a bh ab=>
      cases aE with|int cX b xX eX=>
      first
      |(refine ⟨_,?_, .int _ _ (mj _ _).1 (mj _ _).2⟩
        simp [eqGuard,binOp,Op.intArith,Op.intBits,Op.intDiv,aj]
        done)
      |(refine ⟨_,?_, .bool _⟩
        simp [eqGuard,binOp,Op.intCmp,bne]
        done)
      |(refine ⟨_,?_, .int _ _ aj.2.1 aj.2.2⟩
        simp [eqGuard,binOp,Op.intDiv,aj.1]
        done)
    · cases h)
  |(simp only [Option.some.injEq,Prod.mk.injEq] at h
    obtain ⟨rfl,rfl⟩:=h
    cases ao with|int k a bh ab=>
    cases aE with|int cX b xX eX=>
    first
    |(refine ⟨_,?_, .int _ _ (mj _ _).1 (mj _ _).2⟩
      simp [eqGuard,binOp,Op.shift,show ¬b<0 from by omega]
      done)
    |(refine ⟨_,?_, .int _ _ aj.2.1 aj.2.2⟩
      simp [eqGuard,binOp,Op.shift,show ¬b<0 from by omega]
      done))
  |(simp only [Option.some.injEq,Prod.mk.injEq] at h
    obtain ⟨rfl,rfl⟩:=h
    cases ao with|bool a=>
    cases aE with|bool b=>
    refine ⟨_,?_, .bool _⟩
    simp [eqGuard,binOp,Ik aj]
    done)
  |(simp only [Option.some.injEq,Prod.mk.injEq] at h
    obtain ⟨rfl,rfl⟩:=h
    cases ao
    cases aE
    refine ⟨_,?_, .bool _⟩
    simp [eqGuard,binOp,xU aj,s3 aj]
    done)
  |(simp only [Option.some.injEq,Prod.mk.injEq] at h
    obtain ⟨rfl,rfl⟩:=h
    cases ao
    cases aE
    refine ⟨_,?_, .bool _⟩
    simp [eqGuard,binOp,Ic aj,Ig aj,Ii aj]
    done)
  |(simp only [Option.some.injEq,Prod.mk.injEq] at h
    obtain ⟨rfl,rfl⟩:=h
    obtain ⟨I,rfl,ak,aH⟩:=aj
    cases ao with|iface _ _ _ ao=>
    cases aE with|iface _ _ _ aE=>
    cases ao
    cases aE
    refine ⟨_,?_, .bool _⟩
    simp [eqGuard,binOp,xV I ak aH]
    done)
  |cases h
  |skip
theorem Iu {op:BinOp} {t:TypeId} {jl jm:Operand} {kf iP:Value} {x y r:aa} {side:Prop} (h:lG P op t jl jm x y=some (side,r)) (aj:side)
 (ao:aF w lim kf x []) (aE:aF w lim iP y []):∃v,(do eqGuard op t jl jm kf iP;binOp op t kf iP:Sem Value).run P w= .ok v w∧aF w lim v r []:=by
 unfold lG at h
 split at h
 · simp only [Option.some.injEq,Prod.mk.injEq] at h
   obtain ⟨rfl,rfl⟩:=h
   cases ao
   cases aE
   refine ⟨_,?_, .bool _⟩
   have J:=aj.2
   simp [eqGuard,binOp,rq aj.1]
   cases jl<;>cases jm<;>simp_all
 · simp only [Option.some.injEq,Prod.mk.injEq] at h
   obtain ⟨rfl,rfl⟩:=h
   cases ao
   cases aE
   refine ⟨_,?_, .bool _⟩
   have J:=aj.2
   simp [eqGuard,binOp,rq aj.1]
   cases jl<;>cases jm<;>simp_all
 · simp only [Option.some.injEq,Prod.mk.injEq] at h
   obtain ⟨rfl,rfl⟩:=h
   cases aE
   cases ao with
   |k1 gZ=>
    refine ⟨_,?_, .bool _⟩
    have J:=aj.2
    simp [eqGuard,binOp,rq aj.1]
    cases jl<;>cases jm<;>simp_all
   |ir gZ e aA bh ab=>
    refine ⟨_,?_, .bool _⟩
    simp [eqGuard,binOp,s3 aj.1,aA]
 · simp only [Option.some.injEq,Prod.mk.injEq] at h
   obtain ⟨rfl,rfl⟩:=h
   cases aE
   cases ao with
   |k1 gZ=>
    refine ⟨_,?_, .bool _⟩
    have J:=aj.2
    simp [eqGuard,binOp,rq aj.1]
    cases jl<;>cases jm<;>simp_all
   |ir gZ e aA bh ab=>
    refine ⟨_,?_, .bool _⟩
    simp [eqGuard,binOp,s3 aj.1,aA]
 · simp only [Option.some.injEq,Prod.mk.injEq] at h
   obtain ⟨rfl,rfl⟩:=h
   cases aE
   cases ao with
   |mR=>
    refine ⟨_,?_, .bool _⟩
    have J:=aj.2
    simp [eqGuard,binOp,rq aj.1]
    cases jl<;>cases jm<;>simp_all
   |mS gZ v=>
    refine ⟨_,?_, .bool _⟩
    simp [eqGuard,binOp,s3 aj.1]
 · simp only [Option.some.injEq,Prod.mk.injEq] at h
   obtain ⟨rfl,rfl⟩:=h
   cases aE
   cases ao with
   |mR=>
    refine ⟨_,?_, .bool _⟩
    have J:=aj.2
    simp [eqGuard,binOp,rq aj.1]
    cases jl<;>cases jm<;>simp_all
   |mS gZ v=>
    refine ⟨_,?_, .bool _⟩
    simp [eqGuard,binOp,s3 aj.1]
 · simp only [Option.some.injEq,Prod.mk.injEq] at h
   obtain ⟨rfl,rfl⟩:=h
   obtain ⟨I,rfl,ak,aH,rfl,aQ⟩:=aj
   cases aE with|iface _ _ _ aE=>
   cases aE
   cases ao with
   |k1 gZ=>
    refine ⟨_,?_, .bool _⟩
    simp [eqGuard,binOp,xU I,Ne.symm aQ]
   |ir gZ e aA bh ab=>
    refine ⟨_,?_, .bool _⟩
    simp [eqGuard,binOp,xV I ak aH]
 · simp only [Option.some.injEq,Prod.mk.injEq] at h
   obtain ⟨rfl,rfl⟩:=h
   obtain ⟨I,rfl,ak,aH,rfl,aQ⟩:=aj
   cases aE with|iface _ _ _ aE=>
   cases aE
   cases ao with
   |k1 gZ=>
    refine ⟨_,?_, .bool _⟩
    simp [eqGuard,binOp,xU I,Ne.symm aQ]
   |ir gZ e aA bh ab=>
    refine ⟨_,?_, .bool _⟩
    simp [eqGuard,binOp,xV I ak aH]
 · exact Is h aj ao aE
end
end Go.bb
end
section
namespace Go.bb
open Go
section
variable {P:Program} {w:World} {lim:Nat→Nat}
theorem addr_add (b off i:Nat):(⟨b,off,none⟩:Addr).add i=⟨b,off+i,none⟩:=by
 unfold Addr.add
 split
 · rename_i h;subst h;rfl
 · rfl
theorem B6 (b off n:Nat) (f:Nat→Value) (h:∀j,j<n→w.cell? ⟨b,off+j,none⟩=some (f j)):
 (loadCells ⟨b,off,none⟩ n).run P w= .ok ((List.range n).map f).toArray w:=by
 have:=run_loadCells_list (P:=P) w ⟨b,off,none⟩ ((List.range n).map f) (fun j v ba=>by
  rw [addr_add]
  by_cases aG:j<n
  · simp [aG] at ba
    rw [h j aG,ba]
  · simp [aG] at ba)
 simpa using this
theorem Iv (n i:Nat) (f:Nat→Value) (ab:i<n):((List.range n).map f).toArray.getD i undef=f i:=by
 simp [Array.getD,ab]
theorem Iw (n:Nat) (f:Nat→Value) (xs:List aa) (aJ:xs.length=n) (h:∀i,i<n→aF w lim (f i) (xs.getD i .aP) []):
 aF w lim (.agg ((List.range n).map f).toArray) (.agg xs) []:=by
 have:=aF.agg (w:=w) (lim:=lim) ((List.range n).map f).toArray xs (fun _=>[]) (by simp [aJ]) (fun i ab=>by rw [Iv n i f (by omega)];exact h i (by omega))
 rw [flatMap_nil] at this
 exact this
theorem xY (l:List aa) (off k i:Nat) (ab:i<k):((l.drop off).take k).getD i .aP=l.getD (off+i) .aP:=by
 simp [List.getD_eq_getElem?_getD,List.getElem?_take,ab]
theorem s4 {t:TypeId} {b off:Nat} {l:List aa} {f:Nat→Value} {k:Nat} (dh:jk P t l k)
 (ah:∀i,i<l.length→w.cell? ⟨b,off+i,none⟩=some (f i)) (aw:∀i,i<l.length→aF w lim (f i) (l.getD i .aP) []):
 ∃v,(loadVar t ⟨b,off+k,none⟩).run P w= .ok v w∧aF w lim v (apart P t l k) []:=by
 obtain ⟨hu,dh⟩:=dh
 by_cases aN:jM P t=true
 · simp only [aN,if_true] at dh
   have av:=B6 (P:=P) (w:=w) b (off+k) (P.cellsOf t) (fun j=>f (k+j)) (fun j aG=>by rw [Nat.add_assoc];exact ah (k+j) (by omega))
   refine ⟨.agg ((List.range (P.cellsOf t)).map fun j=>f (k+j)).toArray,?_,?_⟩
   · simp [loadVar,rp hu,aN,k5 hu,av]
   · simp only [apart,aN,if_true]
     refine Iw _ _ _ (by simp;omega) (fun i ab=>?_)
     rw [xY _ _ _ _ ab]
     exact aw (k+i) (by omega)
 · simp only [aN] at dh
   refine ⟨f k,?_,?_⟩
   · simp [loadVar,rp hu,aN,ah k dh]
   · simp only [apart,aN]
     exact aw k dh
theorem Ix {t:TypeId} {cs:Array Value} {l:List aa} {k:Nat} (dh:jk P t l k) (aj:cs.size=l.length)
 (aw:∀i,i<l.length→aF w lim (cs.getD i undef) (l.getD i .aP) []):∃v,(part t cs k).run P w= .ok v w∧aF w lim v (apart P t l k) []:=by
 obtain ⟨hu,dh⟩:=dh
 by_cases aN:jM P t=true
 · simp only [aN,if_true] at dh
   refine ⟨.agg (cs.extract k (k+P.cellsOf t)),?_,?_⟩
   · simp [part,rp hu,aN,k5 hu]
   · simp only [apart,aN,if_true]
     have:=aF.agg (w:=w) (lim:=lim) (cs.extract k (k+P.cellsOf t)) ((l.drop k).take (P.cellsOf t)) (fun _=>[]) (by simp [aj];omega) (fun i ab=>by
      have eX:i<P.cellsOf t:=by simp at ab;omega
      rw [xY _ _ _ _ eX]
      have:=aw (k+i) (by omega)
      have e:(cs.extract k (k+P.cellsOf t)).getD i undef=cs.getD (k+i) undef:=by
       simp [Array.getD_eq_getD_getElem?,Array.getElem?_extract]
       rw [if_pos (by omega)]
      rw [e];exact this)
     rw [flatMap_nil] at this
     exact this
 · simp only [aN] at dh
   refine ⟨cs.getD k undef,?_,?_⟩
   · have:k<cs.size:=by rw [aj];exact dh
     simp [part,rp hu,aN,this]
   · simp only [apart,aN]
     exact aw k dh
theorem xZ {os:Nat→List Nat} {n:Nat} (h:(List.range n).flatMap os=[]):∀i,i<n→os i=[]:=by
 intro i ab
 simp [List.flatMap_eq_nil_iff] at h
 exact h i ab
theorem Iy {v:Value} {xs:List aa} {o:List Nat} (h:aF w lim v (.agg xs) o) (aD:o=[]):∃cs:Array Value,v= .agg cs∧cs.size=xs.length∧∀i,i<xs.length→aF w lim (cs.getD i undef) (xs.getD i .aP) []:=by
 cases h with
 |agg cs _ os h aw=>exact ⟨cs,rfl,h,fun i ab=>by have:=aw i ab;rwa [xZ aD i ab] at this⟩
theorem Iz {v:Value} {xs:List aa} (h:aF w lim v (.agg xs) []):∃cs:Array Value,v= .agg cs∧cs.size=xs.length∧∀i,i<xs.length→aF w lim (cs.getD i undef) (xs.getD i .aP) []:=Iy h rfl
theorem IA {v:Value} {xs:List aa} {o:List Nat} (h:aF w lim v (.tuple xs) o) (aD:o=[]):∃cs:Array Value,v= .tuple cs∧cs.size=xs.length∧∀i,i<xs.length→aF w lim (cs.getD i undef) (xs.getD i .aP) []:=by
 cases h with
 |tuple cs _ os h aw=>exact ⟨cs,rfl,h,fun i ab=>by have:=aw i ab;rwa [xZ aD i ab] at this⟩
theorem IB {v:Value} {xs:List aa} (h:aF w lim v (.tuple xs) []):∃cs:Array Value,v= .tuple cs∧cs.size=xs.length∧∀i,i<xs.length→aF w lim (cs.getD i undef) (xs.getD i .aP) []:=IA h rfl
theorem x0 {b:Nat} {l:List aa} {os:Nat→List Nat} (h:jB w lim b (.cells l) os):∃(cs:Array Value) (e:TypeId) (oss:Nat→List Nat),w.heap[b]?=some (.cells cs e (0,0))∧cs.size=l.length∧
 ∀i,i<l.length→aF w lim (cs.getD i undef) (l.getD i .aP) (oss i):=by
 cases h with
 |cells cs e l _ ag aj aw=>exact ⟨cs,e,os,ag,aj,aw⟩
theorem vo {v:Value} {own:Bool} {l:List aa} {os:List Nat} (h:aF w lim v (.slice own l) os):aF w lim v (.slice false l) []:=h.plain
theorem s5 {v:Value} {l:List aa} (h:aF w lim v (.slice false l) []):
 (l=[]∧v= .slice none 0 0)∨(l=[]∧∃a cap,v= .slice (some a) 0 cap∧cap≤maxLen)∨
 ∃b off cap sz,∃cv:Nat→Nat→Value,v= .slice (some ⟨b,off,none⟩) l.length cap∧l.length≤cap∧cap≤maxLen∧l.length≤140737488355328∧(∀i,i<l.length→(l.getD i .aP).cells.length=sz)∧off+l.length*sz≤lim b∧
  (∀i j,i<l.length→j<sz→w.cell? ⟨b,off+i*sz+j,none⟩=some (cv i j))∧(∀i j,i<l.length→j<sz→aF w lim (cv i j) ((l.getD i .aP).cells.getD j .aP) []):=by
 cases h with
 |eR own=>exact .inl ⟨rfl,rfl⟩
 |empty a cap hm=>exact .inr (.inl ⟨rfl,a,cap,rfl,hm⟩)
 |slice b off n cap sz l cv aJ et hm cF b5 eL ah aw=>subst aJ;exact .inr (.inr ⟨b,off,cap,sz,cv,rfl,et,hm,cF,b5,eL,ah,aw⟩)
theorem x1 {v:Value} {l:List aa} (h:aF w lim v (.slice false l) []):∃a cap,v= .slice a l.length cap∧l.length≤140737488355328:=by
 rcases s5 h with ⟨rfl,rfl⟩|⟨rfl,a,cap,rfl,_⟩|⟨b,off,cap,sz,cv,rfl,_,_,h,_⟩
 · exact ⟨none,0,rfl,by simp⟩
 · exact ⟨some a,cap,rfl,by simp⟩
 · exact ⟨_,cap,rfl,h⟩
theorem some_inj {α β:Type} {a b9:α} {b ft:β} (h:some (a,b)=some (b9,ft)):a=b9∧b=ft:=by simpa using h
def lI (P:Program) (w:World) (lim:Nat→Nat) (ca:Act) (o:Oper) (x:aa):Prop:=∃v,(execOp ca.eval o).run P w= .ok (.value v) w∧aF w lim v x []
theorem rr {v:Value} {b:Bool} {o:List Nat} (h:aF w lim v (.bool b) o):v= .bool b:=by cases h;rfl
theorem k6 {v:Value} {k:IntKind} {n:Int} {o:List Nat} (h:aF w lim v (.int k n) o):v= .int k n∧k.min≤n∧n≤k.max:=by cases h;exact ⟨rfl,‹_›,‹_›⟩
theorem x2 {v:Value} {l:List UInt8} {o:List Nat} (h:aF w lim v (.str l) o):∃s:ByteArray,v= .string s∧s.data.toList=l∧s.size≤140737488355328:=by cases h;exact ⟨_,rfl,rfl,‹_›⟩
theorem pk {v:Value} {a:Addr} {o:List Nat} (h:aF w lim v (.ptr a) o):v= .pointer (some a):=by cases h;rfl
theorem s6 {v:Value} {x:aa} {o:List Nat} (h:aF w lim v (.lazy true x) o):aF w lim v x o:=by cases h;assumption
def aa.num:aa→Int
 | .int _ n=>n
 |_=>0
theorem vp {B7 B8:Value} {p q b:Bool} (aB:b=true→aF w lim B7 (.bool p) []) (aS:b=false→aF w lim B8 (.bool q) []):
 aF w lim (if b then B7 else B8) (.bool (if b then p else q)) []:=by
 cases b
 · simpa using aS rfl
 · simpa using aB rfl
theorem B9 {v:Value} {x:aa} {os:List Nat} (h:aF w lim v x os):aF w lim v (un x) os:=by
 unfold un
 split
 · exact s6 h
 · exact h
theorem IC {m:ae} {a:Operand→aa} {ca:Act} {o:Oper} {c p q:Operand} (aD:o.op= .pick c p q) {side:Prop} {x:aa} (h:bq P m a (.pick c p q)=some (side,x)) (aj:side)
 (ah:aF w lim (ca.eval c) (a c) []) (aB:aF w lim (ca.eval p) (a p) []) (aS:aF w lim (ca.eval q) (a q) []):lI P w lim ca o x:=by
 simp only [bq] at h
 replace ah:=B9 ah
 have fin:∀b:Bool,ca.eval c= .bool b→∀r,aF w lim (if b then ca.eval p else ca.eval q) r []→lI P w lim ca o r:=fun b ag r aw=>
  ⟨if b then ca.eval p else ca.eval q,by cases b<;>simp [execOp,aD,ag,asBool],aw⟩
 split at h
 · next b nH ct qi qj qk=>
   obtain ⟨rfl,rfl⟩:=some_inj h
   rw [qi] at ah;rw [qj] at aB;rw [qk] at aS
   exact fin b (rr ah) _ (vp (fun _=>aB) (fun _=>aS))
 · next b g nH ct qi qj qk=>
   obtain ⟨rfl,rfl⟩:=some_inj h
   rw [qi] at ah;rw [qj] at aB;rw [qk] at aS
   exact fin b (rr ah) _ (vp (fun ag=>by rw [aj ag] at aB;exact s6 aB) (fun _=>aS))
 · next b nH g ct qi qj qk=>
   obtain ⟨rfl,rfl⟩:=some_inj h
   rw [qi] at ah;rw [qj] at aB;rw [qk] at aS
   exact fin b (rr ah) _ (vp (fun _=>aB) (fun ag=>by rw [aj ag] at aS;exact s6 aS))
 · next b g nH dH ct qi qj qk=>
   obtain ⟨rfl,rfl⟩:=some_inj h
   rw [qi] at ah;rw [qj] at aB;rw [qk] at aS
   exact fin b (rr ah) _ (vp (fun ag=>by rw [aj.1 ag] at aB;exact s6 aB) (fun ag=>by rw [aj.2 ag] at aS;exact s6 aS))
 · cases h
theorem ID {m:ae} {a:Operand→aa} {ca:Act} {o:Oper} {t:TypeId} {y:Operand} (aD:o.op= .load t y) {side:Prop} {x:aa} (h:bq P m a (.load t y)=some (side,x)) (aj:side)
 (aE:aF w lim (ca.eval y) (a y) []) (hm:∀b fM,m b=some fM→∃os,jB w lim b fM os):lI P w lim ca o x:=by
 simp only [bq] at h
 split at h
 · rename_i l eu
   obtain ⟨rfl,rfl⟩:=some_inj h
   rw [eu] at aE
   generalize he:ca.eval y=e at aE
   cases aE with
   |ref b off l cv av ah aw=>
    obtain ⟨v,I,J⟩:=s4 (P:=P) aj ah aw
    simp only [Nat.add_zero] at I
    exact ⟨v,by simp [execOp,aD,he,Instr.loadAt,Instr.sureAddr,I],J⟩
 · rename_i b off eu
   rw [eu] at aE
   split at h
   · rename_i l ag
     obtain ⟨rfl,rfl⟩:=some_inj h
     obtain ⟨os,e4⟩:=hm _ _ ag
     obtain ⟨cs,e,oss,ql,b5,aw⟩:=x0 e4
     generalize he:ca.eval y=e at aE
     cases aE with
     |ptr=>
      obtain ⟨v,I,J⟩:=s4 (P:=P) (w:=w) (lim:=lim) (t:=t) (b:=b) (off:=0) (l:=aa.ey l) (f:=fun i=>cs.getD i undef) (k:=off) (by simpa [jk,aa.hE] using aj)
       (fun i ab=>by
         have eX:i<cs.size:=by simpa [aa.hE,b5] using ab
         simp [World.cell?,ql,Array.getD,eX])
       (fun i ab=>by rw [mg];exact (aw i (by simpa [aa.hE] using ab)).plain)
      simp only [Nat.zero_add] at I
      refine ⟨v,by simp [execOp,aD,he,Instr.loadAt,Instr.sureAddr,I],?_⟩
      have:apart P t (aa.ey l) off=(apart P t l off).plain:=by
       unfold apart
       split
       · simp [aa.plain,aa.hE,List.map_drop,List.map_take]
       · rw [mg]
      rw [←this];exact J
   · cases h
 · cases h
set_option maxHeartbeats 1000000 in
theorem IE {m:ae} {a:Operand→aa} {ca:Act} {o:Oper} {s d:TypeId} {y:Operand} (aD:o.op= .convert s d y) {side:Prop} {x:aa} (h:bq P m a (.convert s d y)=some (side,x)) (aj:side)
 (aE:aF w lim (ca.eval y) (a y) []):lI P w lim ca o x:=by
 simp only [bq] at h
 generalize he:ca.eval y=e at aE
 split at h
 · rename_i k cX n a7 eu
   obtain ⟨rfl,rfl⟩:=some_inj h
   rw [eu] at aE
   cases aE with
   |int _ _ bh ab=>
    cases hu:P.underlying s with
    |none=>simp [dG,hu] at aj
    |some u=>
     refine ⟨.int k (k.wrap n),?_, .int _ _ (mj _ _).1 (mj _ _).2⟩
     simp [execOp,aD,he,convert,eM hu,eM a7,Conv.intToInt]
 · rename_i l a7 eu
   obtain ⟨rfl,rfl⟩:=some_inj h
   rw [eu] at aE
   cases aE with
   |str b ag=>
    cases hu:P.underlying s with
    |none=>simp [dG,hu] at aj
    |some u=>
     refine ⟨.string b,?_, .str b ag⟩
     simp [execOp,aD,he,convert,eM hu,eM a7]
 · rename_i own l a7 eu
   obtain ⟨rfl,rfl⟩:=some_inj h
   obtain ⟨bY,hu,IF,jN⟩:=aj
   rw [eu] at aE
   have oB:=vo aE
   have x3:∀(oC:Option Addr) (n c:Nat),(convert s d (.slice oC n c)).run P w=(Conv.bytesToString (.slice oC n c)).run P w:=fun oC n c=>run_convert_bytes_string w s d bY oC n c hu IF a7
   have x4:∀bs:List UInt8,bs.length≤140737488355328→aF w lim (.string ⟨bs.toArray⟩) (.str bs) []:=fun bs ag=>by
    have:=aF.str (w:=w) (lim:=lim) ⟨bs.toArray⟩ (by simpa [ByteArray.size] using ag)
    simpa using this
   rcases s5 oB with ⟨rfl,rfl⟩|⟨rfl,oC,cap,rfl,_⟩|⟨b,off,cap,sz,cv,rfl,et,hm,cF,b5,eL,ah,aw⟩
   · exact ⟨.string ⟨#[]⟩,by simp [execOp,aD,he,x3,Conv.bytesToString];rfl,x4 [] (by simp)⟩
   · have aA:=run_bytesToString (P:=P) w oC 0 cap [] (by simp [loadCells,loadCellsFrom])
     refine ⟨.string ⟨#[]⟩,by simp [execOp,aD,he,x3,aA];rfl,x4 [] (by simp)⟩
   · have mW:∀i,i<l.length→(l.getD i .aP).cells=[l.getD i .aP]∧∃k:Int,l.getD i .aP= .int .u8 k:=fun i ab=>by
      have hp:l.getD i .aP∈l:=by simp [List.getD_eq_getElem?_getD,ab]
      obtain ⟨k,ai⟩:=jN _ hp
      rw [ai];exact ⟨rfl,k,rfl⟩
     have qm:0<l.length→sz=1:=fun av=>by rw [←b5 0 av,(mW 0 av).1];rfl
     have hR:∀i,i<l.length→∃k:Int,w.cell? ⟨b,off+i,none⟩=some (.int .u8 k)∧l.getD i .aP= .int .u8 k:=fun i ab=>by
      have au:=qm (by omega)
      subst au
      have I:=ah i 0 ab (by omega)
      have J:=aw i 0 ab (by omega)
      obtain ⟨IG,k,ai⟩:=mW i ab
      rw [IG] at J
      simp only [List.getD_cons_zero,ai] at J
      refine ⟨k,?_,ai⟩
      have ak:cv i 0= .int .u8 k:=(k6 J).1
      rw [←ak];simpa using I
     have IH:∀i,i<l.length→w.cell? ⟨b,off+i,none⟩=some (Value.int .u8 (l.getD i .aP).num):=fun i ab=>by
      obtain ⟨k,I,J⟩:=hR i ab
      rw [J];exact I
     have av:=B6 (P:=P) (w:=w) b off l.length (fun i=>Value.int .u8 (l.getD i .aP).num) IH
     have II:((List.range l.length).map fun i=>Value.int .u8 (l.getD i .aP).num)=((List.range l.length).map fun i=>(l.getD i .aP).num).map (Value.int .u8):=by
      rw [List.map_map];rfl
     rw [II] at av
     have aA:=run_bytesToString (P:=P) w ⟨b,off,none⟩ l.length cap _ av
     have ag:(List.range l.length).map (fun i=>UInt8.ofNat (l.getD i .aP).num.toNat)=l.map byteOf:=by
      apply List.ext_getElem?
      intro i
      by_cases ab:i<l.length
      · obtain ⟨k,I,J⟩:=hR i ab
        simp only [List.getD_eq_getElem?_getD,List.getElem?_eq_getElem ab,Option.getD_some] at J
        simp [ab,J,byteOf,aa.num]
      · simp [ab]
     refine ⟨_,by simp only [execOp,aD,he,Sem.run_bind,x3,aA];rfl,?_⟩
     rw [foldl_push_bytes,List.map_map]
     have az:((fun n:Int=>UInt8.ofNat n.toNat)∘fun i=>(l.getD i .aP).num)=fun i=>UInt8.ofNat (l.getD i .aP).num.toNat:=rfl
     rw [az,ag]
     have:=x4 (l.map byteOf) (by simpa using cF)
     simpa using this
 · cases h
end
end Go.bb
end
section
namespace Go.bb
open Go
section
variable {P:Program} {w:World} {lim:Nat→Nat}
theorem Ca {b off:Nat} {f:Field} (hu:dG P f.type=true) (aJ:P.cellsOf f.type≠0):(fieldPlace ⟨b,off,none⟩ f).run P w= .ok ⟨b,off+f.offset,none⟩ w:=by
 simp [fieldPlace,k5 hu,aJ,addr_add]
theorem x5 (l:List aa) (off i:Nat):(l.drop off).getD i .aP=l.getD (off+i) .aP:=by
 simp [List.getD_eq_getElem?_getD]
theorem Cb {m:ae} {a:Operand→aa} {ca:Act} {o:Oper} {s:TypeId} {y:Operand} {f:Nat} (aD:o.op= .fieldAddr s y f) {side:Prop} {x:aa} (h:bq P m a (.fieldAddr s y f)=some (side,x)) (aj:side)
 (aE:aF w lim (ca.eval y) (a y) []):lI P w lim ca o x:=by
 simp only [bq] at h
 generalize he:ca.eval y=e at aE
 split at h
 · next cj iR=>
   split at h
   · next fd ru=>
     split at h
     · next l eu=>
       obtain ⟨rfl,rfl⟩:=some_inj h
       obtain ⟨I,J,ak⟩:=aj
       rw [eu] at aE
       cases aE with
       |ref b off l cv av ah aw=>
        refine ⟨.pointer (some ⟨b,off+fd.offset,none⟩),by simp [execOp,aD,he,Instr.fieldAt,eM iR,ru,Instr.sureAddr,Ca I J],?_⟩
        exact .ref b (off+fd.offset) (l.drop fd.offset) (fun i=>cv (fd.offset+i)) (by simp;omega) (fun i ab=>by
         simp at ab;rw [Nat.add_assoc];exact ah _ (by omega)) (fun i ab=>by simp at ab;rw [x5];exact aw _ (by omega))
     · next b off eu=>
       obtain ⟨rfl,rfl⟩:=some_inj h
       rw [eu] at aE
       have:=pk aE
       subst this
       exact ⟨.pointer (some ⟨b,off+fd.offset,none⟩),by simp [execOp,aD,he,Instr.fieldAt,eM iR,ru,Instr.sureAddr,Ca aj.1 aj.2], .ptr _⟩
     · cases h
   · cases h
 · cases h
theorem IJ {m:ae} {a:Operand→aa} {ca:Act} {o:Oper} {s:TypeId} {y:Operand} {f:Nat} (aD:o.op= .field s y f) {side:Prop} {x:aa} (h:bq P m a (.field s y f)=some (side,x)) (aj:side)
 (aE:aF w lim (ca.eval y) (a y) []):lI P w lim ca o x:=by
 simp only [bq] at h
 generalize he:ca.eval y=e at aE
 split at h
 · next cj iR=>
   split at h
   · next fd l ru eu=>
     obtain ⟨rfl,rfl⟩:=some_inj h
     rw [eu] at aE
     obtain ⟨cs,rfl,I,J⟩:=Iz aE
     obtain ⟨v,ak,aH⟩:=Ix (P:=P) aj I J
     exact ⟨v,by simp [execOp,aD,he,Instr.field,eM iR,ru,asAgg,ak],aH⟩
   · cases h
 · cases h
theorem s7 {v:Value} {a:Addr} {n c:Nat} {o:List Nat} (h:aF w lim v (.ms a n c) o):v= .slice (some a) n c∧n≤c∧c≤maxLen:=by cases h;exact ⟨rfl,‹_›,‹_›⟩
theorem IK {m:ae} {a:Operand→aa} {ca:Act} {o:Oper} {t:TypeId} {y i:Operand} (aD:o.op= .indexAddr t y i) {side:Prop} {x:aa} (h:bq P m a (.indexAddr t y i)=some (side,x)) (aj:side)
 (aE:aF w lim (ca.eval y) (a y) []) (ab:aF w lim (ca.eval i) (a i) []):lI P w lim ca o x:=by
 simp only [bq] at h
 generalize he:ca.eval y=e at aE
 generalize vq:ca.eval i=IL at ab
 split at h
 · next el mW=>
   split at h
   · next own l k n iu s8=>
     obtain ⟨rfl,rfl⟩:=some_inj h
     obtain ⟨I,J,ak,aH,aQ⟩:=aj
     rw [iu] at aE;rw [s8] at ab
     obtain ⟨rfl,_,_⟩:=k6 ab
     have bN:n.toNat<l.length:=by omega
     rcases s5 (vo aE) with ⟨rfl,_⟩|⟨rfl,_⟩|⟨b,off,cap,sz,cv,rfl,et,hm,cF,b5,eL,ah,aw⟩
     · simp at bN
     · simp at bN
     · have au:sz=P.cellsOf el:=by rw [←b5 _ bN,aQ]
       refine ⟨.pointer (some ⟨b,off+n.toNat*P.cellsOf el,none⟩),?_,?_⟩
       · simp [execOp,aD,he,vq,Instr.indexAt,asIntOf,eM mW,ak,aH,k5 I,addr_add]
       · refine .ref b _ _ (cv n.toNat) ?_ (fun j aG=>?_) (fun j aG=>?_)
         · rw [aQ,au.symm]
           have:n.toNat*sz+sz≤l.length*sz:=by rw [←Nat.succ_mul];exact Nat.mul_le_mul_right _ bN
           omega
         · rw [aQ,←au] at aG;rw [←au];exact ah _ j bN aG
         · rw [aQ,←au] at aG;exact aw _ j bN aG
   · next b off len cap k n iu s8=>
     obtain ⟨rfl,rfl⟩:=some_inj h
     obtain ⟨I,ak,aH⟩:=aj
     rw [iu] at aE;rw [s8] at ab
     obtain ⟨rfl,_,_⟩:=k6 ab
     obtain ⟨rfl,_,_⟩:=s7 aE
     refine ⟨.pointer (some ⟨b,off+n.toNat*P.cellsOf el,none⟩),?_, .ptr _⟩
     simp [execOp,aD,he,vq,Instr.indexAt,asIntOf,eM mW,ak,aH,k5 I,addr_add]
   · cases h
 · cases h
theorem IM {m:ae} {a:Operand→aa} {ca:Act} {o:Oper} {t:TypeId} {y i:Operand} (aD:o.op= .index t y i) {side:Prop} {x:aa} (h:bq P m a (.index t y i)=some (side,x)) (aj:side)
 (aE:aF w lim (ca.eval y) (a y) []) (ab:aF w lim (ca.eval i) (a i) []):lI P w lim ca o x:=by
 simp only [bq] at h
 generalize he:ca.eval y=e at aE
 generalize vq:ca.eval i=IL at ab
 split at h
 · next l k n hu iu s8=>
   obtain ⟨rfl,rfl⟩:=some_inj h
   obtain ⟨ak,aH⟩:=aj
   rw [iu] at aE;rw [s8] at ab
   obtain ⟨rfl,_,_⟩:=k6 ab
   obtain ⟨s,rfl,rfl,b5⟩:=x2 aE
   have bN:n.toNat<s.data.size:=by simp only [Array.length_toList] at aH;omega
   refine ⟨.int .u8 (s.data[n.toNat]).toNat,?_,?_⟩
   · have a8:s[n.toNat]?=some (s.data[n.toNat]):=by
      rw [getElem?_pos s n.toNat bN];rfl
     simp [execOp,aD,he,vq,Instr.index,asIntOf,eM hu,ak,a8]
   · have ay:s.data.toList.getD n.toNat 0=s.data[n.toNat]:=by rw [List.getD_eq_getElem?_getD,Array.getElem?_toList,Array.getElem?_eq_getElem bN,Option.getD_some]
     rw [ay]
     have:=(s.data[n.toNat]).toNat_lt
     exact .int .u8 _ (by simp [IntKind.min,IntKind.signed]) (by simp [IntKind.max,IntKind.signed,IntKind.bits];omega)
 · cases h
theorem IN {m:ae} {a:Operand→aa} {ca:Act} {o:Oper} {y:Operand} {i:Nat} (aD:o.op= .extract y i) {side:Prop} {x:aa} (h:bq P m a (.extract y i)=some (side,x)) (aj:side)
 (aE:aF w lim (ca.eval y) (a y) []):lI P w lim ca o x:=by
 simp only [bq] at h
 generalize he:ca.eval y=e at aE
 split at h
 · next l eu=>
   obtain ⟨rfl,rfl⟩:=some_inj h
   rw [eu] at aE
   obtain ⟨cs,rfl,I,J⟩:=IB aE
   have ab:i<cs.size:=by rw [I];exact aj
   refine ⟨cs.getD i undef,?_,J i aj⟩
   simp [execOp,aD,he,Instr.extract,ab]
 · cases h
theorem Cc {a:Operand→aa} {ca:Act} {bh:Option Operand} {d:Nat} {p:Int} (h:kd (bh.map a) d=some p) (aw:∀y,bh=some y→aF w lim (ca.eval y) (a y) []):
 (bh=none∧p=d)∨(∃y k,bh=some y∧ca.eval y= .int k p):=by
 cases bh with
 |none=>simp [kd] at h;exact .inl ⟨rfl,h.symm⟩
 |some y=>
  have:=aw y rfl
  simp only [Option.map_some,kd] at h
  split at h
  · next oD=>cases oD
  · next k n iu=>
    simp at h;subst h
    simp at iu
    rw [iu] at this
    exact .inr ⟨y,k,rfl,(k6 this).1⟩
  · cases h
theorem s9 (vr:Bool) (len cap:Nat) {a:Operand→aa} {ca:Act} {bh ab:Option Operand} {p q:Int} (aB:kd (bh.map a) 0=some p) (aS:kd (ab.map a) len=some q)
 (mm:∀y,bh=some y→aF w lim (ca.eval y) (a y) []) (nG:∀y,ab=some y→aF w lim (ca.eval y) (a y) []) (aA:0≤p) (I:p≤q) (J:q≤cap):
 (Instr.sliceBounds vr len cap (bh.map ca.eval) (ab.map ca.eval) none).run P w= .ok (p.toNat,q.toNat,cap) w:=by
 have ay:(p≤(q.toNat:Int)):=by omega
 rcases Cc aB mm with ⟨rfl,rfl⟩|⟨y,k,rfl,aE⟩<;>rcases Cc aS nG with ⟨rfl,rfl⟩|⟨nI,cX,rfl,oB⟩
 · simp [Instr.sliceBounds]
 · simp [Instr.sliceBounds,Instr.sliceBound,oB,asIntOf,show 0≤q from by omega,J]
 · simp [Instr.sliceBounds,Instr.sliceBound,aE,asIntOf,aA,I]
 · have az:((q.toNat:Nat):Int)=q:=by omega
   simp only [Instr.sliceBounds,Instr.sliceBound,Option.map_some,Sem.run_bind,Sem.run_pure,Result.andThen_ok,aE,oB,asIntOf,Sem.run_ite,az,aA,I,J,show 0≤q from by omega,and_self,if_true]
theorem IP {m:ae} {a:Operand→aa} {ca:Act} {o:Oper} {t:TypeId} {y:Operand} {bh ab:Option Operand} (aD:o.op= .slice t y bh ab none) {side:Prop} {x:aa} (h:bq P m a (.slice t y bh ab none)=some (side,x)) (aj:side)
 (aE:aF w lim (ca.eval y) (a y) []) (mm:∀y,bh=some y→aF w lim (ca.eval y) (a y) []) (nG:∀y,ab=some y→aF w lim (ca.eval y) (a y) []):lI P w lim ca o x:=by
 simp only [bq] at h
 generalize he:ca.eval y=e at aE
 split at h
 · next l hu iu=>
   split at h
   · next p q aB aS=>
     obtain ⟨rfl,rfl⟩:=some_inj h
     obtain ⟨aA,I,J⟩:=aj
     rw [iu] at aE
     obtain ⟨s,rfl,rfl,b5⟩:=x2 aE
     have ag:=s9 (P:=P) (w:=w) false s.size s.size aB (by simpa using aS) mm nG aA I (by simpa using J)
     refine ⟨.string (s.extract p.toNat q.toNat),?_,?_⟩
     · simp [execOp,aD,he,Instr.sliceAt,Instr.slice,eM hu,ag]
     · have:=aF.str (w:=w) (lim:=lim) (s.extract p.toNat q.toNat) (by simp;omega)
       have az:(s.extract p.toNat q.toNat).data.toList=(s.data.toList.drop p.toNat).take (q- p).toNat:=by
        simp [show q.toNat- p.toNat=(q- p).toNat from by omega]
       rw [az] at this;exact this
   · cases h
 · next el own l hu iu=>
   split at h
   · next p q aB aS=>
     obtain ⟨rfl,rfl⟩:=some_inj h
     obtain ⟨nJ,aA,I,J,jN⟩:=aj
     rw [iu] at aE
     rcases s5 (vo aE) with ⟨rfl,rfl⟩|⟨rfl,oC,cap,rfl,hm⟩|⟨b,off,cap,sz,cv,rfl,et,hm,cF,b5,eL,ah,aw⟩
     · have ag:=s9 (P:=P) (w:=w) true 0 0 aB (by simpa using aS) mm nG aA I (by simpa using J)
       have ay:p.toNat=0:=by simp at J;omega
       have az:q.toNat=0:=by simp at J;omega
       refine ⟨.slice none 0 0,?_,by simpa using aF.eR false⟩
       simp [execOp,aD,he,Instr.sliceAt,Instr.slice,eM hu,ag,k5 nJ,ay,az]
     · have ag:=s9 (P:=P) (w:=w) true 0 cap aB (by simpa using aS) mm nG aA I (by simp at J;omega)
       have ay:p.toNat=0:=by simp at J;omega
       have az:q.toNat=0:=by simp at J;omega
       refine ⟨_,by simp only [execOp,aD,he,Option.map_none,Instr.sliceAt,Instr.slice,eM hu,Sem.run_bind,Result.andThen_ok,ag,k5 nJ];rfl,?_⟩
       simp only [ay,az,List.drop_nil,List.take_nil,Nat.sub_self]
       split
       · exact .empty _ _ (by omega)
       · simp;exact .empty _ _ (by omega)
     · have ag:=s9 (P:=P) (w:=w) true l.length cap aB aS mm nG aA I (by omega)
       have aJ:q.toNat- p.toNat=(q- p).toNat:=by omega
       have hlen:((l.drop p.toNat).take (q- p).toNat).length=(q- p).toNat:=by simp;omega
       have kD:∀i,i<(q- p).toNat→((l.drop p.toNat).take (q- p).toNat).getD i .aP=l.getD (p.toNat+i) .aP:=fun i ab=>xY _ _ _ _ ab
       by_cases rv:cap=p.toNat
       · subst rv
         have au:(q- p).toNat=0:=by omega
         refine ⟨.slice (some ⟨b,off,none⟩) 0 0,?_,?_⟩
         · simp [execOp,aD,he,Instr.sliceAt,Instr.slice,eM hu,ag,k5 nJ,aJ,au]
         · rw [au];exact .empty _ _ (by omega)
       · refine ⟨.slice (some ⟨b,off+p.toNat*P.cellsOf el,none⟩) (q- p).toNat (cap- p.toNat),?_,?_⟩
         · simp [execOp,aD,he,Instr.sliceAt,Instr.slice,eM hu,ag,k5 nJ,aJ,rv,addr_add]
         · by_cases au:(q- p).toNat=0
           · rw [au];exact .empty _ _ (by omega)
           · have pn:sz=P.cellsOf el:=by
              have Cd:0<l.length:=by omega
              rw [←b5 0 Cd]
              exact jN _ (by simp [List.getD_eq_getElem?_getD,Cd])
             subst pn
             have hmul:p.toNat*P.cellsOf el+(q- p).toNat*P.cellsOf el≤l.length*P.cellsOf el:=by
              rw [←Nat.add_mul];exact Nat.mul_le_mul_right _ (by omega)
             refine .slice b _ _ _ (P.cellsOf el) _ (fun i j=>cv (p.toNat+i) j) hlen (by omega) (by omega) (by omega) (fun i ab=>by rw [kD i ab];exact b5 _ (by omega)) (by omega)
              (fun i j ab aG=>?_) (fun i j ab aG=>by rw [kD i ab];exact aw _ j (by omega) aG)
             have:=ah (p.toNat+i) j (by omega) aG
             rw [Nat.add_mul,←Nat.add_assoc] at this
             exact this
   · cases h
 · next el b off len cap hu iu=>
   split at h
   · next p q aB aS=>
     obtain ⟨rfl,rfl⟩:=some_inj h
     obtain ⟨nJ,aA,I,J⟩:=aj
     rw [iu] at aE
     obtain ⟨rfl,Sa,lF⟩:=s7 aE
     have ag:=s9 (P:=P) (w:=w) true len cap aB aS mm nG aA I (by omega)
     have aJ:q.toNat- p.toNat=(q- p).toNat:=by omega
     by_cases ak:¬p<cap
     · rw [if_neg ak]
       have rv:cap=p.toNat:=by omega
       have au:(q- p).toNat=0:=by omega
       refine ⟨.slice (some ⟨b,off,none⟩) 0 0,?_, .mQ _⟩
       have oE:(cap=p.toNat)=True:=eq_true rv
       have ry:cap- p.toNat=0:=by omega
       simp only [execOp,aD,he,Instr.sliceAt,Instr.slice,Sem.run_bind,eM hu,ag,k5 nJ,aJ,au,oE,ry,Result.andThen_ok,Sem.run_pure,if_true]
       simp [ag,k5 nJ,aJ,au,oE,ry]
     rw [if_pos (Decidable.not_not.1 ak)]
     have rv:¬cap=p.toNat:=by omega
     refine ⟨.slice (some ⟨b,off+p.toNat*P.cellsOf el,none⟩) (q- p).toNat (cap- p.toNat),?_, .ms _ _ _ (by omega) (by omega)⟩
     simp [execOp,aD,he,Instr.sliceAt,Instr.slice,eM hu,ag,k5 nJ,aJ,rv,addr_add]
   · cases h
 · cases h
theorem IQ {b:Nat} {l:List (aa×aa)} {os:Nat→List Nat} (h:jB w lim b (.map l) os):∃(es:Array MapEntry) (clock:Nat),w.heap[b]?=some (.map es clock)∧es.size=l.length∧l.length≤140737488355328∧
 (∀i,i<l.length→aF w lim (es.getD i default).key (l.getD i (.aP, .aP)).1 [])∧(∀i,i<l.length→aF w lim (es.getD i default).val (l.getD i (.aP, .aP)).2 [])∧
 (∀i j,i<j→j<l.length→(es.getD i default).born<(es.getD j default).born)∧(∀i,i<l.length→(es.getD i default).born<clock):=by
 cases h with
 |map es clock l ag aj cF ai ba I J _=>exact ⟨es,clock,ag,aj,cF,ai,ba,I,J⟩
theorem run_getObj_map {b:Nat} {es:Array MapEntry} {clock:Nat} (h:w.heap[b]?=some (.map es clock)):(getObj b).run P w= .ok (.map es clock) w:=by
 simp [getObj,Sem.run,h]
theorem IS {m:ae} {a:Operand→aa} {ca:Act} {o:Oper} {args:Array Operand} {bd:Array TypeId} (aD:o.op= .call ⟨.builtin .len,args,bd⟩) {side:Prop} {x:aa}
 (h:bq P m a (.call ⟨.builtin .len,args,bd⟩)=some (side,x)) (aj:side)
 (aw:∀y∈args.toList,aF w lim (ca.eval y) (a y) []) (hm:∀b fM,m b=some fM→∃os,jB w lim b fM os):lI P w lim ca o x:=by
 simp only [bq] at h
 split at h
 · next y t iu rz=>
   have aE:=aw y (by rw [Array.mem_toList_iff];exact Array.mem_of_getElem? iu)
   generalize he:ca.eval y=e at aE
   have jq:(args.map ca.eval)[0]?=some e:=by simp [iu,he]
   have fin:∀v,(Builtin.len_ bd o.type (args.map ca.eval)).run P w= .ok v w→∀x,aF w lim v x []→lI P w lim ca o x:=fun v I x J=>
    ⟨v,by simp [execOp,aD,resolve,invoke,builtin,I],J⟩
   have ta:∀n:Nat,n≤140737488355328→aF w lim (goInt n) (.int .i64 n) []:=fun n aJ=>
    .int .i64 n (by simp [IntKind.min,IntKind.signed,IntKind.bits]) (by simp [IntKind.max,IntKind.signed,IntKind.bits];omega)
   split at h
   · next l hu eu=>
     obtain ⟨rfl,rfl⟩:=some_inj h
     rw [eu] at aE
     obtain ⟨s,rfl,rfl,b5⟩:=x2 aE
     refine fin (goInt s.size) (by simp [Builtin.len_,rz,jq,eM hu]) _ ?_
     have:=ta s.size b5
     simpa using this
   · next el own l hu eu=>
     obtain ⟨rfl,rfl⟩:=some_inj h
     rw [eu] at aE
     obtain ⟨oC,cap,rfl,av⟩:=x1 (vo aE)
     exact fin (goInt l.length) (by simp [Builtin.len_,rz,jq,eM hu]) _ (ta _ av)
   · next el p n c hu eu=>
     obtain ⟨rfl,rfl⟩:=some_inj h
     rw [eu] at aE
     obtain ⟨rfl,_,_⟩:=s7 aE
     exact fin (goInt n) (by simp [Builtin.len_,rz,jq,eM hu]) _ (.int .i64 n (by simp [IntKind.min,IntKind.signed,IntKind.bits]) (by simp [IntKind.max,IntKind.signed,IntKind.bits];omega))
   · next el hu eu=>
     obtain ⟨rfl,rfl⟩:=some_inj h
     rw [eu] at aE
     have:∃a0,e= .slice a0 0 0:=by cases aE;exact ⟨_,rfl⟩
     obtain ⟨a0,rfl⟩:=this
     exact fin (goInt 0) (by simp [Builtin.len_,rz,jq,eM hu]) _ (by simpa using ta 0 (by omega))
   · next po IT hu eu=>
     obtain ⟨rfl,rfl⟩:=some_inj h
     rw [eu] at aE
     have:e= .map none:=by cases aE;rfl
     subst this
     exact fin (goInt 0) (by simp [Builtin.len_,rz,jq,eM hu]) _ (by simpa using ta 0 (by omega))
   · next po IT b hu eu=>
     split at h
     · next l ag=>
       obtain ⟨rfl,rfl⟩:=some_inj h
       rw [eu] at aE
       have:e= .map (some b):=by cases aE;rfl
       subst this
       obtain ⟨os,e4⟩:=hm _ _ ag
       obtain ⟨es,clock,I,J,ak,_⟩:=IQ e4
       exact fin (goInt l.length) (by simp [Builtin.len_,rz,jq,eM hu,run_getObj_map I,J]) _ (ta _ ak)
     · cases h
   · cases h
 · cases h
theorem IU {t:TypeId} {v:Value} (h:(P.info? t).bind (·.zero)=some v):(zeroValue t).run P w= .ok v w:=by
 cases ab:P.info? t with
 |none=>simp [ab] at h
 |some i=>simp [ab] at h;simp [zeroValue,typeInfo,ab,h]
theorem vt {m:ae} {a:Operand→aa} {ca:Act} {o:Oper} {side:Prop} {x:aa} (h:bq P m a o.op=some (side,x)) (aj:side)
 (aw:∀y∈o.op.operands.toList,aF w lim (ca.eval y) (a y) []) (hm:∀b fM,m b=some fM→∃os,jB w lim b fM os):lI P w lim ca o x:=by
 cases aD:o.op with
 |move y=>
  rw [aD] at h aw
  obtain ⟨rfl,rfl⟩:=some_inj h
  exact ⟨_,by simp [execOp,aD],aw y (by simp [Op.operands])⟩
 |assign y=>
  rw [aD] at h aw
  obtain ⟨rfl,rfl⟩:=some_inj h
  exact ⟨_,by simp [execOp,aD],aw y (by simp [Op.operands])⟩
 |pick c p q=>rw [aD] at h aw;exact IC aD h aj (aw c (by simp [Op.operands])) (aw p (by simp [Op.operands])) (aw q (by simp [Op.operands]))
 |load t y=>rw [aD] at h aw;exact ID aD h aj (aw y (by simp [Op.operands])) hm
 |nilCheck y=>
  rw [aD] at h aw
  have aE:=aw y (by simp [Op.operands])
  generalize he:ca.eval y=e at aE
  simp only [bq] at h
  split at h
  · next l eu=>
    obtain ⟨rfl,rfl⟩:=some_inj h
    rw [eu] at aE
    cases aE with
    |ref b off l cv av ah aw=>exact ⟨_,by simp only [execOp,aD,he,Sem.run_pure], .ref b off l cv av ah aw⟩
  · next p eu=>
    obtain ⟨rfl,rfl⟩:=some_inj h
    rw [eu] at aE
    obtain rfl:=pk aE
    exact ⟨_,by simp only [execOp,aD,he,Sem.run_pure], .ptr p⟩
  · next f b c eu=>
    obtain ⟨rfl,rfl⟩:=some_inj h
    rw [eu] at aE
    cases aE with
    |func fn dr dw bn eW I J ak aH=>exact ⟨.func (.func f) dr dw,by simp only [execOp,aD,he,Sem.run_pure], .func _ dr dw b c I ‹_› ak aH⟩
  · cases h
 |binOp op t y z t2=>
  rw [aD] at h aw
  obtain ⟨v,I,J⟩:=Iu (P:=P) (w:=w) (lim:=lim) h aj (aw y (by simp [Op.operands])) (aw z (by simp [Op.operands]))
  exact ⟨v,by simp only [execOp,aD,Sem.run_bind,Result.andThen_ok] at I ⊢;rw [I];rfl,J⟩
 |unOp op t y=>
  rw [aD] at h aw
  have aE:=aw y (by simp [Op.operands])
  generalize he:ca.eval y=e at aE
  simp only [bq] at h
  split at h
  · next b eu=>
    obtain ⟨rfl,rfl⟩:=some_inj h
    rw [eu] at aE
    obtain rfl:=rr aE
    exact ⟨_,by simp only [execOp,aD,he,Op.unary,Sem.run_bind,Sem.run_pure,Result.andThen_ok], .bool _⟩
  · next k n eu=>
    obtain ⟨rfl,rfl⟩:=some_inj h
    rw [eu] at aE
    obtain ⟨rfl,_,_⟩:=k6 aE
    exact ⟨_,by simp only [execOp,aD,he,Op.unary,Op.intArith,Sem.run_bind,Sem.run_pure,Result.andThen_ok], .int _ _ (mj _ _).1 (mj _ _).2⟩
  · cases h
 |convert s d y=>rw [aD] at h aw;exact IE aD h aj (aw y (by simp [Op.operands]))
 |makeInterface t y=>
  rw [aD] at h aw
  have aE:=aw y (by simp [Op.operands])
  simp only [bq] at h
  split at h
  · cases h
  · next d kg hu=>
    obtain ⟨rfl,rfl⟩:=some_inj h
    refine ⟨.iface t (ca.eval y),?_, .iface _ _ _ aE⟩
    cases d<;>first|exact (kg _ rfl).elim|simp [execOp,aD,Instr.makeInterface,eM hu]
  · cases h
 |fieldAddr s y f=>rw [aD] at h aw;exact Cb aD h aj (aw y (by simp [Op.operands]))
 |field s y f=>rw [aD] at h aw;exact IJ aD h aj (aw y (by simp [Op.operands]))
 |indexAddr t y i=>rw [aD] at h aw;exact IK aD h aj (aw y (by simp [Op.operands])) (aw i (by simp [Op.operands]))
 |index t y i=>rw [aD] at h aw;exact IM aD h aj (aw y (by simp [Op.operands])) (aw i (by simp [Op.operands]))
 |extract y i=>rw [aD] at h aw;exact IN aD h aj (aw y (by simp [Op.operands]))
 |slice t y bh ab x6=>
  cases x6 with
  |some z=>rw [aD] at h;simp [bq] at h
  |none=>
   rw [aD] at h aw
   exact IP aD h aj (aw y (by simp [Op.operands])) (fun z au=>aw z (by simp [Op.operands,au])) (fun z au=>aw z (by simp [Op.operands,au]))
 |typeAssert y t u ok=>
  cases ok with
  |false=>rw [aD] at h;simp [bq] at h
  |true=>
   rw [aD] at h aw
   have aE:=aw y (by simp [Op.operands])
   generalize he:ca.eval y=e at aE
   simp only [bq] at h
   split at h
   · cases h
   · next d z k4 v kg hu eu=>
     split at h
     · next heq=>
       subst heq
       obtain ⟨rfl,rfl⟩:=some_inj h
       rw [eu] at aE
       cases aE with
       |iface _ kE _ ba=>
        refine ⟨.tuple #[kE, .bool true],?_,?_⟩
        · cases d<;>first|exact (kg _ _ rfl).elim|exact (kg _ rfl).elim|simp [execOp,aD,he,Instr.typeAssert,eM hu]
        · have:=aF.tuple (w:=w) (lim:=lim) #[kE, .bool true] [v, .bool true] (fun _=>[]) (by simp) (fun i ab=>by
           have:i=0∨i=1:=by simp at ab;omega
           rcases this with rfl|rfl
           · exact ba
           · exact .bool true)
          rw [flatMap_nil] at this
          exact this
     · cases h
   · next d z k4 e kg hu eu=>
     split at h
     · next heq=>
       subst heq
       obtain ⟨rfl,rfl⟩:=some_inj h
       rw [eu] at aE
       have cM:∀(n:Int) (b:Bool),IntKind.i64.min≤n→n≤IntKind.i64.max→aF w lim (.tuple #[.int .i64 n, .bool b]) (.tuple [.int .i64 n, .bool b]) []:=fun n b bh ab=>by
        have:=aF.tuple (w:=w) (lim:=lim) #[.int .i64 n, .bool b] [.int .i64 n, .bool b] (fun _=>[]) (by simp) (fun i ab=>by
         have:i=0∨i=1:=by simp at ab;omega
         rcases this with rfl|rfl
         · exact .int _ _ bh ‹_›
         · exact .bool b)
        rw [flatMap_nil] at this
        exact this
       cases aE with
       |k1 _=>
        refine ⟨.tuple #[.int .i64 0, .bool false],?_,cM 0 false (by decide) (by decide)⟩
        cases d<;>first|exact (kg _ _ rfl).elim|exact (kg _ rfl).elim|(simp only [execOp,aD,he,Instr.typeAssert,Sem.run_bind,eM hu,Result.andThen_ok,if_true,IU aj];rfl)
       |ir _ _ aA bh ab=>
        refine ⟨.tuple #[.int .i64 e, .bool true],?_,(show (!(e==0))=true from by simp [aA])▸cM e true bh ab⟩
        cases d<;>first|exact (kg _ _ rfl).elim|exact (kg _ rfl).elim|simp [execOp,aD,he,Instr.typeAssert,eM hu]
     · cases h
   · cases h
 |call c=>
  obtain ⟨x7,args,bd⟩:=c
  rw [aD] at h aw
  cases x7 with
  |value f=>simp [bq] at h
  |invoke r n=>simp [bq] at h
  |builtin b=>
   have k7:∀y∈args.toList,aF w lim (ca.eval y) (a y) []:=fun y aE=>aw y (by simpa [Op.operands,Call.operands] using aE)
   cases b with
   |len=>exact IS aD h aj k7 hm
   |max=>
    simp only [bq] at h
    split at h
    · next y z lJ=>
      have aE:=k7 y (by rw [lJ];simp)
      have au:=k7 z (by rw [lJ];simp)
      split at h
      · next k p cX q iu x8=>
        split at h
        · next ai=>
          subst ai
          obtain ⟨rfl,rfl⟩:=some_inj h
          rw [iu] at aE;rw [x8] at au
          obtain ⟨ay,h3,h5⟩:=k6 aE
          obtain ⟨az,jo,hT⟩:=k6 au
          have jq:(args.map ca.eval).toList=[.int k p, .int k q]:=by simp [lJ,ay,az]
          refine ⟨.int k (if q>p then q else p),?_,?_⟩
          · simp [execOp,aD,resolve,invoke,builtin,Builtin.max_,lJ,ay,az,Builtin.max2]
          · by_cases ah:q>p
            · rw [if_pos ah];exact .int k q jo hT
            · rw [if_neg ah];exact .int k p h3 h5
        · cases h
      · cases h
    · cases h
   |min=>
    simp only [bq] at h
    split at h
    · next y z lJ=>
      have aE:=k7 y (by rw [lJ];simp)
      have au:=k7 z (by rw [lJ];simp)
      split at h
      · next k p cX q iu x8=>
        split at h
        · next ai=>
          subst ai
          obtain ⟨rfl,rfl⟩:=some_inj h
          rw [iu] at aE;rw [x8] at au
          obtain ⟨ay,h3,h5⟩:=k6 aE
          obtain ⟨az,jo,hT⟩:=k6 au
          have jq:(args.map ca.eval).toList=[.int k p, .int k q]:=by simp [lJ,ay,az]
          refine ⟨.int k (if q<p then q else p),?_,?_⟩
          · simp [execOp,aD,resolve,invoke,builtin,Builtin.min_,lJ,ay,az,Builtin.min2]
          · by_cases ah:q<p
            · rw [if_pos ah];exact .int k q jo hT
            · rw [if_neg ah];exact .int k p h3 h5
        · cases h
      · cases h
    · cases h
   |_=>simp [bq] at h
 |_=>rw [aD] at h;simp [bq] at h
end
end Go.bb
end
section
namespace Go.bb
open Go
def ef (n:Nat) (o:Oper):Bool:=(match o.dst with|some d=>decide (d<n)|none=>true)&&o.op.operands.toList.all kc
def bB (P:Program) (n:Nat) (ops:Array Oper) (l:List Oper) (K:Fr→ae→Prop) (fr:Fr) (m:ae):Prop:=
 ∀F lim w ca Q,aV F lim w n fr m ca []→(∀lim' w' aY m' dw,K aY m'→aV F lim' w' n aY m' dw []→cU F w lim w' lim'→Q Exit.normal dw w')→wpList P ops Q l ca w
def mX (F:Nat→Prop) (lim:Nat→Nat) (w:World) (n:Nat) (Q:Exit→Fr→ae→Prop):Exit→Act→World→Prop:=
 fun e dw w'=>∃lim' aY m',Q e aY m'∧aV F lim' w' n aY m' dw []∧cU F w lim w' lim'
def cV (P:Program) (n:Nat) (c:Code) (Q:Exit→Fr→ae→Prop) (fr:Fr) (m:ae):Prop:=
 ∀F lim w ca,aV F lim w n fr m ca []→c.wp P (mX F lim w n Q) ca w
def x9 (next:Fr→ae→Prop) (Q:Exit→Fr→ae→Prop):Exit→Fr→ae→Prop
 | .normal,fr,m=>next fr m
 |e,fr,m=>Q e fr m
def ya (id:Nat) (Q:Exit→Fr→ae→Prop):Exit→Fr→ae→Prop
 | .exit yb,fr,m=>if yb=id then Q .normal fr m else Q (.exit yb) fr m
 |e,fr,m=>Q e fr m
def mn:Act:=⟨#[],[]⟩
def bp (P:Program) (f:FuncId) (args:List aa) (m:ae) (K:aa→ae→Prop):Prop:=
 (∃fn,P.funcs[f]?=some fn∧fn.body.isSome=true∧(fn.name== "runtime.NumGoroutine")=false)∧
 ∀F lim w (cargs:Array Value),cargs.size=args.length→(∀i,i<args.length→aF w lim (cargs.getD i undef) (args.getD i .aP) [])→aV F lim w 0 [] m mn []→
  Calls P f cargs w fun e w'=>∃v x lim' m' os,e= .returned v∧K x m'∧aF w' lim' v x os∧aV F lim' w' 0 [] m' mn os∧cU F w lim w' lim'
theorem bp.mono {P:Program} {f:FuncId} {args:List aa} {m:ae} {K iv:aa→ae→Prop} (h:bp P f args m K) (ai:∀x m',K x m'→iv x m'):bp P f args m iv:=
 ⟨h.1,fun F lim w cargs I J ak=>(h.2 F lim w cargs I J ak).mono fun e w' ⟨v,x,lim',m',os,he,ad,r⟩=>⟨v,x,lim',m',os,he,ai _ _ ad,r⟩⟩
section
variable {P:Program} {n:Nat} {Q:Exit→Fr→ae→Prop} {fr:Fr} {m:ae}
theorem cV.mono {c:Code} {gP:Exit→Fr→ae→Prop} (h:cV P n c Q fr m) (aS:∀e fr m,Q e fr m→gP e fr m):cV P n c gP fr m:=
 fun F lim w ca st=>wp_mono (h F lim w ca st) fun e a w ⟨lim',aY,m',q,r⟩=>⟨lim',aY,m',aS _ _ _ q,r⟩
theorem mX.from {F:Nat→Prop} {lim lim':Nat→Nat} {w w':World} (aB:cU F w lim w' lim') {e:Exit} {a:Act} {hF:World} (h:mX F lim' w' n Q e a hF):mX F lim w n Q e a hF:=by
 obtain ⟨l,f,m,q,st,cN⟩:=h
 exact ⟨l,f,m,q,st,aB.trans cN⟩
theorem IV (h:Q .normal fr m):cV P n .skip Q fr m:=fun F lim w ca st=>wp_skip ⟨lim,fr,m,h,st, .refl _ _ _⟩
theorem IW (h:Q .ret fr m):cV P n .ret Q fr m:=fun F lim w ca st=>wp_ret ⟨lim,fr,m,h,st, .refl _ _ _⟩
theorem IX {id:Nat} (h:Q (.exit id) fr m):cV P n (.exit id) Q fr m:=fun F lim w ca st=>wp_exit ⟨lim,fr,m,h,st, .refl _ _ _⟩
theorem Ce {x y:Code} (h:cV P n x (x9 (cV P n y Q) Q) fr m):cV P n (.seq x y) Q fr m:=fun F lim w ca st=>
 wp_seq (wp_mono (h F lim w ca st) fun e a w' ⟨lim',aY,m',q,fk,cN⟩=>by
  cases e with
  |normal=>exact wp_mono (q F lim' w' a fk) fun e a hF h=>h.from cN
  |_=>exact ⟨lim',aY,m',q,fk,cN⟩)
theorem Cf {x y:Code} (h:∀K:Fr→ae→Prop,(∀fr m,cV P n y Q fr m→K fr m)→cV P n x (x9 K Q) fr m):cV P n (.seq x y) Q fr m:=
 Ce (h _ fun _ _ h=>h)
theorem IY {id:Nat} {c:Code} (h:cV P n c (ya id Q) fr m):cV P n (.block id c) Q fr m:=fun F lim w ca st=>
 wp_block (wp_mono (h F lim w ca st) fun e a w' ⟨lim',aY,m',q,fk,cN⟩=>by
  cases e with
  |exit yb=>
   simp only [Exit.inBlock,ya] at q ⊢
   split at q
   · rename_i h;rw [if_pos h];exact ⟨lim',aY,m',q,fk,cN⟩
   · rename_i h;rw [if_neg h];exact ⟨lim',aY,m',q,fk,cN⟩
  |_=>exact ⟨lim',aY,m',q,fk,cN⟩)
theorem Cg {c:Operand} {x y:Code} {b:Bool} (ah:jL fr c= .bool b) (ai:kc c=true) (an:b=true→cV P n x Q fr m) (aM:b=false→cV P n y Q fr m):cV P n (.cond c x y) Q fr m:=fun F lim w ca st=>by
 obtain ⟨_,aw,rfl⟩:=s0 st ai
 rw [ah] at aw
 exact wp_cond_split (rr aw) (fun h=>an h F lim w ca st) (fun h=>aM h F lim w ca st)
theorem Ch {id:Nat} {ops:Array Oper} (ks:List Nat) (tc:(ks.all fun t=>decide (t<n))=true) (h:bB P n ops ops.toList (fun fr m=>Q .normal (fr.keep ks) m) fr m):cV P n (.region id ops false) Q fr m:=fun F lim w ca st=>
 wp_region_list (h F lim w ca _ st fun lim' w' aY m' dw q fk cN=>⟨lim',_,m',q,fk.keep (by simpa using tc),cN⟩)
theorem bB.nil {ops:Array Oper} {K:Fr→ae→Prop} (h:K fr m):bB P n ops [] K fr m:=fun F lim w ca Q st aS=>wpList_nil (aS lim w fr m ca h st (.refl _ _ _))
theorem bB.from {ops:Array Oper} {l:List Oper} {K:Fr→ae→Prop} {aY:Fr} {m':ae} (h:bB P n ops l K aY m') {F:Nat→Prop} {lim lim':Nat→Nat} {w w':World} {dw:Act} {Q:Exit→Act→World→Prop}
 (aS:∀lim' w' aY m' dw,K aY m'→aV F lim' w' n aY m' dw []→cU F w lim w' lim'→Q Exit.normal dw w') (st:aV F lim' w' n aY m' dw []) (cN:cU F w lim w' lim'):wpList P ops Q l dw w':=
 h F lim' w' dw Q st fun ji hF pq mY rA ai fk pr=>aS ji hF pq mY rA ai fk (cN.trans pr)
theorem bB.step {ops:Array Oper} {o:Oper} {l:List Oper} {K:Fr→ae→Prop} (a8:o.guard=none)
 (h:∀F lim w ca,aV F lim w n fr m ca []→∀(next:Act→World→Prop) Q,(∀lim' w' aY m' dw,bB P n ops l K aY m'→aV F lim' w' n aY m' dw []→cU F w lim w' lim'→next dw w')→o.wp P ca w next Q):bB P n ops (o::l) K fr m:=
 fun F lim w ca Q st aS=>wpList_plain a8 fun next aJ=>h F lim w ca st next Q fun _ _ _ _ _ aw fk cN=>aJ _ _ (aw.from aS fk cN)
theorem mo {o:Oper} {ca:Act} {w w':World} {v:Value} {next:Act→World→Prop} {Q:Exit→Act→World→Prop} (h:(execOp ca.eval o).run P w= .ok (.value v) w') (aJ:next (ca.put o.dst v) w'):o.wp P ca w next Q:=by
 unfold Oper.wp;rw [h];exact aJ
theorem Ci {o:Oper} {ca:Act} {w w':World} {next:Act→World→Prop} {Q:Exit→Act→World→Prop} (h:(execOp ca.eval o).run P w= .ok .skip w') (aJ:next (ca.put o.dst undef) w'):o.wp P ca w next Q:=by
 unfold Oper.wp;rw [h];exact aJ
theorem jr {o:Oper} {d:Nat} (h:ef n o=true) (a7:o.dst=some d):d<n:=by
 simp [ef,a7] at h;exact h.1
theorem jO {o:Oper} (h:ef n o=true):∀y∈o.op.operands.toList,kc y=true:=by
 simp only [ef,Bool.and_eq_true,List.all_eq_true] at h;exact h.2
theorem aV.rB {F:Nat→Prop} {lim:Nat→Nat} {w:World} {ca:Act} {bn:List Nat} (st:aV F lim w n fr m ca bn):∀b fM,m b=some fM→∃os,jB w lim b fM os:=by
 obtain ⟨os,b3,bu,h⟩:=st
 exact fun b fM ag=>⟨b3 b,(h.mem b fM ag).1⟩
theorem bB.quiet {ops:Array Oper} {o:Oper} {l:List Oper} {K:Fr→ae→Prop} {d:Nat} {side:Prop} {x:aa} (a8:o.guard=none) (a7:o.dst=some d) (ai:ef n o=true)
 (h:bq P m (jL fr) o.op=some (side,x)) (aj:side) (aw:bB P n ops l K (fr.put d x) m):bB P n ops (o::l) K fr m:=by
 refine bB.step a8 fun F lim w ca st next Q aJ=>?_
 obtain ⟨v,I,J⟩:=vt (P:=P) (w:=w) (lim:=lim) h aj (ca:=ca) (fun y aE=>by
  obtain ⟨_,aw,rfl⟩:=s0 st (jO ai y aE);exact aw) st.rB
 exact mo I (aJ lim w _ m _ aw (by rw [a7];exact st.set (jr ai a7) J) (.refl _ _ _))
end
end Go.bb
end
section
namespace Go.bb
open Go
def bc (fr:Fr) (t:Nat):aa:=(fr.get t).getD .aP
def fl (raw:Nat→aa):Operand→aa
 | .tmp t=>raw t
 | .const v=>jj v
 | .global g=> .ptr ⟨g,0,none⟩
 | .func f=> .func (.func f) [] []
def bR (raw:Nat→aa):Operand→aa
 | .tmp t=>(raw t).plain
 | .const v=>jj v
 | .global g=> .ptr ⟨g,0,none⟩
 | .func f=> .func (.func f) [] []
theorem td (fr:Fr):bR (bc fr)=jL fr:=by funext x;cases x<;>rfl
def Fr.strip (fr:Fr):List Nat→Fr
 |[]=>fr
 |s::r=>Fr.strip (fr.put s (bc fr s).plain) r
def mq:Operand→List Nat
 | .tmp t=>[t]
 |_=>[]
inductive iw where
 |stuck
 |val (side:Prop) (ss:List Nat) (m:ae) (x:aa)
 |nK (side:Prop) (ss:List Nat) (m:ae)
 |new (side:Prop) (ss:List Nat) (mk:Nat→aa) (o:e2)
 |call (f:FuncId) (args:List aa)
def k8 (place:Nat→Option (Nat×Nat)) (cells:List aa):List (Nat×aa)→Option (List aa)
 |[]=>some cells
 |(i,x)::r=>
  match place i with
  |none=>none
  |some (off,size)=>if x.cells.length=size∧off+size≤cells.length then k8 place (cells.take off++x.cells++cells.drop (off+size)) r else none
def gQ (P:Program) (t:TypeId):Option aa:=
 match (P.info? t).bind (·.zero) with
 |some z=>if nF z then some (jj z) else none
 |none=>none
def jP (P:Program) (t:TypeId):Bool:=
 match gQ P t with
 |some z=>z.cells.length==P.cellsOf t
 |none=>false
def aa.ds:aa→Bool
 | .aP| .lazy _ _| .tuple _=>false
 |_=>true
def aa.one:aa→Bool
 | .aP| .lazy _ _| .tuple _| .agg _=>false
 |_=>true
def ec (P:Program) (m:ae) (raw:Nat→aa) (st:List Nat) (d:Option Nat) (op:Op):iw:=
 match op with
 | .assign (.tmp s)=> .val True [s] m (raw s)
 | .move (.tmp s)=>if (d.map st.contains).getD false then .val True [s] m (raw s) else .val True [] m (raw s).plain
 | .extract (.tmp s) i=>
   match raw s with
   | .tuple l=>if (d.map st.contains).getD false then .val (i<l.length) [s] m (l.getD i .aP) else .val (i<l.length) [] m (l.getD i .aP).plain
   |_=> .stuck
 | .load t x=>
   if (d.map st.contains).getD false then
    match bR raw x with
    | .ptr ⟨b,off,none⟩=>
      match m b with
      |some (.cells l)=> .val (dG P t=true∧jM P t=false∧off<l.length) [] (m.bX b (some (.cells (l.set off (l.getD off .aP).plain)))) (l.getD off .aP)
      |_=> .stuck
    |_=> .stuck
   else
    match bq P m (bR raw) (.load t x) with
    |some (side,v)=> .val side [] m v
    |none=> .stuck
 | .store t a x=>
   match bR raw a with
   | .ptr ⟨b,off,none⟩=>
     match m b with
     |some (.cells l)=> .nK ((fl raw x).ds=true∧((fl raw x).cells.all aa.one)=true∧(fl raw x).cells.length=P.cellsOf t∧dG P t=true∧off+P.cellsOf t≤l.length) (mq x) (m.bX b (some (.cells (l.take off++(fl raw x).cells++l.drop (off+P.cellsOf t)))))
     |_=> .stuck
   |_=> .stuck
 | .box _ x=> .new ((bR raw x).ds=true) [] (fun b=> .ptr ⟨b,0,none⟩) (.cells (bR raw x).cells)
 | .alloc t=>
   match gQ P t with
   |some z=> .new (z.ds=true) [] (fun b=> .ptr ⟨b,0,none⟩) (.cells z.cells)
   |none=> .stuck
 | .makeSlice t n c=>
   match P.underlying t,bR raw n,bR raw c with
   |some (.slice e), .int .i64 k, .int .i64 cX=>
    match gQ P e with
    |some z=> .new (z.ds=true∧dG P e=true∧z.cells.length=P.cellsOf e∧0<P.cellsOf e∧k=cX∧0≤k∧k*P.bytesOf e≤140737488355328∧k≤140737488355328) [] (fun b=> .ms ⟨b,0,none⟩ k.toNat k.toNat) (.cells (List.replicate k.toNat z.cells).flatten)
    |none=> .stuck
   |_,_,_=> .stuck
 | .makeMap t r=>
   match P.underlying t,r.map (bR raw) with
   |some (.map _ _),none=> .new True [] (fun b=> .map b) (.map [])
   |some (.map _ _),some (.int _ _)=> .new True [] (fun b=> .map b) (.map [])
   |_,_=> .stuck
 | .build t parts=>
   if (d.map st.contains).getD false then .stuck else
   match P.underlying t,gQ P t with
   |some (.struct cj),some z=>
    match k8 (fun i=>(cj[i]?).map fun f=>(f.offset,P.cellsOf f.type)) z.cells (parts.toList.map fun p=>(p.1,bR raw p.2)) with
    |some cells=> .val (z.ds=true∧(∀f∈cj.toList,dG P f.type=true)∧∀p∈parts.toList,(bR raw p.2).ds=true) [] m (.agg cells)
    |none=> .stuck
   |_,_=> .stuck
 | .buildSlice t len parts=>
   if (d.map st.contains).getD false then .stuck else
   match P.underlying t with
   |some (.slice e)=>
    .val (dG P e=true∧0<P.cellsOf e∧jP P e=true∧len*P.cellsOf e≤16777216∧parts.toList.map (·.1)=List.range len∧∀p∈parts.toList,(bR raw p.2).ds=true∧(bR raw p.2).cells.length=P.cellsOf e) [] m
      (.slice true (parts.toList.map fun p=>bR raw p.2))
   |_=> .stuck
 | .call ⟨.builtin .append,args,bd⟩=>
   match args.toList,bd.toList with
   |[.tmp s,y],[t,u]=>
    match P.underlying t,P.underlying u,raw s,bR raw y with
    |some (.slice e),some (.slice _), .slice true l, .slice _ l'=>
     .val (t=u∧dG P e=true∧0<P.cellsOf e∧jP P e=true∧(l.length+l'.length)*P.bytesOf e≤140737488355328∧l.length+l'.length≤140737488355328∧(∀x∈l,x.cells.length=P.cellsOf e)∧∀x∈l',x.cells.length=P.cellsOf e∧x.cells.all aa.one=true) [s] m
       (.slice true (l++l'))
    |_,_,_,_=> .stuck
   |[.const (.slice none 0 0),y],[t,u]=>
    match P.underlying t,P.underlying u,bR raw y with
    |some (.slice e),some (.slice _), .slice _ l'=>
     .val (t=u∧dG P e=true∧0<P.cellsOf e∧jP P e=true∧l'.length*P.bytesOf e≤140737488355328∧∀x∈l',x.cells.length=P.cellsOf e∧x.cells.all aa.one=true) [] m
       (.slice true l')
    |_,_,_=> .stuck
   |_,_=> .stuck
 | .call ⟨.value (.func f),args,_⟩=> .call f (args.toList.map (bR raw))
 | .call ⟨.value (.tmp t),args,_⟩=>
   match raw t with
   | .func (.func f) first lK=> .call f (first++args.toList.map (bR raw)++lK)
   |_=> .stuck
 |op=>
  match bq P m (bR raw) op with
  |some (side,x)=> .val side [] m x
  |none=> .stuck
def rC (P:Program) (f:FuncId) (args:List aa) (m:ae) (x:aa):Prop:=∀K:aa→ae→Prop,K x m→bp P f args m K
def vu (K:Fr→ae→Prop) (d:Option Nat) (fr:Fr):aa→ae→Prop:=fun x m=>
 match d with
 |some d=>K (fr.put d x) m
 |none=>K fr m
def dX (fr:Fr) (d:Option Nat) (x:aa):Fr:=
 match d with
 |some d=>fr.put d x
 |none=>fr
def vv (g:Bool):aa→aa
 | .lazy h x=> .lazy (!g||h) x
 |x=>x
def IZ:Op→Bool
 | .pick _ _ _=>true
 |_=>false
def pt (raw:Nat→aa) (g:Bool) (op:Op) (y:Operand):aa:=if IZ op then vv g (bR raw y) else un (vv g (bR raw y))
def rD:aa→Bool→Option Bool
 | .bool c,true=>some c
 | .bool c,false=>some (!c)
 | .lazy h (.bool c),true=>some (h&&c)
 | .lazy h (.bool c),false=>some (h&&!c)
 |_,_=>none
def mr (P:Program) (ops:Array Oper) (st:List Nat) (o:Oper) (K:Fr→ae→Prop) (fr:Fr) (m:ae):Prop:=
 match o.guard with
 |none=>
  match ec P m (bc fr) st o.dst o.op with
  | .val side ss m' x=>side∧K (dX (fr.strip ss) o.dst x) m'
  | .nK side ss m'=>side∧K (dX (fr.strip ss) o.dst .aP) m'
  | .new side ss mk fM=>side∧∀b,m b=none→K (dX (fr.strip ss) o.dst (mk b)) (m.bX b (some fM))
  | .call f args=>bp P f args m (vu K o.dst fr)
  | .stuck=>False
 |some (j,b)=>
  match (ops[j]?).bind (·.dst),o.dst with
  |some g,some d=>
   match rD (bc fr g) b with
   |some z=>
    match o.op with
    | .call ⟨.value (.func f),args,_⟩=>
      ∃x,(z=true→rC P f (args.toList.map (pt (bc fr) z o.op)) m x)∧K (fr.put d (.lazy z x.plain)) m
    | .call ⟨.value (.tmp t),args,_⟩=>
      match pt (bc fr) z o.op (.tmp t) with
      | .func (.func f) first lK=>∃x,(z=true→rC P f (first++args.toList.map (pt (bc fr) z o.op)++lK) m x)∧K (fr.put d (.lazy z x.plain)) m
      |_=>False
    |op=>
     match bq P m (pt (bc fr) z op) op with
     |some (side,x)=>(z=true→side)∧K (fr.put d (.lazy z x)) m
     |none=>False
   |none=>False
  |_,_=>False
end Go.bb
end
