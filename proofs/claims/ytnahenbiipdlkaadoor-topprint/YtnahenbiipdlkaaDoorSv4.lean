/-
  The executor: a new builder; calls that know the base of memory; tables; a law over a table.
-/
import Derived.Test.YtnahenbiipdlkaaDoorWyN
import Derived.Lib.ItoaNum
import Derived.Sort.Grow
import Derived.Test.YtnahenbiipdlkaaDoorWwS
import Derived.Test.YtnahenbiipdlkaaDoorWxz
import Derived.Lib.AtoiErrMem
import Derived.Lib.Atoi
import Derived.Below
import Derived.Lib.AtoiAllCases
import Derived.Shelf.Strconv.AtoiAll
import Derived.Shelf.Strings.Prefix
import Derived.Shelf.Slices.Clone
import Derived.Shelf.Slices.CompactS
import Derived.Shelf.Slices.Turned
import Derived.Shelf.Small.Wraps
import Derived.Lib.RowBridge
import Derived.Test.YtnahenbiipdlkaaDoorProg
import Derived.Lib.Strings
import Derived.Lib.Slices
import Derived.Lib.Walk
import Derived.Lib.Builder
import Derived.Lib.AppendStr
import Derived.Lib.UnsafeStr
import Derived.WalkKit
import Derived.Laws.Externs
import Derived.Laws.IdiomCopy
import Derived.ProofKit
import Derived.OwnWalk
import Derived.Shelf.Small.Bits
import Derived.Shelf.Small.Strs
import Derived.Shelf.Strconv.Atoi
import Derived.Shelf.Strconv.Itoa3
import Derived.Shelf.LaysM
import Derived.Shelf.LaysC
import Derived.Shelf.Strconv.AtoiErr
section
namespace Go.b4
open Go Go.bb
section
variable {c:fF} {L:List br} {fr:bM} {m:ae}
theorem E0 {P:Program} {b0:List Nat} {d:Nat} {t eb:TypeId} {i:TypeInfo} {k:cg} (ab:P.info? t=some i) (au:i.zero=some (.agg #[.pointer none, .slice none 0 0])) (aj:(oW L.length fr&&lU L.length L)=true)
 (h:k ((d, .loc L.length 0)::fr) (L++[.obj (.bx t eb [])]) m):hy P b0 (some d) (.alloc t) fr L m k:=
 ⟨fun new g n ops ty pos af l K ai aJ ad=>MB (eb:=eb) ab au ai fun b ag=>by
   simp only [Bool.and_eq_true] at aj
   have aJ:uv fr L (.obj (.bx t eb [])) (fun b bK=>k ((d, .loc b 0)::fr) bK m):=cY.2 ⟨aj.1,cY.2 ⟨aj.2,h⟩⟩
   obtain ⟨h,dH,ay,az,cB,_⟩:=wI g aJ ag
   have:=ad _ _ _ (b0++new++[b]) (by rw [List.append_assoc];exact List.prefix_append _ _) dH h
   rw [ay] at this
   simp only [bf,fb,den,cB] at this
   rw [az] at this
   exact this⟩
theorem fQ {b0:List Nat} {P:Program} {f:FuncId} {vs:List aT} {Q:aT→List br→ae→Prop} (is:List Nat) (os:List br) (y:aT) (ab:(isOk L.length is&&Nat.beq is.length os.length)=true)
 (h:∀bs (aq:ae),eG (hI bs is) aq→(∀b o,m b=some o→aq b=some o)→∀(K:aa→ae→Prop),K (den bs y) (aq.a1 (kQ bs is os))→bp P f (bl bs vs) (aq.a1 (kQ bs is (lX L is))) K) (gU:Q y (iX L is os) m):n2 P b0 f vs fr L m Q:=by
 simp only [Bool.and_eq_true] at ab
 refine .one y (iX L is os) m (fun new g K ad=>?_) (by rw [pR,Nat.beq_refl];rfl) gU
 have di:=uJ g.kL (by rw [g.len];exact ab.1)
 have ay:=sl g ab.1 (si L is).symm
 rw [Ae ab.1] at ay
 rw [ay]
 refine h (b0++new) _ ⟨di,fun b ag=>by simp [qU,ag]⟩ (fun b o ag=>?_) K ?_
 · have I:b∉b0++new:=fun hm=>by rw [g.fresh b hm] at ag;cases ag
   have J:b∉hI (b0++new) is:=fun hm=>by
    obtain ⟨i,jt,e⟩:=sj hm
    have bN:=(sk ab.1).1 i jt
    rw [←g.len] at bN
    apply I
    rw [e,List.getD_eq_getElem?_getD,List.getElem?_eq_getElem bN]
    exact List.getElem_mem _
   simp only [qU,if_neg J,bC]
   rw [nY (by rw [oV g.len];exact I)]
   exact ag
 · have:=ad [] (by rw [List.append_nil];exact ⟨g.kL,by rw [pR];exact g.len,g.fresh⟩)
   rw [List.append_nil,sl g ab.1 (Nat.eq_of_beq_eq_true ab.2)] at this
   exact this
end
end Go.b4
namespace Go.bb
open Go
section
variable {P:Program} {F:Nat→Prop} {lim:Nat→Nat} {w:World} {n:Nat} {fr:Fr} {m:ae} {ca:Act} {bn:List Nat}
theorem aV.grow (st:aV F lim w n fr m ca bn) (os:Array Obj) (k:Nat):aV F lim (Sort.grow (w.drewN k) os) n fr m ca bn:=by
 have aL:(w.drewN k).heap=w.heap:=by simp
 have av:∀c,c<w.heap.size→(Sort.grow (w.drewN k) os).heap[c]?=w.heap[c]?:=fun c ah=>by
  simp only [Sort.grow,aL]
  rw [Array.getElem?_append_left ah]
 have aM:∀c,w.heap.size≤c→lim c=0:=fun c ah=>by
  obtain ⟨_,_,_,s⟩:=st
  exact (s.fresh c ah).1
 have hm:∀b,m b≠none→b<w.heap.size:=fun b ag=>st.ow ag
 have hR:∀b o,o<lim b→b<w.heap.size:=fun b o aD=>st.pg aD
 refine st.world (by simp [Sort.grow]) (fun _=>Nat.le_refl _) (fun b o aD=>by simp [World.cell?,av b (hR b o aD)]) (fun c ah=> .inr ⟨av c ah,rfl⟩) (fun b ag=>⟨av b (hm b ag),rfl⟩) (fun c ah=>aM c (by simp [Sort.grow] at ah;omega))
theorem MC (st:aV F lim w n fr m ca bn) (os:Array Obj) (k:Nat):cU F w lim (Sort.grow (w.drewN k) os) lim:=by
 have aL:(w.drewN k).heap=w.heap:=by simp
 have av:∀c,c<w.heap.size→(Sort.grow (w.drewN k) os).heap[c]?=w.heap[c]?:=fun c ah=>by
  simp only [Sort.grow,aL]
  rw [Array.getElem?_append_left ah]
 refine ⟨rfl,rfl,rfl,by simp [Sort.grow],fun b ag=>⟨av b (st.ov ag),rfl⟩,fun _=>Nat.le_refl _,fun b o aD=>by simp [World.cell?,av b (st.pg aD)]⟩
def wS (e:TypeId) (z:Nat×Nat) (k:IntKind) (e0:List Int):e2:= .lE e z (e0.map (Value.int k)).toArray
theorem MD {e:TypeId} {z:Nat×Nat} {k:IntKind} {e0:List Int} {b:Nat} {os:Nat→List Nat} {name:String} (h:jB w lim b (wS e z k e0) os) (a8:P.globalNamed name=some b):Lib.TabIs P w name k e0:=by
 unfold wS at h
 cases h with
 |lE _ _ _ _ ag=>simp only [Lib.TabIs,World.var?,a8,Option.bind_some,ag]
theorem ME {f:FuncId} {name:String} {Al:Nat} {e:TypeId} {z:Nat×Nat} (aM:∃fn,P.funcs[f]?=some fn∧fn.body.isSome=true∧(fn.name== "runtime.NumGoroutine")=false) (a8:P.globalNamed name=some Al)
 (gw:∀(n:Int),-9223372036854775808≤n→n≤9223372036854775807→∀w,Lib.TabIs P w name .u64 Lib.pow10Tab→Calls P f #[.int .i64 n] w fun e w'=>e= .returned (.string ⟨(Lib.itoa n).toArray⟩)∧∃k os,w'=Sort.grow (w.drewN k) os)
 {n:Int} {K:aa→ae→Prop} (hm:m Al=some (wS e z .u64 Lib.pow10Tab)) (hlen:(Lib.itoa n).length≤140737488355328) (ad:K (.str (Lib.itoa n)) m):bp P f [.int .i64 n] m K:=by
 refine ⟨aM,fun F lim w cargs aj aw st=>?_⟩
 obtain ⟨x,rfl⟩:=wO aj
 have nu:aF w lim x (.int .i64 n) []:=aw 0 (by simp)
 obtain ⟨rfl,bh,ab⟩:x= .int .i64 n∧-9223372036854775808≤n∧n≤9223372036854775807:=by
  cases nu with
  |int _ _ bh ab=>exact ⟨rfl,bh,ab⟩
 have Am:Lib.TabIs P w name .u64 Lib.pow10Tab:=by
  obtain ⟨os,b3,bu,s⟩:=st
  exact MD (s.mem Al _ hm).1 a8
 refine (gw n bh ab w Am).mono fun ay eN ⟨he,k,os,o6⟩=>?_
 subst he;subst o6
 exact ⟨_,_,lim,_,[],rfl,ad, .str ⟨(Lib.itoa n).toArray⟩ (by rw [show (⟨(Lib.itoa n).toArray⟩:ByteArray).size=(Lib.itoa n).length from rfl];exact hlen),st.grow os k,MC st os k⟩
end
end Go.bb
end
section
namespace Go.bb
open Go
inductive gC:aa→Prop
 |bool (b:Bool):gC (.bool b)
 |int (k:IntKind) (n:Int) (h:k≠ .u64):gC (.int k n)
 |str (s:List UInt8):gC (.str s)
 |slice (l:List aa) (I:∀x∈l,x.cells≠[]) (h:∀x∈l,∀y∈x.cells,gC y):gC (.slice false l)
 |agg (l:List aa) (h:∀y∈l,gC y):gC (.agg l)
theorem MF {w:World} {lim:Nat→Nat} {n:Int} {x:aa} {os:List Nat} (h:aF w lim (.int .u64 n) x os) (ao:gC x):False:=by
 cases ao with
 |bool b=>cases h
 |int k m ai=>
  cases h with
  |int=>exact ai rfl
 |str s=>cases h
 |slice l E1 av=>cases h
 |agg l av=>cases h
section
variable {P:Program}
end
end Go.bb
end
section
namespace Go.b4
open Go Go.bb
def qW (m' m:ae):Prop:=∀b ez,m' b=some ez→∃o,m b=some o∧(ez=o∨∃l l',o= .cells l∧ez= .cells l'∧l'.length=l.length∧∀i,kN (l'.getD i .aP) (l.getD i .aP))
section
variable {P:Program} {F:Nat→Prop} {lim:Nat→Nat} {w:World} {n:Nat} {fr:Fr} {m m':ae} {ca:Act} {bn:List Nat}
theorem aV.pV (st:bb.aV F lim w n fr m ca bn) (aj:qW m' m):bb.aV F lim w n fr m' ca bn:=by
 classical
 obtain ⟨os,b3,bu,h⟩:=st
 let p:Nat→Nat→Prop:=fun b i=>m' b=m b∨∃l l',m b=some (.cells l)∧m' b=some (.cells l')∧l'.getD i .aP=l.getD i .aP
 have aJ:∀b,m b=none→m' b=none:=fun b ag=>by
  cases e9:m' b with
  |none=>rfl
  |some o=>obtain ⟨kP,J,_⟩:=aj b o e9;rw [ag] at J;cases J
 refine ⟨os,fun b i=>if p b i then b3 b i else [],bu,h.size,h.defers,h.dv,fun b ez ag=>?_,h.ea,fun b ez ag i=>?_,h.fs,fun c ah=>⟨(h.free c ah).1,aJ c (h.free c ah).2.1,(h.free c ah).2.2⟩,fun b ag=>⟨(h.fresh b ag).1,(h.fresh b ag).2.1,aJ b (h.fresh b ag).2.2⟩⟩
 · obtain ⟨o,aD,aw⟩:=aj b ez ag
   obtain ⟨e4,J,ak⟩:=h.mem b o aD
   refine ⟨?_,J,ak⟩
   rcases aw with rfl|⟨l,l',rfl,rfl,hlen,hle⟩
   · have:(fun i=>if p b i then b3 b i else [])=b3 b:=by
      funext i
      exact if_pos (.inl (ag.trans aD.symm))
     rw [this];exact e4
   · cases e4 with
     |cells cs e _ _ MG b5 tU=>
      refine .cells cs e l' _ MG (b5.trans hlen.symm) fun i ab=>?_
      have eX:i<l.length:=hlen▸ab
      by_cases aB:p b i
      · rw [if_pos aB]
        have e:l'.getD i .aP=l.getD i .aP:=by
         rcases aB with aB|⟨a,b9,aH,aQ,bw⟩
         · rw [ag,aD] at aB
           simp only [Option.some.injEq,e2.cells.injEq] at aB
           rw [aB]
         · rw [aD] at aH;rw [ag] at aQ
           simp only [Option.some.injEq,e2.cells.injEq] at aH aQ
           rw [aH,aQ];exact bw
        rw [e];exact tU i eX
      · rw [if_neg aB]
        rcases hle i with e|e
        · exact absurd (.inr ⟨l,l',aD,ag,e⟩) aB
        · exact e _ _ _ _ (tU i eX)
 · obtain ⟨o,aD,_⟩:=aj b ez ag
   show (if p b i then b3 b i else []).Nodup∧∀c∈(if p b i then b3 b i else []),_
   split
   · exact h.dn b o aD i
   · exact ⟨List.nodup_nil,fun c ah=>by cases ah⟩
end
section
variable {P:Program} {n:Nat} {fr:Fr} {m m':ae} {ops:Array Oper} {l:List Oper} {K:Fr→ae→Prop}
theorem bB.pV (aj:qW m' m) (h:bB P n ops l K fr m'):bB P n ops l K fr m:=fun F lim w ca Q st aS=>h F lim w ca Q (aV.pV st aj) aS
theorem cV.pV {c:Code} {Q:Exit→Fr→ae→Prop} (aj:qW m' m) (h:cV P n c Q fr m'):cV P n c Q fr m:=fun F lim w ca st=>h F lim w ca (aV.pV st aj)
end
theorem kN.aP (x:aa):kN .aP x:= .inr fun _ _ _ _ _=> .aP _
theorem kN.eR:kN .eR (.slice true []):= .inr fun w lim v os h=>by
 generalize ao:aa.slice true []=x at h
 cases h with
 |eR o=>exact .mQ _
 |own b n cap sz l cv cur e aJ et hm cF aA ag jK b5 eL ah aw=>
  cases ao
  simp only [List.length_nil] at aJ
  subst aJ
  rcases aA with aA|aA
  · omega
  · subst aA;exact .mQ _
 |_=>cases ao
mutual
def o7 (i:Nat):aT→Bool
 | .loc j _| .ms j _ _| .mp j| .iB j _ _ _| .bL j _ _ _=>Nat.beq i j
 | .agg l| .cM l=>wT i l
 | .fn _ a c=>bif wT i a then true else wT i c
 |_=>false
def wT (i:Nat):List aT→Bool
 |[]=>false
 |v::r=>bif o7 i v then true else wT i r
end
theorem getD_set_ne {bs:List Nat} {i j b:Nat} (h:Nat.beq i j=false):(bs.set i b).getD j 0=bs.getD j 0:=by
 have:i≠j:=fun e=>by subst e;rw [Nat.beq_refl] at h;cases h
 simp [List.getD_eq_getElem?_getD,List.getElem?_set_ne this]
def E2 (ez o:e2):Prop:=ez=o∨∃l l',o= .cells l∧ez= .cells l'∧l'.length=l.length∧∀i,kN (l'.getD i .aP) (l.getD i .aP)
section
variable {bs:List Nat} {L bK:List br} {m:ae}
end
end Go.b4
end
section
namespace Go.b4
open Go Go.bb
section
variable {P:Program} {T:hc} {b0:List Nat} {fr:bM} {L:List br} {m:ae} {K:cg}
structure E3 (T:hc) (t e w y:Nat) (wU:List aa):Prop where
 t:cQ T t fun i=>iW i fun bY=>bY=e
 e:cQ T e fun j=>j.n=w∧j.y=y∧(match j.z with|[]=>False|_=>True)∧aa.ey (bl [] (ju j.z))=wU
theorem E3.get (aC:eO P T=true) {t e w y:Nat} {wU:List aa} (h:E3 T t e w y wU):P.underlying t=some (.slice e)∧dG P e=true∧0<w∧jP P e=true∧P.cellsOf e=w∧P.bytesOf e=y∧∃z,gQ P e=some z∧z.cells.map aa.plain=wU∧z.ds=true:=by
 obtain ⟨i,dp,I⟩:=dJ aC h.t
 unfold iW at I
 split at I
 · rename_i az aj
   subst I
   obtain ⟨h5,hT,mD,o1⟩:=dp.bL aj
   obtain ⟨j,e5,J,ak,aH,aQ⟩:=dJ aC h.e
   have au:j.z≠[]:=fun e=>by rw [e] at aH;exact aH
   obtain ⟨z,jX,z2,z3,_⟩:=e5.gQ (bs:=[]) au
   refine ⟨h5,hT,by rw [←J,←e5.cells];exact mD,o1,by rw [e5.cells,J],by rw [e5.bytes,ak],z,jX,?_,z3⟩
   rw [z2,←aa.hE];exact aQ
 · exact I.elim
end
end Go.b4
end
section
namespace Go.bb
open Go
section
variable {P:Program} {F:Nat→Prop} {lim:Nat→Nat} {w:World} {n:Nat} {fr:Fr} {m:ae} {ca:Act} {bn:List Nat}
end
end Go.bb
namespace Go.b4
open Go Go.bb
section
variable {bs:List Nat} {L bK:List br} {m:ae} {fr:bM}
theorem E4 (bs:List Nat) (v:aT):∀(l:List aT) (j:Nat),bl bs (l.set j v)=(bl bs l).set j (den bs v)
 |[],j=>by simp only [List.set_nil,bl]
 |x::r,0=>by simp only [List.set_cons_zero,bl]
 |x::r,j+1=>by simp only [List.set_cons_succ,bl,E4 bs v r j]
theorem MH {c:fF} {A:cg} {R:Prop} (h:A fr L m):o2 (uz c A fr L m) R:=⟨.inl ⟨fun new g n hf Q gU=>gU fr L m (c.bs++new) (List.prefix_append _ _) g h⟩⟩
end
end Go.b4
end
section
namespace Go.b4
open Go Go.bb
def pW (E:Nat):List aT→List aT
 |[]=>[]
 |v::r=>ir E v::pW E r
def An (E:Nat):br→br
 | .cells l=> .cells (pW E l)
 | .obj o=> .obj o
def gL (E:Nat):List br→List br
 |[]=>[]
 |o::r=>An E o::gL E r
section
variable {fr:bM} {L:List br} {m:ae}
theorem Ao (E:Nat):∀(l:List aT),(pW E l).length=l.length
 |[]=>rfl
 |v::r=>by simp only [pW,List.length_cons,Ao E r]
theorem E5 (E:Nat):∀(l:List br),(gL E l).length=l.length
 |[]=>rfl
 |v::r=>by simp only [gL,List.length_cons,E5 E r]
theorem Ap (bs:List Nat) (E:Nat):∀(l:List aT) (i:Nat),kN ((bl bs (pW E l)).getD i .aP) ((bl bs l).getD i .aP)
 |[],i=> .inl rfl
 |v::r,0=>by simp only [pW,bl,List.getD_cons_zero];exact Es bs E v
 |v::r,i+1=>by simp only [pW,bl,List.getD_cons_succ];exact Ap bs E r i
theorem MI (bs:List Nat) (E:Nat) (o:br):E2 (fb bs (An E o)) (fb bs o):=by
 cases o with
 |obj o=>exact .inl rfl
 |cells l=>exact .inr ⟨_,_,rfl,rfl,by rw [kK,kK,Ao],Ap bs E l⟩
theorem E6 (E:Nat):∀(l:List br) (i:Nat),(gL E l)[i]?=(l[i]?).map (An E)
 |[],i=>by simp [gL]
 |v::r,0=>by simp [gL]
 |v::r,i+1=>by simp [gL,E6 E r i]
theorem bp.pV {P:Program} {f:FuncId} {args:List aa} {K:aa→ae→Prop} {m':ae} (aj:qW m' m) (h:bp P f args m' K):bp P f args m K:=
 ⟨h.1,fun F lim w cargs b5 aw st=>h.2 F lim w cargs b5 aw (aV.pV st aj)⟩
theorem qW.a1 {bs:List Nat} {is:List Nat} {os dI:List br} {aq:ae} (di:(hI bs is).Nodup) (av:is.length=os.length) (lD:dI.length=os.length) (h:∀(i:Nat) ez,dI[i]?=some ez→∃o,os[i]?=some o∧E2 (fb bs ez) (fb bs o)):qW (aq.a1 (kQ bs is dI)) (aq.a1 (kQ bs is os)):=by
 intro b ez ag
 by_cases hm:b∈hI bs is
 · obtain ⟨i,Ac,rfl⟩:=sj hm
   obtain ⟨j,aG⟩:=List.getElem?_of_mem Ac
   have rS:j<dI.length:=by
    rcases Nat.lt_or_ge j is.length with h|h
    · omega
    · rw [List.getElem?_eq_none h] at aG;cases aG
   have lf:=List.getElem?_eq_getElem rS
   obtain ⟨o,aD,hle⟩:=h j _ lf
   rw [z8 di (by omega) aG lf] at ag
   obtain rfl:=Option.some.inj ag
   exact ⟨_,z8 di av aG aD,hle⟩
 · rw [Aa hm] at ag
   exact ⟨ez,by rw [Aa hm];exact ag, .inl rfl⟩
theorem MJ {b0:List Nat} {P:Program} {f:FuncId} {vs:List aT} {Q:aT→List br→ae→Prop} {σ:Type} (E:Nat) (is:List Nat) (fP:σ→Prop) (y:σ→aT) (os:σ→List br) (ab:isOk L.length is=true) (av:∀x,(os x).length=is.length)
 (h:∀bs (aq:ae),eG (hI bs is) aq→(∀b o,m b=some o→aq b=some o)→∀(K:aa→ae→Prop),(∀x,fP x→K (den bs (y x)) (aq.a1 (kQ bs is (os x))))→bp P f (bl bs vs) (aq.a1 (kQ bs is (gL E (lX L is)))) K)
 (gU:∀x,fP x→fD (iX L is (os x)) fun bK=>Q (y x) bK m):n2 P b0 f vs fr L m Q:=by
 refine ⟨σ,fP,y,fun x=>iX L is (os x),fun _=>m,fun new g K ad=>?_,fun x=>by rw [pR,Nat.beq_refl];rfl,fun x ao=>by have:=gU x ao;rwa [gJ] at this⟩
 have di:=uJ g.kL (by rw [g.len];exact ab)
 have ay:=sl g ab (si L is).symm
 rw [Ae ab] at ay
 rw [ay]
 refine bp.pV (qW.a1 di (si L is).symm (E5 E _) fun i ez lf=>?_) (h (b0++new) _ ⟨di,fun b ag=>by simp [qU,ag]⟩ (fun b o ag=>?_) K fun x ao=>?_)
 · rw [E6] at lf
   cases a8:(lX L is)[i]? with
   |none=>rw [a8] at lf;cases lf
   |some o=>
    rw [a8] at lf
    obtain rfl:=Option.some.inj lf
    exact ⟨o,rfl,MI _ E o⟩
 · have I:b∉b0++new:=fun hm=>by rw [g.fresh b hm] at ag;cases ag
   have J:b∉hI (b0++new) is:=fun hm=>by
    obtain ⟨i,jt,e⟩:=sj hm
    have bN:=(sk ab).1 i jt
    rw [←g.len] at bN
    apply I
    rw [e,List.getD_eq_getElem?_getD,List.getElem?_eq_getElem bN]
    exact List.getElem_mem _
   simp only [qU,if_neg J,bC]
   rw [nY (by rw [oV g.len];exact I)]
   exact ag
 · have:=ad x ao [] (by rw [List.append_nil];exact ⟨g.kL,by rw [pR];exact g.len,g.fresh⟩)
   rw [List.append_nil,sl g ab (av x).symm] at this
   exact this
end
end Go.b4
end
section
namespace Go.b4
open Go Go.bb
def wV (st:Bool) (z:List Z):aa:=bif st then .agg (aa.ey (bl [] (ju z))) else ((bl [] (ju z)).getD 0 .aP).plain
theorem fu.zeroV {P:Program} {t:Nat} {i:gl} (cx:fu P t i) (au:i.z≠[]):∃z,bb.gQ P t=some z∧z.plain=wV i.k.hx i.z:=by
 obtain ⟨v,I,J,ak,aH⟩:=cx.zero au
 refine ⟨jj v,by simp only [bb.gQ,I,J,if_true],?_⟩
 unfold rY at ak
 split at ak
 · simp only [Bool.and_eq_true] at ak
   rw [wV,ak.1,cond_true,uC ak.2]
   simp only [jj,aa.plain]
 · rename_i ba
   simp only [Bool.and_eq_true,Bool.not_eq_true'] at ak
   have tM:jj v=hS v:=by
    cases v with
    |agg cs=>exact absurd rfl (ba cs)
    |iface t u=>
     cases np:i.z with
     |nil=>exact absurd np au
     |cons a r=>rw [np] at ak;simp [oX,qI] at ak
    |_=>rfl
   rw [wV,ak.1,cond_false,uC ak.2,tM]
   rfl
def E7:iC→Option TypeDesc
 | .str=>some .string
 | .int .i64=>some (.int .i64)
 |_=>none
structure uK (T:hc) (t k e:Nat) (dk:TypeDesc) (z:aa):Prop where
 t:cQ T t fun i=>match i.k with| .mp cX bY=>cX=k∧bY=e|_=>False
 k:cQ T k fun i=>E7 i.k=some dk
 e:cQ T e fun i=>(match i.z with|[]=>False|_=>True)∧wV i.k.hx i.z=z
section
variable {P:Program} {T:hc} {b0:List Nat} {fr:bM} {L:List br} {m:ae} {K:cg}
theorem uK.get (aC:eO P T=true) {t k e:Nat} {dk:TypeDesc} {z:aa} (h:uK T t k e dk z):P.underlying t=some (.map k e)∧P.underlying k=some dk∧∃z0,gQ P e=some z0∧z0.plain=z:=by
 obtain ⟨i,dp,I⟩:=dJ aC h.t
 obtain ⟨j,e5,J⟩:=dJ aC h.k
 obtain ⟨l,MK,ak,aH⟩:=dJ aC h.e
 have au:l.z≠[]:=fun e=>by rw [e] at ak;exact ak
 refine ⟨?_,?_,?_⟩
 · split at I
   · rename_i ai
     obtain ⟨rfl,rfl⟩:=I
     exact dp.mp ai
   · exact I.elim
 · unfold E7 at J
   split at J
   · rename_i ai
     rw [←Option.some.inj J];exact e5.str ai
   · rename_i ai
     rw [←Option.some.inj J];exact e5.int ai
   · cases J
 · obtain ⟨z0,jX,z2⟩:=MK.zeroV au
   exact ⟨z0,jX,z2.trans aH⟩
theorem E8 (aC:eO P T=true) {cq dP:Type} [DecidableEq cq] {dk:TypeDesc} (cO:cq→aa) {eZ:cq→Value} (vf:dP→aa) (he:nZ dk cO eZ) (l:List (cq×dP)) (k:cq) (z:dP) {d t i:Nat} {ke ve:Nat} {x y:Operand} {v:aa} (e4:uK T t ke ve dk (vf z)) (ao:ei fr x fun u=>u= .mp i) (ab:nth L i=some (.obj (.map (l.map (rO cO vf)))))
 (aE:ei fr y fun u=>u= .aI (cO k)) (Aq:(cO k).plain=cO k) (ba:vf ((mz l k).getD z)=v) (aB:v.plain=v) (h:K ((d,oT v)::fr) L m):hy P b0 (some d) (.lookup t x y false) fr L m K:=⟨fun new g n ops ty pos af r nh dh aJ ad=>by
 obtain ⟨h5,hT,z0,jX,z2⟩:=e4.get aC
 obtain ⟨v1,rfl,ay⟩:=eA (b0++new) ao
 obtain ⟨v2,rfl,az⟩:=eA (b0++new) aE
 simp only [den,Aq] at ay az
 rw [iV] at ab
 have a8:=nn g ab
 refine qz (stl:=[]) dh aJ ?_
 refine K5 (P:=P) (ops:=ops) (stl:=[]) (r:=[]) (K:=bB P n ops r nh) (L:=hv (b0++new) L) rfl cO vf he l k z h5 hT jX z2 ay.symm az.symm a8 ba ?_
 have:=ad _ _ _ (b0++new) (List.prefix_append _ _) g h
 simp only [bf,oU,aB] at this
 exact this⟩
end
end Go.b4
end
section
namespace Go.b4
open Go Go.bb
theorem bp.ML {P:Program} {f:FuncId} {a b9:List aa} {m:ae} {K:aa→ae→Prop} (av:b9.length=a.length) (aj:∀i,kN (b9.getD i .aP) (a.getD i .aP)) (h:bp P f b9 m K):bp P f a m K:=
 ⟨h.1,fun F lim w cargs b5 aw st=>h.2 F lim w cargs (by omega) (fun i ab=>by
   rcases aj i with e|e
   · rw [e];exact aw i (by omega)
   · exact e _ _ _ _ (aw i (by omega))) st⟩
section
variable {fr:bM} {L:List br} {m:ae}
theorem cc {b0:List Nat} {P:Program} {f:FuncId} {vs:List aT} {Q:aT→List br→ae→Prop} {σ:Type} (E:Nat) (is:List Nat) (fP:σ→Prop) (y:σ→aT) (os:σ→List br) (ab:isOk L.length is=true) (av:∀x,(os x).length=is.length)
 (h:∀bs (aq:ae),eG (hI bs is) aq→(∀b o,m b=some o→aq b=some o)→∀(K:aa→ae→Prop),(∀x,fP x→K (den bs (y x)) (aq.a1 (kQ bs is (os x))))→bp P f (bl bs (pW E vs)) (aq.a1 (kQ bs is (gL E (lX L is)))) K)
 (gU:∀x,fP x→fD (iX L is (os x)) fun bK=>Q (y x) bK m):n2 P b0 f vs fr L m Q:=
 MJ E is fP y os ab av (fun bs aq gd an K ad=>bp.ML (by rw [kK,kK,Ao]) (Ap bs E vs) (h bs aq gd an K ad)) gU
end
end Go.b4
end
section
namespace Go.b4
open Go Go.bb
inductive mJ where
 |d
 |z
 |f (i:Nat) (p:mJ)
 |s (i:Nat) (p:mJ)
 |o (i:Nat) (p q:mJ)
def mJ.ids:mJ→List Nat
 | .o i _ q=>i::q.ids
 |_=>[]
def uL (o:Oper):Bool:=
 match o.op with
 | .move x| .nilCheck x| .fieldAddr _ x _=>kc x
 |_=>false
def lk (ops:Array Oper):mJ→Bool→Nat→Array Bool→Bool
 | .d,_,_,l=>(Region.ready .any ops l).isEmpty
 | .z,top,_,_=>!top
 | .f i p,_,k,l=>
   match k with
   |0=>false
   |k+1=>(match ops[i]? with|some o=>qD ops l i o&&uL o|none=>false)&&lk ops p true k (l.setIfInBounds i true)
 | .s i p,_,k,l=>
   match k with
   |0=>false
   |k+1=>!(Region.ready .any ops l).isEmpty&&((Region.ready .any ops l).all fun j=>j==i)&&lk ops p true k (l.setIfInBounds i true)
 | .o i p q,top,k,l=>
   match k with
   |0=>false
   |k+1=>(!top||(!(Region.ready .any ops l).isEmpty&&(Region.ready .any ops l).all fun j=>(i::q.ids).contains j))&&ops[i]?.isSome&&lk ops p true k (l.setIfInBounds i true)&&lk ops q false (k+1) l
def qX (c:fF) (d:Option Nat) (op:Op) (fr:bM) (k:bM→Prop):Prop:=
 match d,op with
 |some d, .move x=>ei fr x fun v=>k ((d,v)::fr)
 |some d, .nilCheck x=>ei fr x fun v=>
  match v with
  | .loc i off=>k ((d, .loc i off)::fr)
  |_=>False
 |some d, .fieldAddr s x f=>ei fr x fun a=>
  match a with
  | .loc i off=>cQ c.T s fun dp=>ui dp f fun o _=>k ((d, .loc i (off+o))::fr)
  |_=>False
 |_,_=>False
def o8 (c:fF) (bL:List Nat) (ops:List Oper) (K:cg):mJ→cg
 | .d,fr,L,m=>K fr L m
 | .z,_,_,_=>True
 | .f i p,fr,L,m=>
   match nth ops i with
   |some o=>qX c o.dst o.op fr fun fr=>o8 c bL ops K p fr L m
   |none=>False
 | .s i p,fr,L,m=>
   match nth ops i with
   |some o=>pO c ops bL [o] fr L m fun fr L m=>o8 c bL ops K p fr L m
   |none=>False
 | .o i p q,fr,L,m=>
   (match nth ops i with
   |some o=>pO c ops bL [o] fr L m fun fr L m=>o8 c bL ops K p fr L m
   |none=>False)∧o8 c bL ops K q fr L m
end Go.b4
namespace Go.bb
open Go
section
variable {P:Program} {n:Nat} {fr:Fr} {m:ae} {ops:Array Oper} {fuel:Nat} {listed:Array Bool} {K:Fr→ae→Prop}
theorem en.E9 (ek:Region.ready .any ops listed≠[]) (h:∀i∈Region.ready .any ops listed,∃o,ops[i]?=some o∧bB P n ops [o] (en P n ops fuel (listed.setIfInBounds i true) K) fr m):en P n ops (fuel+1) listed K fr m:=by
 intro F lim w ca Q st aS
 refine ⟨fun aA=>absurd aA ek,fun i ab=>?_⟩
 obtain ⟨o,aD,key⟩:=h i ab
 unfold wpOp
 rw [aD]
 simp only
 let gP:Exit→Act→World→Prop:=fun e a w'=>match e with
  | .normal=>wpAny P .any ops Q fuel (listed.setIfInBounds i true) a w'
  |e=>Q e a w'
 have hw:=key F lim w ca gP st (fun lim' w' aY m' dw cW fk cN=>cW F lim' w' dw Q fk fun ji hF pq mY rA ad rM pr=>aS ji hF pq mY rA ad rM (cN.trans pr))
 have conv:∀{C:Act→World→Prop},o.wp P ca w C gP→o.wp P ca w C Q:=by
  intro C km
  unfold Oper.wp at km ⊢
  generalize (execOp ca.eval o).run P w=res at km ⊢
  cases res with
  |ok s w'=>
   cases s with
   |enter f args=>
    refine km.mono fun e hF aL=>?_
    cases e<;>exact aL
   |_=>exact km
  |_=>exact km
 unfold wpList at hw
 split
 · next qB=>
   rw [if_pos qB] at hw
   rcases hw with hw|⟨I,J⟩
   · exact .inl (conv hw)
   · exact .inr ⟨I,J⟩
 · next qB=>
   rw [if_neg qB] at hw
   exact hw
theorem en.dv (h:en P n ops fuel listed K fr m):en P n ops fuel listed (fun f m=>(∀t x,f.get t=some x→t<n)∧K f m) fr m:=fun F lim w ca Q st aS=>
 h F lim w ca Q st fun lim' w' f m' dw ai fk cN=>aS lim' w' f m' dw ⟨fun t x ao=>by obtain ⟨_,_,_,s⟩:=fk;exact (s.dv t x ao).1,ai⟩ fk cN
theorem en.MM {iv:Fr→ae→Prop} (ad:∀f m,K f m→iv f m) (h:en P n ops fuel listed K fr m):en P n ops fuel listed iv fr m:=fun F lim w ca Q st aS=>
 h F lim w ca Q st fun lim' w' f m' dw ai fk cN=>aS lim' w' f m' dw (ad _ _ ai) fk cN
end
end Go.bb
namespace Go.b4
open Go Go.bb
section
variable {c:fF} {n:Nat} {ops:Array Oper} {K:Fr→ae→Prop} {bL:List Nat} {nh:cg}
theorem MN {b0 new:List Nat} (aC:eO c.P c.T=true) (dh:∀o∈ops.toList,ef n o=true∧fy n o=true) {fuel i:Nat} {o:Oper} {listed:Array Bool} {fr:bM} {aq:ae} {k:bM→Prop} (aD:ops[i]?=some o) (ag:qD ops listed i o=true) (aM:uL o=true)
 (h:qX c o.dst o.op fr k) (ai:∀aY,k aY→en c.P n ops fuel (listed.setIfInBounds i true) K (bf (b0++new) aY) aq):en c.P n ops (fuel+1) listed K (bf (b0++new) fr) aq:=by
 have hm:=dh o (by rw [Array.mem_toList_iff];exact Array.mem_of_getElem? aD)
 cases a7:o.dst with
 |none=>rw [a7] at h;unfold qX at h;split at h<;>simp_all
 |some d=>
  have hG:=jr hm.1 a7
  rw [a7] at h
  cases cb:o.op with
  |move x=>
   simp only [cb,qX] at h
   obtain ⟨v,I,e⟩:=eA (b0++new) h
   rw [uL,cb] at aM
   have:=ai _ I
   simp only [bf] at this
   exact en.K9 aD cb a7 hG aM ag e.symm this
  |nilCheck x=>
   simp only [cb,qX] at h
   obtain ⟨v,I,e⟩:=eA (b0++new) h
   rw [uL,cb] at aM
   split at I
   · have:=ai _ I
     simp only [bf] at this
     simp only [den] at e this
     exact en.La aD cb a7 hG aM ag e.symm this
   · exact I.elim
  |fieldAddr s x f=>
   simp only [cb,qX] at h
   obtain ⟨v,I,e⟩:=eA (b0++new) h
   rw [uL,cb] at aM
   split at I
   · rename_i ii off
     obtain ⟨dp,cx,J⟩:=dJ aC I
     obtain ⟨dr,fd,hu,ru,i1,i2,ak⟩:=zA cx J
     have:=ai _ ak
     simp only [bf] at this
     simp only [den] at e this
     exact en.Lb (side:=dG c.P fd.type=true∧c.P.cellsOf fd.type≠0) aD cb a7 hG aM ag e.symm (by simp only [bq,hu,ru,←e]<;>rfl) ⟨i1,i2⟩ this
   · exact I.elim
  |_=>simp [cb,qX] at h
theorem uM {b0:List Nat} (aC:eO c.P c.T=true) (cK:c.bs=b0) (dh:∀o∈ops.toList,ef n o=true∧fy n o=true∧qT o=true)
 (ad:∀aY bK m' dz,Good (b0++dz) bK m'→nh aY bK m'→K (bf (b0++dz) aY) (bC (b0++dz) bK m')):
 ∀(p:mJ) (top:Bool) (fuel:Nat) (listed:Array Bool) (fr:bM) (L:List br) (m:ae) (new:List Nat),lk ops p top fuel listed=true→Good (b0++new) L m→o8 c bL ops.toList nh p fr L m→
  (top=true→en c.P n ops fuel listed K (bf (b0++new) fr) (bC (b0++new) L m))∧
  (∀f,fuel=f+1→∀i∈p.ids,∃o,ops[i]?=some o∧bB c.P n ops [o] (en c.P n ops f (listed.setIfInBounds i true) K) (bf (b0++new) fr) (bC (b0++new) L m))
 | .d,top,fuel,listed,fr,L,m,new,aD,g,h=>by
   refine ⟨fun _=>en.done ?_ (ad _ _ _ _ g h),fun f _ i ab=>by cases ab⟩
   simpa [lk] using aD
 | .z,top,fuel,listed,fr,L,m,new,aD,g,h=>by
   refine ⟨fun an=>?_,fun f _ i ab=>by cases ab⟩
   subst an;simp [lk] at aD
 | .f i p,top,fuel,listed,fr,L,m,new,aD,g,h=>by
   refine ⟨fun _=>?_,fun f _ i ab=>by cases ab⟩
   cases fuel with
   |zero=>simp [lk] at aD
   |succ k=>
    simp only [lk,Bool.and_eq_true] at aD
    simp only [o8,iV,Array.getElem?_toList] at h
    cases ab:ops[i]? with
    |none=>rw [ab] at h;exact h.elim
    |some o=>
     rw [ab] at h aD
     simp only [Bool.and_eq_true] at aD
     exact MN aC (fun o aD=>⟨(dh o aD).1,(dh o aD).2.1⟩) ab aD.1.1 aD.1.2 h fun aY ai=>(uM aC cK dh ad p true k _ aY L m new aD.2 g ai).1 rfl
 | .s i p,top,fuel,listed,fr,L,m,new,aD,g,h=>by
   refine ⟨fun _=>?_,fun f _ i ab=>by cases ab⟩
   cases fuel with
   |zero=>simp [lk] at aD
   |succ k=>
    simp only [lk,Bool.and_eq_true,Bool.not_eq_true',List.all_eq_true,beq_iff_eq] at aD
    simp only [o8,iV,Array.getElem?_toList] at h
    refine en.E9 (fun e=>by rw [e] at aD;simp at aD) fun j aG=>?_
    obtain rfl:=aD.1.2 j aG
    cases ab:ops[j]? with
    |none=>rw [ab] at h;exact h.elim
    |some o=>
     rw [ab] at h
     refine ⟨o,rfl,sg aC cK [o] (fun ez lf=>?_) g h fun aY bK m' dz dH ai=>(uM aC cK dh ad p true k _ aY bK m' dz aD.2 dH ai).1 rfl⟩
     rw [List.mem_singleton.1 lf]
     exact dh o (by rw [Array.mem_toList_iff];exact Array.mem_of_getElem? ab)
 | .o i p q,top,fuel,listed,fr,L,m,new,aD,g,h=>by
   cases fuel with
   |zero=>simp [lk] at aD
   |succ k=>
    simp only [lk,Bool.and_eq_true] at aD
    obtain ⟨⟨⟨I,J⟩,ak⟩,aH⟩:=aD
    have key:∀f,k+1=f+1→∀j∈(mJ.o i p q).ids,∃o,ops[j]?=some o∧bB c.P n ops [o] (en c.P n ops f (listed.setIfInBounds j true) K) (bf (b0++new) fr) (bC (b0++new) L m):=by
     intro f aM j aG
     obtain rfl:k=f:=by omega
     simp only [o8,iV,Array.getElem?_toList] at h
     simp only [mJ.ids,List.mem_cons] at aG
     rcases aG with rfl|aG
     · cases ab:ops[j]? with
       |none=>rw [ab] at J;cases J
       |some o=>
        rw [ab] at h
        refine ⟨o,rfl,sg aC cK [o] (fun ez lf=>?_) g h.1 fun aY bK m' dz dH ai=>(uM aC cK dh ad p true k _ aY bK m' dz ak dH ai).1 rfl⟩
        rw [List.mem_singleton.1 lf]
        exact dh o (by rw [Array.mem_toList_iff];exact Array.mem_of_getElem? ab)
     · exact (uM aC cK dh ad q false (k+1) listed fr L m new aH g h.2).2 k rfl j aG
    refine ⟨fun an=>?_,key⟩
    subst an
    simp only [Bool.not_true,Bool.false_or,Bool.and_eq_true,Bool.not_eq_true',List.all_eq_true,List.contains_iff_mem] at I
    exact en.E9 (fun e=>by rw [e] at I;simp at I) fun j aG=>key k rfl j (by simpa [mJ.ids] using I.2 j aG)
theorem kR {L:List br} {m:ae} {fr:bM} {id:Nat} {kn:cg} {A:Prop} {σ:Type} (aC:eO c.P c.T=true) (hm:c.P.follows .mixedOrders=true) (p:mJ) (md:List (Nat×Nat)) (ks:List Nat) (k:Nat) (S:σ→sd) (fP:σ→Prop)
 (aB:(lk ops p true ops.size (Array.replicate ops.size false)&&ops.toList.all qT)=true)
 (nM:∀x,fP x→fD (S x).1 fun fr=>fD (S x).2.1 fun L=>kn fr L (S x).2.2)
 (cW:o8 c (o3 ops.toList) ops.toList (fun fr L m=>∃x,fits c md ks k fr L m (S x)∧fP x) p fr L m):o2 A (zH c id ops true kn fr L m):=by
 simp only [Bool.and_eq_true,List.all_eq_true] at aB
 refine ⟨.inr ⟨fun new g n Q ai gU=>?_⟩⟩
 have pD:=zV ai
 simp only [jS,Bool.and_eq_true,List.all_eq_true] at ai
 refine cV.kO (Q:=fun e f m=>∃eI m',gb eI f∧(∀b o,m' b=some o→m b=some o)∧Q e eI m') (fun e f m h=>h) ?_
 refine KN hm (List.range n) pD fun K ad=>?_
 have I:=(uM (K:=fun fr aq=>∃eI m',gb eI fr∧(∀b o,m' b=some o→aq b=some o)∧Q .normal eI m') aC rfl (fun o aD=>⟨(ai.1 o aD).1,(ai.1 o aD).2,aB.2 o aD⟩) (fun aY bK m' dz dH ⟨x,aM,aW⟩=>by
  obtain ⟨g2,av,aj,hlen⟩:=uH (b0:=c.bs) rfl dH aM
  have:=nM x aW
  rw [gJ,gJ] at this
  exact ⟨_,_,av,aj,gU _ _ _ _ (List.prefix_append _ _) g2 this⟩) p true _ _ fr L m new aB.1 g cW).1 rfl
 refine en.MM (fun f aq ⟨aj,eI,m',av,tC,aS⟩=>ad _ _ ⟨eI,m',fun t x ao=>?_,tC,aS⟩) (en.dv I)
 obtain ⟨y,aE,nT⟩:=av t x ao
 obtain ⟨z,au,lJ⟩:=zU aj t y aE
 rcases lJ with rfl|lJ
 · exact ⟨_,au,nT⟩
 · refine ⟨_,au, .inr fun w lim v os aw=>?_⟩
   have J:=lJ w lim v os aw
   rcases nT with rfl|nT
   · exact J
   · exact nT w lim v [] J
end
end Go.b4
end
section
namespace Go.b4
open Go Go.bb
theorem bp.pl {P:Program} {f:FuncId} {a:List aa} {m:ae} {K:aa→ae→Prop} (h:bp P f a m fun x m'=>K x.plain m'):bp P f a m K:=
 ⟨h.1,fun F lim w cargs I J ak=>(h.2 F lim w cargs I J ak).mono fun _ _ ⟨v,x,lim',m',_,he,ad,aw,aj,aB⟩=>⟨v,x.plain,lim',m',[],he,ad,aw.plain,aj.drop,aB⟩⟩
example (l:List aa) (n:Int):aa.plain (.tuple [.slice true l, .int .i64 n, .err 3 n])= .tuple [.slice false l, .int .i64 n, .err 3 n]:=rfl
end Go.b4
end
section
namespace Go.bb
open Go RowKit
section
variable {P:Program} {F:Nat→Prop} {lim:Nat→Nat} {w w':World} {n:Nat} {fr:Fr} {m:ae} {ca:Act} {bn:List Nat}
theorem aV.below (st:aV F lim w n fr m ca bn) (h:Below w.heap.size w w'):aV F lim w' n fr m ca bn:=by
 have av:=h.block
 have aM:∀c,w.heap.size≤c→lim c=0:=fun c ah=>by
  obtain ⟨_,_,_,s⟩:=st
  exact (s.fresh c ah).1
 have hm:∀b,m b≠none→b<w.heap.size:=fun b ag=>st.ow ag
 have hR:∀b o,o<lim b→b<w.heap.size:=fun b o aD=>st.pg aD
 exact st.world h.size (fun _=>Nat.le_refl _) (fun b o aD=>by simp [World.cell?,av b (hR b o aD)]) (fun c ah=> .inr ⟨av c ah,rfl⟩) (fun b ag=>⟨av b (hm b ag),rfl⟩) (fun c ah=>aM c (Nat.le_trans h.size ah))
theorem Fa (st:aV F lim w n fr m ca bn) (h:Below w.heap.size w w'):cU F w lim w' lim:=
 ⟨h.os,h.tape,h.output,h.size,fun b ag=>⟨h.block b (st.ov ag),rfl⟩,fun _=>Nat.le_refl _,fun b o aD=>by simp [World.cell?,h.block b (st.pg aD)]⟩
theorem MO {f Ar MP:Nat} {wW:Nat} {e:TypeId} {z:Nat×Nat} {tp:TypeId} {p:Value} (aM:∃fn,P.funcs[f]?=some fn∧fn.body.isSome=true∧(fn.name== "runtime.NumGoroutine")=false)
 (dh:∀(s:ByteArray) (n:Int),s.size≤18→Lib.atoi s.data.toList=some n→∀w:World,Calls P f #[.string s] w fun e w'=>e= .returned (.tuple #[.int .i64 n, .nilIface])∧∃t,w'=Lib.bytesWorld w Ar t)
 (MQ:∀(s:ByteArray),s.size≤18→Lib.atoi s.data.toList=none→∀(jL:Value) (w:World),w.cell? ⟨wW,0,none⟩=some jL→(jL= .nilIface∨∃te As,jL= .iface te As)→Calls P f #[.string s] w fun e w'=>∃N,e= .returned (.tuple #[.int .i64 0, .iface MP (.pointer (some ⟨N,0,none⟩))])∧Below w.heap.size w w')
 {s:List UInt8} {K:aa→ae→Prop} (aj:s.length≤18) (ag:∀n,Lib.atoi s=some n→-9223372036854775808≤n∧n≤9223372036854775807) (hm:m wW=some (.lE e z #[.iface tp p]))
 (ad:K (.tuple [.int .i64 ((Lib.atoi s).getD 0), .opt (Lib.atoi s).isNone]) m):bp P f [.str s] m K:=by
 refine ⟨aM,fun F lim w cargs b5 aw st=>?_⟩
 obtain ⟨x,rfl⟩:=wO b5
 have nu:aF w lim x (.str s) []:=aw 0 (by simp)
 obtain ⟨b,rfl,nN⟩:∃b:ByteArray,x= .string b∧b.data.toList=s:=by
  cases nu with
  |str b _=>exact ⟨b,rfl,rfl⟩
 have Fb:b.size≤18:=by rw [←nN] at aj;simpa using aj
 have cM:∀{cf:World} {n:Int} {v:Value} {o:Bool},-9223372036854775808≤n→n≤9223372036854775807→aF cf lim v (.opt o) []→aF cf lim (.tuple #[.int .i64 n,v]) (.tuple [.int .i64 n, .opt o]) []:=fun {cf n v o} I J ak=>by
  have:=aF.tuple (w:=cf) (lim:=lim) #[.int .i64 n,v] [.int .i64 n, .opt o] (fun _=>[]) rfl (fun i ab=>by
   match i,ab with
   |0,_=>exact .int .i64 n I J
   |1,_=>exact ak)
  exact this
 cases aN:Lib.atoi s with
 |some n=>
  rw [aN] at ad
  refine (dh b n Fb (by rw [nN];exact aN) w).mono fun ay eN ⟨he,t,hw⟩=>?_
  subst he;subst hw
  exact ⟨_,_,lim,_,[],rfl,ad,cM (ag n aN).1 (ag n aN).2 .mR,st.below (Lib.bytesWorld_below _ _ _),Fa st (Lib.bytesWorld_below _ _ _)⟩
 |none=>
  rw [aN] at ad
  have ah:w.cell? ⟨wW,0,none⟩=some (.iface tp p):=by
   obtain ⟨os,b3,bu,s⟩:=st
   have:=(s.mem wW _ hm).1
   cases this with
   |lE _ _ _ _ ag=>simp [World.cell?,ag]
  refine (MQ b Fb (by rw [nN];exact aN) _ w ah (.inr ⟨tp,p,rfl⟩)).mono fun ay eN ⟨N,he,hw⟩=>?_
  subst he
  exact ⟨_,_,lim,_,[],rfl,ad,cM (by decide) (by decide) (.mS _ _),st.below hw,Fa st hw⟩
end
end Go.bb
end
section
namespace Go.b4
open Go Go.bb
section
variable {P:Program} {b0:List Nat} {fr:bM} {L:List br} {m:ae} {K:cg}
theorem MR {d t s:Nat} {parts:Array (Nat×Operand)} {cj:Array Field} {z:aa} (pre post:List aT) (q:List aa) (hu:P.underlying t=some (.struct cj)) (au:gQ P t=some z) (pB:z.ds=true) (iR:∀f∈cj.toList,dG P f.type=true)
 (oE:∀bs,∀X:aa,X.ds=true→∀p∈parts.toList,(nk (bc (bf bs fr)) s X p.2).ds=true)
 (tS:∀bs a k c,k8 (fun i=>(cj[i]?).map fun f=>(f.offset,P.cellsOf f.type)) z.cells (parts.toList.map fun p=>(p.1,nk (bc (bf bs fr)) s (.ms a k c) p.2))=some (bl bs pre++ .ms a k c::bl bs post))
 (iO:∀bs,k8 (fun i=>(cj[i]?).map fun f=>(f.offset,P.cellsOf f.type)) z.cells (parts.toList.map fun p=>(p.1,nk (bc (bf bs fr)) s (.slice true q) p.2))=some (bl bs pre++ .slice true q::bl bs post))
 (ao:ko fr s fun v=>v= .own q) (hp:(parts.toList.any fun p=>match p.2 with| .tmp t=>t==s|_=>false)=true) (h:K ((d, .agg (pre++ .own q::post))::(s, .aI (.slice false q))::fr) L m):
 hy P b0 (some d) (.build t parts) fr L m K:=⟨fun new g n ops ty pos af l nh dh aJ ad=>by
 refine qz (stl:=[d]) dh aJ ?_
 have aw:bc (bf (b0++new) fr) s= .slice true q:=by
  rw [kp];rw [lh] at ao;rw [ao];rfl
 refine KW (P:=P) (ops:=ops) (stl:=[d]) (r:=[]) (K:=bB P n ops l nh) rfl s (bl (b0++new) pre) (bl (b0++new) post) (by simp) hu au pB iR (oE _) (tS _) (iO _) aw hp ?_
 have:=ad _ _ _ (b0++new) (List.prefix_append _ _) g h
 have e:bl (b0++new) (pre++ .own q::post)=bl (b0++new) pre++ .slice true q::bl (b0++new) post:=by
  rw [lg,lg,lg,List.map_append,List.map_cons];rfl
 simp only [bf,den,e] at this
 rw [vD,aw]
 exact this⟩
end
end Go.b4
end
section
namespace Go.bb
open Go
inductive sn:Value→Prop
 |u64 (n:Int):sn (.int .u64 n)
 |iface (t:TypeId) (p:Value):sn (.iface t p)
theorem MS {w:World} {lim:Nat→Nat} {v:Value} (ba:sn v) {x:aa} {os:List Nat} (h:aF w lim v x os) (ao:gC x):False:=by
 cases ba with
 |u64 n=>exact MF h ao
 |iface t p=>cases ao<;>cases h
theorem MT {w:World} {lim lim':Nat→Nat} {B:Nat→Prop} (ah:∀b o v,B b→w.cell? ⟨b,o,none⟩=some v→sn v) (av:∀b,¬B b→lim' b=lim b) {v:Value} {x:aa} {os:List Nat} (h:aF w lim v x os):gC x→aF w lim' v x os:=by
 induction h with
 |bool b=>exact fun _=> .bool b
 |int k n bh ab=>exact fun _=> .int k n bh ab
 |str s h=>exact fun _=> .str s h
 |eR own=>exact fun _=> .eR own
 |empty a cap hm=>exact fun _=> .empty a cap hm
 |slice b off n cap sz l cv aJ et hm cF b5 eL so aw aO=>
  intro ao
  cases ao with
  |slice _ E1 ni=>
   rcases Nat.eq_zero_or_pos n with aA|aA
   · subst aA
     have:l=[]:=List.eq_nil_of_length_eq_zero aJ
     subst this
     exact .empty _ _ hm
   · have hp:∀i,i<n→l.getD i .aP∈l:=fun i ab=>by simp [List.getD_eq_getElem?_getD,show i<l.length by omega]
     have MU:∀(L:List aa) (j:Nat),j<L.length→L.getD j .aP∈L:=fun L j aG=>by
      rw [List.getD_eq_getElem?_getD,List.getElem?_eq_getElem aG];exact List.getElem_mem _
     have dh:∀i j,i<n→j<sz→gC ((l.getD i .aP).cells.getD j .aP):=fun i j ab aG=>ni _ (hp i ab) _ (MU _ j (by rw [b5 i ab];exact aG))
     have Au:0<sz:=by
      rw [←b5 0 aA];exact List.length_pos_iff.2 (E1 _ (hp 0 aA))
     have ag:¬B b:=fun e=>MS (ah b _ _ e (so 0 0 aA Au)) (aw 0 0 aA Au) (dh 0 0 aA Au)
     exact .slice b off n cap sz l cv aJ et hm cF b5 (by rw [av b ag];exact eL) so fun i j ab aG=>aO i j ab aG (dh i j ab aG)
 |agg cs xs os h aw aO=>
  intro ao
  cases ao with
  |agg _ ni=>
   exact .agg cs xs os h fun i ab=>aO i ab (ni _ (by
    rw [List.getD_eq_getElem?_getD,List.getElem?_eq_getElem ab]
    exact List.getElem_mem _))
 |_=>intro ao;cases ao
structure Av where
 e:TypeId
 z:Nat×Nat
 cs:Array Value
def uN (G:Nat→Option Av):ae:=fun b=>(G b).map fun t=> .lE t.e t.z t.cs
section
variable {P:Program}
theorem MV {f:FuncId} {avs:List aa} {cargs:Array Value} {G:Nat→Option Av} {W:World} (h:bp P f avs (uN G) (fun x m'=>x= .bool true∧∀b t,G b=some t→m' b=some (.lE t.e t.z t.cs))) (aj:cargs.size=avs.length)
 (aC:∀b t,G b=some t→W.heap[b]?=some (.cells t.cs t.e t.z)∧∀v∈t.cs.toList,sn v)
 (aw:∀i,i<avs.length→aF W (mu W) (cargs.getD i undef) (avs.getD i .aP) []) (aD:∀x∈avs,gC x):
 Calls P f cargs W fun e kl=>e= .returned (.bool true)∧RowKit.Below W.heap.size W kl:=by
 have bN:∀b t,G b=some t→b<W.heap.size:=fun b t ag=>by
  rcases Nat.lt_or_ge b W.heap.size with h|h
  · exact h
  · have:=(aC b t ag).1
    rw [Array.getElem?_eq_none h] at this;cases this
 have ah:∀b o v,(∃t,G b=some t)→W.cell? ⟨b,o,none⟩=some v→sn v:=fun b o v ⟨t,ag⟩ ba=>by
  simp only [World.cell?,(aC b t ag).1] at ba
  exact (aC b t ag).2 v (by simpa using Array.mem_of_getElem? ba)
 have st:aV (fun b=>b<W.heap.size∧G b=none) (fun b=>if (G b).isSome then 0 else mu W b) W 0 [] (uN G) mn []:=by
  refine ⟨fun _=>[],fun _ _=>[],fun _=> .none,rfl,rfl,fun t x ao=>by simp [Fr.get] at ao,fun b o h=>?_,fun t x ao=>by simp [Fr.get] at ao,fun b o h i=>⟨List.nodup_nil,fun c ah=>by cases ah⟩,by simp,fun c h=>absurd rfl h,fun b ag=>?_⟩
  · unfold uN at h
    cases ay:G b with
    |none=>rw [ay] at h;cases h
    |some t=>
     rw [ay] at h
     obtain rfl:=Option.some.inj h
     exact ⟨.lE t.e _ _ _ (aC b t ay).1,by simp,fun aL=>by cases aL.2⟩
  · have ay:G b=none:=by
     cases ay:G b with
     |none=>rfl
     |some t=>have:=bN b t ay;omega
    have:W.heap[b]?=none:=by simpa using ag
    exact ⟨by simp [ay,mu,this],fun aL=>by omega,by simp [uN,ay]⟩
 refine (h.2 _ _ W cargs aj (fun i ab=>MT (B:=fun b=>∃t,G b=some t) ah (fun b ag=>by
  have ay:G b=none:=by
   cases ay:G b with
   |none=>rfl
   |some t=>exact absurd ⟨t,ay⟩ ag
  simp [ay]) (aw i ab) (aD _ (by rw [List.getD_eq_getElem?_getD,List.getElem?_eq_getElem ab];exact List.getElem_mem _))) st).mono fun e kl ⟨v,x,lim',m',os,he,ad,ao,bU,aB⟩=>?_
 obtain ⟨ad,hm⟩:=ad
 subst ad
 cases ao
 refine ⟨he,aB.os,aB.tape,aB.output,aB.size,fun k ai=>?_⟩
 cases ay:G k with
 |some t=>
  obtain ⟨_,_,_,s⟩:=bU
  have:=(s.mem k _ (hm k t ay)).1
  cases this with
  |lE _ _ _ _ ag=>rw [ag,(aC k t ay).1]
 |none=>exact (aB.res k ⟨ai,ay⟩).1
end
end Go.bb
end
section
namespace Go.bb
open Go Go.MapKept
section
variable {P:Program} {F:Nat→Prop} {lim:Nat→Nat} {w w':World} {n:Nat} {fr:Fr} {m:ae} {ca:Act} {bn:List Nat}
variable {ops:Array Oper} {stl:List Nat} {r:List Oper} {K:Fr→ae→Prop} {d:Nat} {ty:TypeId} {pos:String} {af:Array Edge} {gd:Option (Nat×Bool)} {L:List (Nat×e2)}
theorem MW (a8:ha ops fr gd=some true) {cq dP:Type} [DecidableEq cq] {dk:TypeDesc} (i:Nat) (cO:cq→aa) {eZ:cq→Value} (vf:dP→aa) (he:nZ dk cO eZ) (l:List (cq×dP)) (k:cq) (v:dP) {t ke ve:TypeId} {x y z:Operand} {b:Nat} (an:P.underlying t=some (.map ke ve)) (oQ:P.underlying ke=some dk)
 (ao:bR (bc fr) x= .map b) (aE:bR (bc fr) y=cO k) (au:bR (bc fr) z=vf v) (ab:L[i]?=some (b, .map (l.map fun p=>(cO p.1,vf p.2)))) (di:(L.map Prod.fst).Nodup) (cF:(hH l k v).length≤140737488355328)
 (h:hV P ops stl r K fr (m.a1 (L.set i (b, .map ((hH l k v).map fun p=>(cO p.1,vf p.2)))))):
 hV P ops stl (⟨none, .insert t x y z,ty,pos,af,gd⟩::r) K fr (m.a1 L):=by
 simp only [hV,jE,a8,ec,bq]
 intro n ai aJ F lim w ca st
 have fx:=jO ai
 have I:=gx st (fx x (by simp [Op.operands]))
 have J:=gx st (fx y (by simp [Op.operands]))
 have ak:=gx st (fx z (by simp [Op.operands]))
 rw [ao] at I
 rw [aE] at J
 rw [au] at ak
 have ay:ca.eval x= .map (some b):=by generalize ca.eval x=q at I;cases I;rfl
 obtain ⟨w',h4,iQ,qt⟩:=KR (P:=P) he st (oO (m:=m) i di ab) an oQ J ak cF
 rw [yV i di ab] at iQ
 exact ⟨.skip,undef,w',lim,_,_,by simp only [execOp,ay,Sem.run_bind,h4];rfl, .inr ⟨rfl,rfl⟩,iQ,qt,h⟩
end
end Go.bb
namespace Go.b4
open Go Go.bb
section
variable {P:Program} {T:hc} {b0:List Nat} {fr:bM} {L:List br} {m:ae} {K:cg}
theorem wX (aC:eO P T=true) {cq dP:Type} [DecidableEq cq] {dk:TypeDesc} (cO:cq→aa) {eZ:cq→Value} (vf:dP→aa) (he:nZ dk cO eZ) (l:List (cq×dP)) (k:cq) (v:dP) {t i:Nat} {ke ve:Nat} {x y z:Operand} {MX:aa} {w:aT} (e4:uK T t ke ve dk MX) (ao:ei fr x fun u=>u= .mp i) (ab:nth L i=some (.obj (.map (l.map (rO cO vf)))))
 (aE:ei fr y fun u=>u= .aI (cO k)) (Aq:(cO k).plain=cO k) (au:ei fr z fun u=>u=w) (hw:∀bs,den bs w=vf v) (cF:(hH l k v).length≤140737488355328)
 (h:fD (L.set i (.obj (.map ((hH l k v).map (rO cO vf))))) fun bK=>K fr bK m):hy P b0 none (.insert t x y z) fr L m K:=⟨fun new g n ops ty pos af r nh dh aJ ad=>by
 obtain ⟨h5,hT,z0,jX,z2⟩:=e4.get aC
 obtain ⟨v1,rfl,ay⟩:=eA (b0++new) ao
 obtain ⟨v2,rfl,az⟩:=eA (b0++new) aE
 obtain ⟨v3,rfl,cB⟩:=eA (b0++new) au
 simp only [den,Aq] at ay az
 rw [iV] at ab
 have MY:=zg g.len ab
 rw [gJ] at h
 refine qz (stl:=[]) dh aJ ?_
 refine MW (P:=P) (ops:=ops) (stl:=[]) (r:=[]) (K:=bB P n ops r nh) (L:=hv (b0++new) L) rfl i cO vf he l k v h5 hT ay.symm az.symm (by rw [←cB,hw]) MY g.nodup cF ?_
 have:=ad _ _ _ (b0++new) (List.prefix_append _ _) (g.set i _) h
 have MZ:(hv (b0++new) L).set i ((b0++new).getD i 0,e2.map ((hH l k v).map fun p=>(cO p.1,vf p.2)))=hv (b0++new) (L.set i (.obj (.map ((hH l k v).map (rO cO vf))))):=by
  rcases DO (bs:=b0++new) (L:=L) (i:=i) (o:= .obj (.map ((hH l k v).map (rO cO vf)))) with h|h
  · exact h
  · exfalso
    have:i<L.length:=by
     rcases Nat.lt_or_ge i L.length with h|h
     · exact h
     · rw [List.getElem?_eq_none h] at ab;cases ab
    rw [g.len] at h;omega
 rw [MZ]
 exact this⟩
end
end Go.b4
end
section
namespace Go.b4
open Go Go.bb
def Aw {cq dP:Type} (m:ae) (cO:cq→aa) (vf:dP→aa) (o:Option Nat) (l:List (cq×dP)):Prop:=
 match o with
 |none=>l=[]
 |some b=>m b=some (.map (l.map (rO cO vf)))
theorem Aw.up {cq dP:Type} {m aq:ae} {cO:cq→aa} {vf:dP→aa} {o:Option Nat} {l:List (cq×dP)} (an:∀b o,m b=some o→aq b=some o) (h:Aw m cO vf o l):Aw aq cO vf o l:=by
 cases o with
 |none=>exact h
 |some b=>exact an _ _ h
section
variable {P:Program} {T:hc} {b0:List Nat} {fr:bM} {L:List br} {m:ae} {K:cg}
end
end Go.b4
end
section
namespace Go.b4
open Go Go.bb
section
variable {P:Program} {T:hc} {b0:List Nat} {fr:bM} {L:List br} {m:ae} {K:cg}
theorem M0 (aC:eO P T=true) (E:Nat) {d t:Nat} {e:Int} {x:Operand} {y:aa} (ao:ei fr x fun a=>wm T t a fun u=>u= .aI y) (aE:y.plain.toErr E= .err E e)
 (h:K ((d, .aI (.err E e))::fr) L m):hy P b0 (some d) (.makeInterface t x) fr L m K:=⟨fun new g n ops ty pos af l nh dh aJ ad=>by
 obtain ⟨v,I,ay⟩:=eA (b0++new) ao
 obtain ⟨side,z,u,aS,aj,rfl,rfl⟩:=D0 (P:=P) (L:=L) (m:=m) aC I ay
 refine bB.bq dh aS aj ?_
 have:=ad _ _ _ (b0++new) (List.prefix_append _ _) g h
 refine bB.less ?_ this
 intro q w hw
 simp only [bf,Fr.get,Fr.put,den] at hw ⊢
 by_cases c:d=q
 · rw [if_pos c] at hw ⊢
   obtain rfl:=Option.some.inj hw
   refine ⟨_,rfl, .inr fun _ _ _ _ aw=>?_⟩
   have J:=toErr_rep E aw
   rw [aE] at J
   exact J.plain
 · rw [if_neg c] at hw ⊢
   exact ⟨w,hw, .inl rfl⟩⟩
end
end Go.b4
end
section
namespace Go.b4
open Go Go.bb
section
variable {P:Program} {b0:List Nat} {fr:bM} {L:List br} {m:ae}
theorem M1 {c:fF} {A:cg} {R:Prop} (E:Nat) {a j:Nat} {eW:List aT} (aN:nth L a=some (.cells eW)) (aG:nth eW j=some (.aI .nilIface))
 (h:o2 (uz c A fr (L.set a (.cells (eW.set j (.aI (.err E 0))))) m) False):o2 (uz c A fr L m) R:=by
 rw [iV] at aN aG
 obtain ⟨h|h⟩:=h
 · refine ⟨.inl ⟨fun new g n hf Q gU=>?_⟩⟩
   refine cV.pV ?_ (h.h new (g.set a _) n hf Q gU)
   rw [←mem_set g aN]
   intro b ez ag
   simp only [ae.bX] at ag
   by_cases e:b=(c.bs++new).getD a 0
   · rw [if_pos e] at ag
     obtain rfl:=Option.some.inj ag
     refine ⟨_,by rw [e];exact nn g aN, .inr ⟨_,_,rfl,rfl,?_,fun k=>?_⟩⟩
     · rw [kK,kK,List.length_set]
     · rw [E4]
       by_cases ai:k=j
       · subst ai
         have I:=(qM (bs:=c.bs++new) (n:=k) (l:=eW) (v:= .aI .nilIface) (by rw [iV];exact aG)).1
         have bN:k<(bl (c.bs++new) eW).length:=by
          rw [kK]
          rcases Nat.lt_or_ge k eW.length with h|h
          · exact h
          · rw [List.getElem?_eq_none h] at aG;cases aG
         rw [I]
         have J:((bl (c.bs++new) eW).set k (den (c.bs++new) (.aI (.err E 0)))).getD k .aP= .err E 0:=by
          simp [List.getD_eq_getElem?_getD,bN,den,aa.plain]
         rw [J]
         refine .inr fun _ _ _ _ aw=>?_
         have ak:=toErr_rep E aw
         simp only [den,aa.plain,aa.toErr] at ak
         exact ak.plain
       · have:((bl (c.bs++new) eW).set j (den (c.bs++new) (.aI (.err E 0)))).getD k .aP=(bl (c.bs++new) eW).getD k .aP:=by
          rw [List.getD_eq_getElem?_getD,List.getD_eq_getElem?_getD,List.getElem?_set_ne (Ne.symm ai)]
         rw [this];exact .inl rfl
   · rw [if_neg e] at ag
     exact ⟨ez,ag, .inl rfl⟩
 · exact h.elim
end
end Go.b4
end
section
namespace Go.bb
open Go
section
variable {P:Program} {m:ae}
theorem M3 {f:FuncId} {e eb:TypeId} (aM:∃fn,P.funcs[f]?=some fn∧fn.body.isSome=true∧(fn.name== "runtime.NumGoroutine")=false)
 (gw:∀(b:Nat) (p:Value) (a:Option Addr) (n c:Nat) (w:World),w.heap[b]?=some (.cells #[p, .slice a n c] e (0,0))→
   Calls P f #[.pointer (some ⟨b,0,none⟩)] w fun e w'=>e= .returned (.int .i64 n)∧w'=w)
 {b:Nat} {l:List UInt8} {K:aa→ae→Prop} (hm:m b=some (.bx e eb (l.map bk))) (hlen:l.length≤140737488355328) (ad:K (.int .i64 l.length) m):bp P f [.ptr ⟨b,0,none⟩] m K:=by
 refine ⟨aM,fun F lim w cargs aj aw st=>?_⟩
 obtain ⟨x,rfl⟩:=wO aj
 have nu:aF w lim x (.ptr ⟨b,0,none⟩) []:=aw 0 (by simp)
 cases nu
 obtain ⟨p,v,os,dB,av,ag,aB,la,aC,iN,_,qV⟩:=st.Af hm
 have key:∃a c,v= .slice a l.length c:=by
  rcases aC with rfl|⟨g,k,c,cur,rfl,a8,ek,Ak⟩
  · have kJ:l=[]:=by
     generalize nt:l.map bk=o5 at la
     cases la
     simpa using nt
    subst kJ
    exact ⟨none,0,rfl⟩
  · have aA:l≠[]:=fun h=>ek (by rw [h];rfl)
    obtain ⟨rfl,_⟩:=EW la aA
    exact ⟨_,_,rfl⟩
 obtain ⟨a,c,rfl⟩:=key
 refine (gw b p a l.length c w ag).mono fun ay eN ⟨he,o6⟩=>?_
 subst he;subst o6
 exact ⟨_,_,lim,_,[],rfl,ad, .int _ _ (show (-9223372036854775808:Int)≤_ by omega) (show _≤(9223372036854775807:Int) by omega),st, .refl _ _ _⟩
end
end Go.bb
end
section
namespace Go.Proofs
open Go Go.bb
theorem Tryd.mixed:Tryd.prog.follows .mixedOrders=true:=by kernel_rfl
end Go.Proofs
end
section
namespace Go.Proofs
open Go Go.RowKit
theorem M4 {P:Program} {ops:Array Oper} {rest:List Oper} {o:Oper} {a:Act} {w:World} {Q:Exit→Act→World→Prop} (kD:o.guard=none) (bL x:Operand) (t u:TypeId)
 (aD:o.op= .call {callee:= .builtin .append,args:=#[bL,x],argTypes:=#[t,u]}) (v y:Value) (aj:a.eval bL=v) (ao:a.eval x=y) (fN:Value) (w':World) (aw:(Builtin.append_ #[t,u] o.type #[v,y]).run P w= .ok fN w')
 (h:wpList P ops Q rest (a.put o.dst fN) w'):wpList P ops Q (o::rest) a w:=by
 refine wpList_plain kD fun K ad=>?_
 unfold Oper.wp execOp
 simp only [aD,resolve,invoke,builtin,Sem.run_bind,Sem.run_pure,Result.andThen_ok,List.map_toArray,List.map_cons,List.map_nil,aj,ao,aw]
 exact ad _ _ h
set_option maxHeartbeats 1000000 in
set_option maxRecDepth 100000 in
theorem Tryd.M5 (b:Nat) (w:World) (aA:w.cell? ⟨b,0,none⟩=some (.pointer (some ⟨b,0,none⟩))):
 Calls Tryd.prog 80 #[.pointer (some ⟨b,0,none⟩)] w fun e w'=>e= .returned (.tuple #[])∧w'=w:=by
 obtain ⟨j,aG,nW⟩:∃j,Tryd.prog.info? 77=some j∧j.size=2:=⟨_,rfl,rfl⟩
 go_enter Tryd.func80,Tryd.ntmps80
 go_wp2
 rw [Lib.run_neq_ptr_same (tp:=74) (te:=77) w _ Tryd.underlying74 aG]
 go_wp2
 go_end0
 exact ⟨rfl,rfl⟩
set_option maxHeartbeats 1000000 in
set_option maxRecDepth 100000 in
theorem Tryd.M6 (b:Nat) (w:World) (aA:w.cell? ⟨b,0,none⟩=some (.pointer none)) (wY:w.shape? b=some (77,2)) (Da:w.frozen? ⟨b,0,none⟩=false):
 Calls Tryd.prog 80 #[.pointer (some ⟨b,0,none⟩)] w fun e w'=>e= .returned (.tuple #[])∧w'=w.setCell ⟨b,0,none⟩ (.pointer (some ⟨b,0,none⟩)):=by
 obtain ⟨j,aG,nW⟩:∃j,Tryd.prog.info? 77=some j∧j.size=2:=⟨_,rfl,rfl⟩
 have hu:Tryd.prog.underlying 147=some .unsafePointer:=by kernel_rfl
 go_enter Tryd.func80,Tryd.ntmps80
 go_wp2
 rw [Lib.run_to_unsafe w ⟨b,0,none⟩ Tryd.underlying74 hu aG (by rw [nW];decide) wY (Nat.zero_lt_succ 1)]
 simp only [Result.andThen]
 rw [Oper.upon_value]
 go_wp2
 rw [run_callFunc_extern Tryd.func93 (by kernel_rfl) (by kernel_rfl) (by kernel_rfl) (e:=Extern.AbiNoEscape.same) (by kernel_rfl)]
 rw [Lib.run_noEscape]
 simp only [Result.andThen]
 rw [Oper.upon_value]
 go_wp2
 rw [Lib.run_from_unsafe w ⟨b,0,none⟩ hu Tryd.underlying74 aG wY (by kernel_rfl)]
 simp only [Result.andThen]
 rw [Oper.upon_value]
 go_wp2
 go_end0
 exact ⟨rfl,rfl⟩
set_option maxHeartbeats 2000000 in
set_option maxRecDepth 100000 in
theorem Tryd.M7 (b:Nat) (s:ByteArray) (w cf dQ:World) (p:Value) (a:Option Addr) (n c:Nat) (b9:Option Addr) (pT n8:Nat) (ag:w.heap[b]?=some (.cells #[p, .slice a n c] 77 (0,0)))
 (aB:(p= .pointer none∧cf=w.setCell ⟨b,0,none⟩ (.pointer (some ⟨b,0,none⟩)))∨(p= .pointer (some ⟨b,0,none⟩)∧cf=w))
 (cW:(Builtin.append_ #[75,9] 75 #[.slice a n c, .string s]).run Tryd.prog cf= .ok (.slice b9 pT n8) dQ) (J:dQ.heap[b]?=some (.cells #[.pointer (some ⟨b,0,none⟩), .slice a n c] 77 (0,0))):
 Calls Tryd.prog 46 #[.pointer (some ⟨b,0,none⟩), .string s] w fun e w'=>e= .returned (.tuple #[.int .i64 s.size, .nilIface])∧w'=dQ.setCell ⟨b,1,none⟩ (.slice b9 pT n8):=by
 have so:Calls Tryd.prog 80 #[.pointer (some ⟨b,0,none⟩)] w fun e w'=>e= .returned (.tuple #[])∧w'=cf:=by
  rcases aB with ⟨rfl,rfl⟩|⟨rfl,rfl⟩
  · exact Tryd.M6 b w (by rw [Lib.cell_of_heap ag];rfl) (by simp [World.shape?,ag]) (Lib.frozen_of_heap ag 0)
  · exact Tryd.M5 b cf (by rw [Lib.cell_of_heap ag];rfl)
 have n3:cf.heap[b]?=some (.cells #[.pointer (some ⟨b,0,none⟩), .slice a n c] 77 (0,0)):=by
  rcases aB with ⟨rfl,rfl⟩|⟨rfl,rfl⟩
  · rw [heap_setCell_same _ b 0 _ 77 _ ag];rfl
  · exact ag
 go_enter Tryd.func46,Tryd.ntmps46
 go_wp2_with (go_at_call 80;refine so.mono ?_)
 rintro e W ⟨rfl,rfl⟩
 have h7:W.cell? ⟨b,1,none⟩=some (.slice a n c):=by rw [Lib.cell_of_heap n3];rfl
 have d1:dQ.cell? ⟨b,1,none⟩=some (.slice a n c):=by rw [Lib.cell_of_heap J];rfl
 have f1:dQ.frozen? ⟨b,1,none⟩=false:=Lib.frozen_of_heap J 1
 go_wp2_with (at_builtin;refine M4 rfl _ _ 75 9 rfl _ _ rfl rfl _ _ cW ?_)
 go_wp2
 go_ret2
 exact ⟨rfl,rfl⟩
set_option maxHeartbeats 2000000 in
set_option maxRecDepth 100000 in
theorem Tryd.M8 (b g c:Nat) (p:Value) (cur:Array Value) (l:List UInt8) (w:World) (aA:l≠[]) (ry:c≠0) (M9:l.length≤9223372036854775807) (ag:w.heap[b]?=some (.cells #[p, .slice (some ⟨g,0,none⟩) l.length c] 77 (0,0)))
 (a8:w.heap[g]?=some (.cells cur 5 (0,0))) (aJ:l.length≤cur.size) (ah:∀j x,l[j]?=some x→w.cell? ⟨g,j,none⟩=some (.int .u8 x.toNat)):
 Calls Tryd.prog 34 #[.pointer (some ⟨b,0,none⟩)] w fun e w'=>e= .returned (.string ⟨l.toArray⟩)∧w'=w.drew.freeze ⟨g,0,none⟩ l.length:=by
 have h7:w.drew.cell? ⟨b,1,none⟩=some (.slice (some ⟨g,0,none⟩) l.length c):=by
  have:w.drew.heap[b]?=some (.cells #[p, .slice (some ⟨g,0,none⟩) l.length c] 77 (0,0)):=ag
  rw [Lib.cell_of_heap this];rfl
 have Na:(Builtin.unsafeSliceData_ #[75] 126 #[.slice (some ⟨g,0,none⟩) l.length c]).run Tryd.prog w.drew= .ok (.pointer (some ⟨g,0,none⟩)) w.drew:=
  Lib.run_unsafeSliceData_row _ _ _ _ _ _ ry
 have Nb:(Builtin.unsafeString_ #[126,3] 9 #[.pointer (some ⟨g,0,none⟩), .int .i64 l.length]).run Tryd.prog w.drew= .ok (.string ⟨l.toArray⟩) (w.drew.freeze ⟨g,0,none⟩ l.length):=by
  refine Lib.run_unsafeString_row w.drew 126 3 9 5 Tryd.underlying126 (by kernel_rfl) g cur.size (by have vN:w.drew.heap[g]?=some (.cells cur 5 (0,0)):=a8;simp [World.shape?,vN]) l aA aJ M9 ?_
  intro j x ao
  rw [Addr.add_lit,Nat.zero_add]
  exact ah j x ao
 go_enter Tryd.func34,Tryd.ntmps34
 go_wp2
 go_region
 all_goals (go_wp2;go_ret;exact ⟨rfl,rfl⟩)
set_option maxHeartbeats 2000000 in
set_option maxRecDepth 100000 in
theorem Tryd.Nc (b:Nat) (p:Value) (w:World) (ag:w.heap[b]?=some (.cells #[p, .slice none 0 0] 77 (0,0))):
 Calls Tryd.prog 34 #[.pointer (some ⟨b,0,none⟩)] w fun e w'=>e= .returned (.string ⟨#[]⟩)∧w'=w.drew:=by
 have h7:w.drew.cell? ⟨b,1,none⟩=some (.slice none 0 0):=by
  have:w.drew.heap[b]?=some (.cells #[p, .slice none 0 0] 77 (0,0)):=ag
  rw [Lib.cell_of_heap this];rfl
 have Na:(Builtin.unsafeSliceData_ #[75] 126 #[.slice none 0 0]).run Tryd.prog w.drew= .ok (.pointer none) w.drew:=Lib.run_unsafeSliceData_nil _ _ _ _ _
 have Nb:(Builtin.unsafeString_ #[126,3] 9 #[.pointer none, .int .i64 0]).run Tryd.prog w.drew= .ok (.string .empty) w.drew:=Lib.run_unsafeString_none w.drew _ _ _ none
 go_enter Tryd.func34,Tryd.ntmps34
 go_wp2
 go_region
 all_goals (go_wp2;go_ret;exact ⟨rfl,rfl⟩)
end Go.Proofs
end
section
namespace Go.Proofs
open Go.Shelf
def Tryd.Nd:Go.Shelf.Ren:=⟨fun|137=>87|217=>96|266=>103|n=>n,fun|9=>9|5=>5|3=>3|n=>n,fun|n=>n⟩
theorem Tryd.Nf:Go.Proofs.Lays.n137 Tryd.prog Tryd.Nd:={
 mixed:=by kernel_rfl
 f137:=Tryd.func87.trans (congrArg some (by kernel_rfl))
 f217:=Tryd.func96.trans (congrArg some (by kernel_rfl))
 f266:=Tryd.func103.trans (congrArg some (by kernel_rfl))
 t3:=Tryd.underlying3
 a3:=Tryd.isAgg3
 z3:=Tryd.sizeOf3
 v3:=Tryd.zeroValue3
 t5:=Tryd.underlying5
 a5:=Tryd.isAgg5
 z5:=Tryd.sizeOf5
 v5:=Tryd.zeroValue5
 t9:=Tryd.underlying9
 a9:=Tryd.isAgg9
 z9:=Tryd.sizeOf9
 v9:=Tryd.zeroValue9}
open Go.RowKit in
theorem Tryd.strings_IndexByte (s:ByteArray) (c:Int) (w:World):
 Calls Tryd.prog 87 #[.string s, .int .u8 c] w fun e w'=>e= .returned (.int .i64 (Lib.indexByte s.data.toList c.toNat.toUInt8))∧w'=w:=Any.strings_IndexByte Tryd.Nf s c w
def Tryd.Ng:Go.Shelf.Ren:=⟨fun|172=>97|244=>104|245=>105|247=>111|279=>112|280=>113|281=>114|282=>115|287=>118|316=>119|171=>59|205=>120|321=>121|322=>122|243=>83|246=>94|283=>99|284=>100|285=>101|286=>102|129=>107|317=>106|318=>108|319=>109|320=>110|337=>116|338=>117|n=>n,fun|9=>9|3=>3|75=>41|76=>109|4=>4|5=>5|167=>166|37=>75|0=>0|85=>167|2=>2|168=>169|53=>153|175=>173|46=>143|210=>176|127=>126|145=>183|143=>181|21=>21|171=>152|173=>156|212=>161|51=>162|20=>20|213=>163|232=>178|233=>179|80=>79|n=>n,fun|15=>2|16=>3|17=>0|18=>4|19=>5|n=>n⟩
theorem Tryd.Nh:Go.Proofs.Lays.n172 Tryd.prog Tryd.Ng:={
 mixed:=by kernel_rfl
 f129:=Tryd.func107.trans (congrArg some (by kernel_rfl))
 f171:=Tryd.func59.trans (congrArg some (by kernel_rfl))
 f172:=Tryd.func97.trans (congrArg some (by kernel_rfl))
 f205:=Tryd.func120.trans (congrArg some (by kernel_rfl))
 f243:=Tryd.func83.trans (congrArg some (by kernel_rfl))
 f244:=Tryd.func104.trans (congrArg some (by kernel_rfl))
 f245:=Tryd.func105.trans (congrArg some (by kernel_rfl))
 f246:=Tryd.func94.trans (congrArg some (by kernel_rfl))
 f247:=Tryd.func111.trans (congrArg some (by kernel_rfl))
 f279:=Tryd.func112.trans (congrArg some (by kernel_rfl))
 f280:=Tryd.func113.trans (congrArg some (by kernel_rfl))
 f281:=Tryd.func114.trans (congrArg some (by kernel_rfl))
 f282:=Tryd.func115.trans (congrArg some (by kernel_rfl))
 f283:=Tryd.func99.trans (congrArg some (by kernel_rfl))
 f284:=Tryd.func100.trans (congrArg some (by kernel_rfl))
 f285:=Tryd.func101.trans (congrArg some (by kernel_rfl))
 f286:=Tryd.func102.trans (congrArg some (by kernel_rfl))
 f287:=Tryd.func118.trans (congrArg some (by kernel_rfl))
 f316:=Tryd.func119.trans (congrArg some (by kernel_rfl))
 f317:=Tryd.func106.trans (congrArg some (by kernel_rfl))
 f318:=Tryd.func108.trans (congrArg some (by kernel_rfl))
 f319:=Tryd.func109.trans (congrArg some (by kernel_rfl))
 f320:=Tryd.func110.trans (congrArg some (by kernel_rfl))
 f321:=Tryd.func121.trans (congrArg some (by kernel_rfl))
 f322:=Tryd.func122.trans (congrArg some (by kernel_rfl))
 f337:=Tryd.func116.trans (congrArg some (by kernel_rfl))
 f338:=Tryd.func117.trans (congrArg some (by kernel_rfl))
 t0:=Tryd.underlying0
 a0:=Tryd.isAgg0
 z0:=Tryd.sizeOf0
 v0:=Tryd.zeroValue0
 t2:=Tryd.underlying2
 a2:=Tryd.isAgg2
 z2:=Tryd.sizeOf2
 v2:=Tryd.zeroValue2
 t3:=Tryd.underlying3
 a3:=Tryd.isAgg3
 z3:=Tryd.sizeOf3
 v3:=Tryd.zeroValue3
 t4:=Tryd.underlying4
 a4:=Tryd.isAgg4
 z4:=Tryd.sizeOf4
 v4:=Tryd.zeroValue4
 t5:=Tryd.underlying5
 a5:=Tryd.isAgg5
 z5:=Tryd.sizeOf5
 v5:=Tryd.zeroValue5
 t9:=Tryd.underlying9
 a9:=Tryd.isAgg9
 z9:=Tryd.sizeOf9
 v9:=Tryd.zeroValue9
 t20:=Tryd.underlying20
 a20:=Tryd.isAgg20
 z20:=Tryd.sizeOf20
 v20:=Tryd.zeroValue20
 t21:=Tryd.underlying21
 a21:=Tryd.isAgg21
 z21:=Tryd.sizeOf21
 v21:=Tryd.zeroValue21
 t37:=Tryd.underlying75
 a37:=Tryd.isAgg75
 z37:=Tryd.sizeOf75
 v37:=Tryd.zeroValue75
 t46:=Tryd.underlying143
 a46:=Tryd.isAgg143
 z46:=Tryd.sizeOf143
 v46:=Tryd.zeroValue143
 t51:=Tryd.underlying162
 a51:=Tryd.isAgg162
 z51:=Tryd.sizeOf162
 v51:=Tryd.zeroValue162
 t53:=Tryd.underlying153
 a53:=Tryd.isAgg153
 z53:=Tryd.sizeOf153
 v53:=Tryd.zeroValue153
 t75:=Tryd.underlying41
 a75:=Tryd.isAgg41
 z75:=Tryd.sizeOf41
 v75:=Tryd.zeroValue41
 t76:=Tryd.underlying109
 a76:=Tryd.isAgg109
 z76:=Tryd.sizeOf109
 v76:=Tryd.zeroValue109
 t85:=Tryd.underlying167
 a85:=Tryd.isAgg167
 z85:=Tryd.sizeOf167
 v85:=Tryd.zeroValue167
 t127:=Tryd.underlying126
 a127:=Tryd.isAgg126
 z127:=Tryd.sizeOf126
 v127:=Tryd.zeroValue126
 t143:=Tryd.underlying181
 a143:=Tryd.isAgg181
 z143:=Tryd.sizeOf181
 v143:=Tryd.zeroValue181
 t145:=Tryd.underlying183
 a145:=Tryd.isAgg183
 z145:=Tryd.sizeOf183
 v145:=Tryd.zeroValue183
 t167:=Tryd.underlying166
 a167:=Tryd.isAgg166
 z167:=Tryd.sizeOf166
 v167:=Tryd.zeroValue166
 t168:=Tryd.underlying169
 a168:=Tryd.isAgg169
 z168:=Tryd.sizeOf169
 v168:=Tryd.zeroValue169
 t171:=Tryd.underlying152
 a171:=Tryd.isAgg152
 z171:=Tryd.sizeOf152
 v171:=Tryd.zeroValue152
 t173:=Tryd.underlying156
 a173:=Tryd.isAgg156
 z173:=Tryd.sizeOf156
 v173:=Tryd.zeroValue156
 t175:=Tryd.underlying173
 a175:=Tryd.isAgg173
 z175:=Tryd.sizeOf173
 v175:=Tryd.zeroValue173
 t210:=Tryd.underlying176
 a210:=Tryd.isAgg176
 z210:=Tryd.sizeOf176
 v210:=Tryd.zeroValue176
 t212:=Tryd.underlying161
 a212:=Tryd.isAgg161
 z212:=Tryd.sizeOf161
 v212:=Tryd.zeroValue161
 t213:=Tryd.underlying163
 a213:=Tryd.isAgg163
 z213:=Tryd.sizeOf163
 t232:=Tryd.underlying178
 a232:=Tryd.isAgg178
 z232:=Tryd.sizeOf178
 v232:=Tryd.zeroValue178
 t233:=Tryd.underlying179
 a233:=Tryd.isAgg179
 z233:=Tryd.sizeOf179
 v233:=Tryd.zeroValue179
 g15:=by kernel_rfl
 g16:=by kernel_rfl
 g17:=by kernel_rfl
 g18:=by kernel_rfl
 g19:=by kernel_rfl}
open Go.RowKit in
theorem Tryd.strconv_Atoi (s:ByteArray) (n:Int) (av:s.size≤18) (h:Lib.atoi s.data.toList=some n) (w:World):
 Calls Tryd.prog 97 #[.string s] w fun e w'=>e= .returned (.tuple #[.int .i64 n, .nilIface])∧∃t,w'=Lib.bytesWorld w 5 t:=Any.strconv_Atoi Tryd.Nh s n av h w
def Tryd.Ni:Go.Shelf.Ren:=⟨fun|171=>59|243=>83|246=>94|283=>99|284=>100|285=>101|286=>102|129=>107|317=>106|318=>108|319=>109|320=>110|337=>116|338=>117|n=>n,fun|3=>3|9=>9|2=>2|4=>4|171=>152|0=>0|53=>153|37=>75|5=>5|173=>156|212=>161|51=>162|20=>20|213=>163|46=>143|232=>178|233=>179|n=>n,fun|17=>0|18=>4|19=>5|n=>n⟩
theorem Tryd.Nj:Go.Proofs.LaysM.n171 Tryd.prog Tryd.Ni:={
 mixed:=by kernel_rfl
 f129:=Tryd.func107.trans (congrArg some (by kernel_rfl))
 f171:=Tryd.func59.trans (congrArg some (by kernel_rfl))
 f243:=Tryd.func83.trans (congrArg some (by kernel_rfl))
 f246:=Tryd.func94.trans (congrArg some (by kernel_rfl))
 f283:=Tryd.func99.trans (congrArg some (by kernel_rfl))
 f284:=Tryd.func100.trans (congrArg some (by kernel_rfl))
 f285:=Tryd.func101.trans (congrArg some (by kernel_rfl))
 f286:=Tryd.func102.trans (congrArg some (by kernel_rfl))
 f317:=Tryd.func106.trans (congrArg some (by kernel_rfl))
 f318:=Tryd.func108.trans (congrArg some (by kernel_rfl))
 f319:=Tryd.func109.trans (congrArg some (by kernel_rfl))
 f320:=Tryd.func110.trans (congrArg some (by kernel_rfl))
 f337:=Tryd.func116.trans (congrArg some (by kernel_rfl))
 f338:=Tryd.func117.trans (congrArg some (by kernel_rfl))
 t0:=Tryd.underlying0
 a0:=Tryd.isAgg0
 z0:=Tryd.sizeOf0
 v0:=Tryd.zeroValue0
 t2:=Tryd.underlying2
 a2:=Tryd.isAgg2
 z2:=Tryd.sizeOf2
 v2:=Tryd.zeroValue2
 t3:=Tryd.underlying3
 a3:=Tryd.isAgg3
 z3:=Tryd.sizeOf3
 v3:=Tryd.zeroValue3
 t4:=Tryd.underlying4
 a4:=Tryd.isAgg4
 z4:=Tryd.sizeOf4
 v4:=Tryd.zeroValue4
 t5:=Tryd.underlying5
 a5:=Tryd.isAgg5
 z5:=Tryd.sizeOf5
 v5:=Tryd.zeroValue5
 t9:=Tryd.underlying9
 a9:=Tryd.isAgg9
 z9:=Tryd.sizeOf9
 v9:=Tryd.zeroValue9
 t20:=Tryd.underlying20
 a20:=Tryd.isAgg20
 z20:=Tryd.sizeOf20
 v20:=Tryd.zeroValue20
 t37:=Tryd.underlying75
 a37:=Tryd.isAgg75
 z37:=Tryd.sizeOf75
 v37:=Tryd.zeroValue75
 t46:=Tryd.underlying143
 a46:=Tryd.isAgg143
 z46:=Tryd.sizeOf143
 v46:=Tryd.zeroValue143
 t51:=Tryd.underlying162
 a51:=Tryd.isAgg162
 z51:=Tryd.sizeOf162
 v51:=Tryd.zeroValue162
 t53:=Tryd.underlying153
 a53:=Tryd.isAgg153
 z53:=Tryd.sizeOf153
 v53:=Tryd.zeroValue153
 t171:=Tryd.underlying152
 a171:=Tryd.isAgg152
 z171:=Tryd.sizeOf152
 v171:=Tryd.zeroValue152
 t173:=Tryd.underlying156
 a173:=Tryd.isAgg156
 z173:=Tryd.sizeOf156
 v173:=Tryd.zeroValue156
 t212:=Tryd.underlying161
 a212:=Tryd.isAgg161
 z212:=Tryd.sizeOf161
 v212:=Tryd.zeroValue161
 t213:=Tryd.underlying163
 a213:=Tryd.isAgg163
 z213:=Tryd.sizeOf163
 t232:=Tryd.underlying178
 a232:=Tryd.isAgg178
 z232:=Tryd.sizeOf178
 v232:=Tryd.zeroValue178
 t233:=Tryd.underlying179
 a233:=Tryd.isAgg179
 z233:=Tryd.sizeOf179
 v233:=Tryd.zeroValue179
 g17:=by kernel_rfl
 g18:=by kernel_rfl
 g19:=by kernel_rfl
 i0:=by kernel_rfl
 i2:=by kernel_rfl
 i3:=by kernel_rfl
 i4:=by kernel_rfl
 i5:=by kernel_rfl
 i9:=by kernel_rfl
 i20:=by kernel_rfl
 i37:=by kernel_rfl
 i46:=by kernel_rfl
 i51:=by kernel_rfl
 i53:=by kernel_rfl
 i171:=by kernel_rfl
 i173:=by kernel_rfl
 i212:=by kernel_rfl
 i232:=by kernel_rfl
 i233:=by kernel_rfl
 m17:=by kernel_rfl
 m18:=by kernel_rfl
 m19:=by kernel_rfl}
open Go.RowKit Go.Sort Go.Lib in
theorem Tryd.strconv_Itoa (n:Int) (aA:-9223372036854775808≤n) (I:n≤9223372036854775807) (w:World) (Am:Lib.TabIs Tryd.prog w "internal/strconv.uint64pow10" .u64 Lib.pow10Tab):
 Calls Tryd.prog 59 #[.int .i64 n] w fun e w'=>e= .returned (.string ⟨(Lib.itoa n).toArray⟩)∧∃k os,w'=grow (w.drewN k) os:=Any.strconv_Itoa Tryd.Nj n aA I w Am
def Tryd.Nk:Go.Shelf.Ren:=⟨fun|172=>97|244=>104|245=>105|247=>111|279=>112|280=>113|281=>114|282=>115|287=>118|316=>119|171=>59|205=>120|321=>121|322=>122|243=>83|246=>94|283=>99|284=>100|285=>101|286=>102|129=>107|317=>106|318=>108|319=>109|320=>110|337=>116|338=>117|n=>n,fun|9=>9|3=>3|75=>41|76=>109|4=>4|5=>5|167=>166|37=>75|0=>0|85=>167|2=>2|168=>169|53=>153|175=>173|46=>143|210=>176|127=>126|145=>183|143=>181|21=>21|171=>152|173=>156|212=>161|51=>162|20=>20|213=>163|232=>178|233=>179|80=>79|n=>n,fun|15=>2|16=>3|17=>0|18=>4|19=>5|n=>n⟩
theorem Tryd.Nl:Go.Proofs.LaysC.n172 Tryd.prog Tryd.Nk:={
 mixed:=by kernel_rfl
 f129:=Tryd.func107.trans (congrArg some (by kernel_rfl))
 f171:=Tryd.func59.trans (congrArg some (by kernel_rfl))
 f172:=Tryd.func97.trans (congrArg some (by kernel_rfl))
 f205:=Tryd.func120.trans (congrArg some (by kernel_rfl))
 f243:=Tryd.func83.trans (congrArg some (by kernel_rfl))
 f244:=Tryd.func104.trans (congrArg some (by kernel_rfl))
 f245:=Tryd.func105.trans (congrArg some (by kernel_rfl))
 f246:=Tryd.func94.trans (congrArg some (by kernel_rfl))
 f247:=Tryd.func111.trans (congrArg some (by kernel_rfl))
 f279:=Tryd.func112.trans (congrArg some (by kernel_rfl))
 f280:=Tryd.func113.trans (congrArg some (by kernel_rfl))
 f281:=Tryd.func114.trans (congrArg some (by kernel_rfl))
 f282:=Tryd.func115.trans (congrArg some (by kernel_rfl))
 f283:=Tryd.func99.trans (congrArg some (by kernel_rfl))
 f284:=Tryd.func100.trans (congrArg some (by kernel_rfl))
 f285:=Tryd.func101.trans (congrArg some (by kernel_rfl))
 f286:=Tryd.func102.trans (congrArg some (by kernel_rfl))
 f287:=Tryd.func118.trans (congrArg some (by kernel_rfl))
 f316:=Tryd.func119.trans (congrArg some (by kernel_rfl))
 f317:=Tryd.func106.trans (congrArg some (by kernel_rfl))
 f318:=Tryd.func108.trans (congrArg some (by kernel_rfl))
 f319:=Tryd.func109.trans (congrArg some (by kernel_rfl))
 f320:=Tryd.func110.trans (congrArg some (by kernel_rfl))
 f321:=Tryd.func121.trans (congrArg some (by kernel_rfl))
 f322:=Tryd.func122.trans (congrArg some (by kernel_rfl))
 f337:=Tryd.func116.trans (congrArg some (by kernel_rfl))
 f338:=Tryd.func117.trans (congrArg some (by kernel_rfl))
 t0:=Tryd.underlying0
 a0:=Tryd.isAgg0
 z0:=Tryd.sizeOf0
 v0:=Tryd.zeroValue0
 t2:=Tryd.underlying2
 a2:=Tryd.isAgg2
 z2:=Tryd.sizeOf2
 v2:=Tryd.zeroValue2
 t3:=Tryd.underlying3
 a3:=Tryd.isAgg3
 z3:=Tryd.sizeOf3
 v3:=Tryd.zeroValue3
 t4:=Tryd.underlying4
 a4:=Tryd.isAgg4
 z4:=Tryd.sizeOf4
 v4:=Tryd.zeroValue4
 t5:=Tryd.underlying5
 a5:=Tryd.isAgg5
 z5:=Tryd.sizeOf5
 v5:=Tryd.zeroValue5
 t9:=Tryd.underlying9
 a9:=Tryd.isAgg9
 z9:=Tryd.sizeOf9
 v9:=Tryd.zeroValue9
 t20:=Tryd.underlying20
 a20:=Tryd.isAgg20
 z20:=Tryd.sizeOf20
 v20:=Tryd.zeroValue20
 t21:=Tryd.underlying21
 a21:=Tryd.isAgg21
 z21:=Tryd.sizeOf21
 v21:=Tryd.zeroValue21
 t37:=Tryd.underlying75
 a37:=Tryd.isAgg75
 z37:=Tryd.sizeOf75
 v37:=Tryd.zeroValue75
 t46:=Tryd.underlying143
 a46:=Tryd.isAgg143
 z46:=Tryd.sizeOf143
 v46:=Tryd.zeroValue143
 t51:=Tryd.underlying162
 a51:=Tryd.isAgg162
 z51:=Tryd.sizeOf162
 v51:=Tryd.zeroValue162
 t53:=Tryd.underlying153
 a53:=Tryd.isAgg153
 z53:=Tryd.sizeOf153
 v53:=Tryd.zeroValue153
 t75:=Tryd.underlying41
 a75:=Tryd.isAgg41
 z75:=Tryd.sizeOf41
 v75:=Tryd.zeroValue41
 t76:=Tryd.underlying109
 a76:=Tryd.isAgg109
 z76:=Tryd.sizeOf109
 v76:=Tryd.zeroValue109
 t85:=Tryd.underlying167
 a85:=Tryd.isAgg167
 z85:=Tryd.sizeOf167
 v85:=Tryd.zeroValue167
 t127:=Tryd.underlying126
 a127:=Tryd.isAgg126
 z127:=Tryd.sizeOf126
 v127:=Tryd.zeroValue126
 t143:=Tryd.underlying181
 a143:=Tryd.isAgg181
 z143:=Tryd.sizeOf181
 v143:=Tryd.zeroValue181
 t145:=Tryd.underlying183
 a145:=Tryd.isAgg183
 z145:=Tryd.sizeOf183
 v145:=Tryd.zeroValue183
 t167:=Tryd.underlying166
 a167:=Tryd.isAgg166
 z167:=Tryd.sizeOf166
 v167:=Tryd.zeroValue166
 t168:=Tryd.underlying169
 a168:=Tryd.isAgg169
 z168:=Tryd.sizeOf169
 v168:=Tryd.zeroValue169
 t171:=Tryd.underlying152
 a171:=Tryd.isAgg152
 z171:=Tryd.sizeOf152
 v171:=Tryd.zeroValue152
 t173:=Tryd.underlying156
 a173:=Tryd.isAgg156
 z173:=Tryd.sizeOf156
 v173:=Tryd.zeroValue156
 t175:=Tryd.underlying173
 a175:=Tryd.isAgg173
 z175:=Tryd.sizeOf173
 v175:=Tryd.zeroValue173
 t210:=Tryd.underlying176
 a210:=Tryd.isAgg176
 z210:=Tryd.sizeOf176
 v210:=Tryd.zeroValue176
 t212:=Tryd.underlying161
 a212:=Tryd.isAgg161
 z212:=Tryd.sizeOf161
 v212:=Tryd.zeroValue161
 t213:=Tryd.underlying163
 a213:=Tryd.isAgg163
 z213:=Tryd.sizeOf163
 t232:=Tryd.underlying178
 a232:=Tryd.isAgg178
 z232:=Tryd.sizeOf178
 v232:=Tryd.zeroValue178
 t233:=Tryd.underlying179
 a233:=Tryd.isAgg179
 z233:=Tryd.sizeOf179
 v233:=Tryd.zeroValue179
 g15:=by kernel_rfl
 g16:=by kernel_rfl
 g17:=by kernel_rfl
 g18:=by kernel_rfl
 g19:=by kernel_rfl
 t80:=Tryd.underlying79
 a80:=Tryd.isAgg79
 z80:=Tryd.sizeOf79
 v80:=Tryd.zeroValue79
 i0:=by kernel_rfl
 i2:=by kernel_rfl
 i3:=by kernel_rfl
 i4:=by kernel_rfl
 i5:=by kernel_rfl
 i9:=by kernel_rfl
 i20:=by kernel_rfl
 i21:=by kernel_rfl
 i37:=by kernel_rfl
 i46:=by kernel_rfl
 i51:=by kernel_rfl
 i53:=by kernel_rfl
 i75:=by kernel_rfl
 i76:=by kernel_rfl
 i80:=by kernel_rfl
 i85:=by kernel_rfl
 i127:=by kernel_rfl
 i143:=by kernel_rfl
 i145:=by kernel_rfl
 i167:=by kernel_rfl
 i168:=by kernel_rfl
 i171:=by kernel_rfl
 i173:=by kernel_rfl
 i175:=by kernel_rfl
 i210:=by kernel_rfl
 i212:=by kernel_rfl
 i232:=by kernel_rfl
 i233:=by kernel_rfl
 m15:=by kernel_rfl
 m16:=by kernel_rfl
 m17:=by kernel_rfl
 m18:=by kernel_rfl
 m19:=by kernel_rfl
 c0:=by kernel_rfl
 c2:=by kernel_rfl
 c3:=by kernel_rfl
 c4:=by kernel_rfl
 c5:=by kernel_rfl
 c9:=by kernel_rfl
 c20:=by kernel_rfl
 c21:=by kernel_rfl
 c37:=by kernel_rfl
 c46:=by kernel_rfl
 c51:=by kernel_rfl
 c53:=by kernel_rfl
 c75:=by kernel_rfl
 c76:=by kernel_rfl
 c80:=by kernel_rfl
 c85:=by kernel_rfl
 c127:=by kernel_rfl
 c143:=by kernel_rfl
 c145:=by kernel_rfl
 c167:=by kernel_rfl
 c168:=by kernel_rfl
 c171:=by kernel_rfl
 c173:=by kernel_rfl
 c175:=by kernel_rfl
 c210:=by kernel_rfl
 c212:=by kernel_rfl
 c213:=by kernel_rfl
 c232:=by kernel_rfl
 c233:=by kernel_rfl}
open Go.RowKit in
theorem Tryd.strconv_Atoi_err (s:ByteArray) (av:s.size≤18) (h:Lib.atoi s.data.toList=none) (jL:Value) (w:World) (ba:w.cell? ⟨2,0,none⟩=some jL) (oJ:jL= .nilIface∨∃te As,jL= .iface te As):
 Calls Tryd.prog 97 #[.string s] w fun e w'=>∃N,e= .returned (.tuple #[.int .i64 0, .iface 169 (.pointer (some ⟨N,0,none⟩))])∧w.heap.size≤N∧w'.heap[N]?=some (.cells #[.string ⟨#[65,116,111,105]⟩, .string s,jL] 176 (0,0))∧Below w.heap.size w w':=Any.strconv_Atoi_err Tryd.Nl s av h jL w ba oJ
def Tryd.Nn:Go.Shelf.Ren:=⟨fun|99=>86|206=>95|n=>n,fun|9=>9|4=>4|3=>3|n=>n,fun|n=>n⟩
theorem Tryd.No:Go.Proofs.Lays.n99 Tryd.prog Tryd.Nn:={
 mixed:=by kernel_rfl
 f99:=Tryd.func86.trans (congrArg some (by kernel_rfl))
 f206:=Tryd.func95.trans (congrArg some (by kernel_rfl))
 t3:=Tryd.underlying3
 a3:=Tryd.isAgg3
 z3:=Tryd.sizeOf3
 v3:=Tryd.zeroValue3
 t4:=Tryd.underlying4
 a4:=Tryd.isAgg4
 z4:=Tryd.sizeOf4
 v4:=Tryd.zeroValue4
 t9:=Tryd.underlying9
 a9:=Tryd.isAgg9
 z9:=Tryd.sizeOf9
 v9:=Tryd.zeroValue9}
open Go.RowKit Go.Lib in
theorem Tryd.strings_HasPrefix (s p:ByteArray) (w:World):
 Calls Tryd.prog 86 #[.string s, .string p] w fun e w'=>e= .returned (.bool (Lib.hasPrefix s.data.toList p.data.toList))∧w'=w:=Any.strings_HasPrefix Tryd.No s p w
end Go.Proofs
end
section
namespace Go.Proofs
open Go Go.bb Go.b4
def tb:hc:=[(25,⟨.st [(0,3),(1,3),(2,9),(3,22),(4,23)],5,80,[.i .i64, .i .i64, .s, .l, .l]⟩),
 (3,⟨.int .i64,1,8,[.i .i64]⟩),
 (9,⟨.str,1,16,[.s]⟩),
 (29,⟨.st [(0,3),(1,25),(6,9),(7,9),(8,26),(9,27)],10,168,[.i .i64, .i .i64, .i .i64, .s, .l, .l, .s, .s, .l, .l]⟩),
 (23,⟨.bL 69,1,24,[.l]⟩),
 (22,⟨.bL 25,1,24,[.l]⟩),
 (26,⟨.bL 29,1,24,[.l]⟩),
 (69,⟨.st [(0,9),(1,25)],6,96,[.s, .i .i64, .i .i64, .s, .l, .l]⟩),
 (99,⟨.st [(0,9),(1,95),(2,96),(3,97)],4,88,[.s, .l, .l, .l]⟩),
 (41,⟨.kq,1,16,[.n]⟩),
 (104,⟨.st [(0,9),(1,9),(2,102)],3,56,[.s, .s, .l]⟩),
 (72,⟨.int .i64,1,8,[.i .i64]⟩),
 (75,⟨.bL 5,1,24,[.l]⟩),
 (5,⟨.int .u8,1,1,[.i .u8]⟩),
 (27,⟨.bL 9,1,24,[.l]⟩),
 (102,⟨.bL 106,1,24,[.l]⟩),
 (95,⟨.bL 101,1,24,[.l]⟩),
 (97,⟨.bL 107,1,24,[.l]⟩),
 (36,⟨.st [(0,33),(1,33),(2,34)],3,24,[.m, .m, .m]⟩),
 (96,⟨.bL 104,1,24,[.l]⟩),
 (33,⟨.mp 9 25,1,8,[.m]⟩),
 (106,⟨.st [(0,9),(1,29)],11,184,[.s, .i .i64, .i .i64, .i .i64, .s, .l, .l, .s, .s, .l, .l]⟩),
 (37,⟨.st [(0,33),(1,33),(2,34)],3,24,[.m, .m, .m]⟩),
 (60,⟨.bL 99,1,24,[.l]⟩),
 (89,⟨.st [(0,84),(1,3),(2,3),(3,41),(4,3)],5,64,[.l, .i .i64, .i .i64, .n, .i .i64]⟩),
 (84,⟨.bL 131,1,24,[.l]⟩),
 (101,⟨.st [(0,9),(1,25)],6,96,[.s, .i .i64, .i .i64, .s, .l, .l]⟩),
 (107,⟨.st [(0,9),(1,29)],11,184,[.s, .i .i64, .i .i64, .i .i64, .s, .l, .l, .s, .s, .l, .l]⟩),
 (77,⟨.st [(0,74),(1,75)],2,32,[]⟩),
 (34,⟨.mp 9 33,1,8,[.m]⟩),
 (74,⟨.ptr,1,8,[.p]⟩),
 (131,⟨.st [(0,3),(1,3),(2,9)],3,32,[.i .i64, .i .i64, .s]⟩),
 (137,⟨.mp 3 9,1,8,[.m]⟩),
 (4,⟨.bool,1,1,[.b]⟩),
 (126,⟨.ptr,1,8,[.p]⟩)]
theorem cw:eO Tryd.prog tb=true:=by decide+kernel
end Go.Proofs
end
section
namespace Go.Proofs
open Go Go.bb Go.b4
set_option maxRecDepth 100000
abbrev al:=List UInt8
noncomputable def dF (w st uq xs cv bs:List Nat):fF:=⟨Tryd.prog,tb,72,w,st,uq,xs,cv,bs⟩
theorem lY {α:Type} [Inhabited α] {l:List α} {i:Int} (aA:0≤i) (ab:i<l.length):l.take (i+1).toNat=l.take i.toNat++[U l i]:=by
 have e:(i+1).toNat=i.toNat+1:=by omega
 have aJ:i.toNat<l.length:=by omega
 rw [e,List.take_succ_eq_append_getElem aJ]
 simp [U,List.getD_eq_getElem?_getD,aJ]
theorem cy {α:Type} [Inhabited α] {l:List α} {i:Int} (aA:0≤i) (ab:i<l.length):U l i∈l:=by
 simp only [U,List.getD_eq_getElem?_getD,List.getElem?_eq_getElem (show i.toNat<l.length by omega),Option.getD_some]
 exact List.getElem_mem _
theorem lZ {α:Type} {l:List α} {i:Int} (ab:l.length≤i):l.take i.toNat=l:=List.take_of_length_le (by omega)
inductive a6 where
 |mk (kind n:Int) (s:al) (l:List a6) (f:List (al×a6))
instance:Inhabited a6:=⟨.mk 0 0 [] [] []⟩
def a6.kind:a6→Int| .mk k _ _ _ _=>k
def a6.n:a6→Int| .mk _ n _ _ _=>n
def a6.s:a6→al| .mk _ _ s _ _=>s
def a6.l:a6→List a6| .mk _ _ _ l _=>l
def a6.f:a6→List (al×a6)| .mk _ _ _ _ f=>f
mutual
def cC:a6→aa
 | .mk k n s l f=> .agg [.int .i64 k, .int .i64 n, .str s, .slice false (uO l), .slice false (uP f)]
def uO:List a6→List aa
 |[]=>[]
 |v::r=>cC v::uO r
def uP:List (al×a6)→List aa
 |[]=>[]
 |(s, .mk k n t l f)::r=> .agg [.str s, .int .i64 k, .int .i64 n, .str t, .slice false (uO l), .slice false (uP f)]::uP r
end
def cL (p:al×a6):aa:= .agg (.str p.1::(cC p.2).cells)
theorem Np (l:List a6):uO l=l.map cC:=by
 induction l with
 |nil=>rfl
 |cons v r aO=>simp only [uO,List.map_cons,aO]
theorem Nq (l:List (al×a6)):uP l=l.map cL:=by
 induction l with
 |nil=>rfl
 |cons v r aO=>
  obtain ⟨s,v⟩:=v
  cases v with
  |mk k n t l f=>simp only [uP,List.map_cons,aO,cL,cC,aa.cells]
def dd (v:a6):aa:= .agg [.int .i64 v.kind, .int .i64 v.n, .str v.s, .slice false (v.l.map cC), .slice false (v.f.map cL)]
def jH (p:al×a6):aa:= .agg [.str p.1, .int .i64 p.2.kind, .int .i64 p.2.n, .str p.2.s, .slice false (p.2.l.map cC), .slice false (p.2.f.map cL)]
theorem iY (v:a6):cC v=dd v:=by
 cases v with
 |mk k n s l f=>simp only [cC,dd,Np,Nq,a6.kind,a6.n,a6.s,a6.l,a6.f]
theorem jZ (p:al×a6):cL p=jH p:=by
 rw [cL,iY];rfl
mutual
def kv (bE:Int):a6→Int
 | .mk _ _ s l f=>nv bE f (mK bE l (1+s.length))
def mK (bE:Int):List a6→Int→Int
 |[],n=>n
 |v::r,n=>if n≤bE then mK bE r (IntKind.i64.wrap (n+kv bE v)) else n
def nv (bE:Int):List (al×a6)→Int→Int
 |[],n=>n
 |(s, .mk _ _ t l f)::r,n=>if n≤bE then nv bE r (IntKind.i64.wrap (IntKind.i64.wrap (n+s.length)+nv bE f (mK bE l (1+t.length)))) else n
end
theorem Nr (bE:Int) (v:a6):kv bE v=nv bE v.f (mK bE v.l (1+v.s.length)):=by
 cases v with
 |mk k n s l f=>simp only [kv,a6.f,a6.l,a6.s]
theorem Fc (bE:Int) (p:al×a6) (r:List (al×a6)) (n:Int):nv bE (p::r) n=if n≤bE then nv bE r (IntKind.i64.wrap (IntKind.i64.wrap (n+p.1.length)+kv bE p.2)) else n:=by
 obtain ⟨s,v⟩:=p
 cases v with
 |mk k n t l f=>simp only [nv,kv]
theorem Ns (bE:Int) (l:List a6) (n:Int) (h:bE<n):mK bE l n=n:=by
 cases l with
 |nil=>simp only [mK]
 |cons v r=>simp only [mK];rw [if_neg (by omega)]
theorem Nt (bE:Int) (l:List (al×a6)) (n:Int) (h:bE<n):nv bE l n=n:=by
 cases l with
 |nil=>simp only [nv]
 |cons v r=>rw [Fc,if_neg (by omega)]
theorem iZ {α:Type} [Inhabited α] {l:List α} {i:Int} (aA:0≤i) (ab:i<l.length):l.drop i.toNat=U l i::l.drop (i+1).toNat:=by
 have h:i.toNat<l.length:=by omega
 have e:(i+1).toNat=i.toNat+1:=by omega
 rw [List.drop_eq_getElem_cons h,e]
 simp [U,List.getD_eq_getElem?_getD,h]
mutual
def dq:a6→Nat
 | .mk _ _ _ l f=>n9 l+oa f+1
def n9:List a6→Nat
 |[]=>0
 |v::r=>dq v+n9 r
def oa:List (al×a6)→Nat
 |[]=>0
 |(_, .mk _ _ _ l f)::r=>n9 l+oa f+1+oa r
end
theorem kS {l:List a6} {v:a6} (h:v∈l):dq v≤n9 l:=by
 induction l with
 |nil=>cases h
 |cons a r aO=>
  simp only [n9]
  rcases List.mem_cons.1 h with rfl|h
  · omega
  · have:=aO h;omega
theorem kT {l:List (al×a6)} {p:al×a6} (h:p∈l):dq p.2≤oa l:=by
 induction l with
 |nil=>cases h
 |cons a r aO=>
  obtain ⟨s,v⟩:=a
  cases v with
  |mk k n t l f=>
   simp only [oa]
   rcases List.mem_cons.1 h with rfl|h
   · simp only [dq];omega
   · have:=aO h;omega
theorem j0 (v:a6):dq v=n9 v.l+oa v.f+1:=by
 cases v with
 |mk k n s l f=>simp only [dq,a6.l,a6.f]
set_option maxHeartbeats 4000000 in
theorem Nu (v:a6) (bE:Int) (aO:∀w:a6,dq w<dq v→∀(m:ae) (K:aa→ae→Prop),K (.int .i64 (kv bE w)) m→bp Tryd.prog 29 [dd w, .int .i64 bE] m K) (m:ae) (K:aa→ae→Prop) (ad:K (.int .i64 (kv bE v)) m):bp Tryd.prog 29 [dd v, .int .i64 bE] m K:=by
 refine enter (c:=dF [32,53,62] [0] [3,7] [] [] []) (vs:=[.aI (dd v), .aI (.int .i64 bE)]) (L:=[]) (m:=m) false cw Tryd.mixed Tryd.func29 rfl (k:=2) (by show du [] _ _ _=true;decide+kernel) rfl (Good.nil m) ?_
 refine ⟨fun b2=>?_⟩
 have sq:v.s.length≤140737488355328:=(b2 0 2 (Nat.le_of_ble_eq_true rfl))
 have ob:v.l.length≤140737488355328:=dT (b2 0 3 (Nat.le_of_ble_eq_true rfl))
 have pX:v.f.length≤140737488355328:=dT (b2 0 4 (Nat.le_of_ble_eq_true rfl))
 refine ax (by omega) ?_
 refine aU ?_
 refine dE (σ:=Int×Int) [] [1,2,5,6] 1 (fun ⟨gV,i⟩=>([(1,aK bE),(2, .loc 0 0),(5,aK gV),(6,aK i)],[.cells [aK v.kind,aK v.n,aR v.s,aX (v.l.map cC),aX (v.f.map cL)]],m)) (fun ⟨gV,i⟩=>0≤i∧i≤v.l.length∧mK bE v.l (1+v.s.length)=mK bE (v.l.drop i.toNat) gV) (fun ⟨gV,i⟩=>v.l.length- i.toNat) (1+(v.s.length:Int),0) ⟨rfl,rfl⟩ ?_ ?_
 · try dsimp only
   exact ⟨by omega,by omega,rfl⟩
 rintro ⟨gV,i⟩ aW
 dsimp only at aW
 refine aU ?_
 refine dc [1,2,5,6] 21 ((decide (i<(v.l.length:Int)))&&(decide (gV≤bE))) ?_ ?_
 · repeat' first
    |exact ⟨⟨_,rfl,by grind [bT.val]⟩,rfl⟩
    |refine ax (fun _=>?_) (fun _=>?_)
    |refine cl ?_
 refine ax (fun I=>?_) (fun I=>?_)
 · replace I:(i<(v.l.length:Int))∧(gV≤bE):=⟨(of_decide_eq_true (fC I)),(of_decide_eq_true (gS I))⟩
   refine aU ?_
   refine fE dd iY (by omega) ?_
   refine dV (fun _=>aO (U v.l i) (by have:=j0 v;first|(have:=kS (cy (l:=v.l) (i:=i) aW.1 I.1);omega)|(have:=kT (cy (l:=v.f) (i:=k) cR.1 J.1);omega))) rfl ?_
   refine ax (by omega) ?_
   refine ⟨(IntKind.i64.wrap (gV+(kv bE (U v.l i))),i+1),⟨rfl,rfl⟩,?_,?_⟩
   · try dsimp only
     refine ⟨by omega,by omega,?_⟩
     rw [aW.2.2,iZ aW.1 I.1]
     simp only [mK]
     rw [if_pos I.2]
   try dsimp only
   omega
 replace I:((v.l.length:Int)≤i)∨(bE<gV):=((gT I).imp (fun q=>(Int.not_lt.1 (of_decide_eq_false q))) (fun q=>(Int.not_le.1 (of_decide_eq_false q))))
 refine aU ?_
 refine dE (σ:=Int×Int) [] [1,2,5,7] 1 (fun ⟨e3,k⟩=>([(1,aK bE),(2, .loc 0 0),(5,aK e3),(7,aK k)],[.cells [aK v.kind,aK v.n,aR v.s,aX (v.l.map cC),aX (v.f.map cL)]],m)) (fun ⟨e3,k⟩=>0≤k∧k≤v.f.length∧kv bE v=nv bE (v.f.drop k.toNat) e3) (fun ⟨e3,k⟩=>v.f.length- k.toNat) (gV,0) ⟨rfl,rfl⟩ ?_ ?_
 · try dsimp only
   refine ⟨by omega,by omega,?_⟩
   have e:mK bE (v.l.drop i.toNat) gV=gV:=by
    by_cases aJ:bE<gV
    · exact Ns _ _ _ aJ
    · have ab:(v.l.length:Int)≤i:=by
       rcases I with h|h<;>omega
      rw [List.drop_eq_nil_of_le (by omega)];simp only [mK]
   rw [Nr,aW.2.2,e];rfl
 rintro ⟨e3,k⟩ cR
 dsimp only at cR
 refine aU ?_
 refine dc [1,2,5,7] 42 ((decide (k<(v.f.length:Int)))&&(decide (e3≤bE))) ?_ ?_
 · repeat' first
    |exact ⟨⟨_,rfl,by grind [bT.val]⟩,rfl⟩
    |refine ax (fun _=>?_) (fun _=>?_)
    |refine cl ?_
 refine ax (fun J=>?_) (fun J=>?_)
 · replace J:(k<(v.f.length:Int))∧(e3≤bE):=⟨(of_decide_eq_true (fC J)),(of_decide_eq_true (gS J))⟩
   refine aU ?_
   refine fE jH jZ (by omega) ?_
   refine fE jH jZ (by omega) ?_
   refine h9 (fun _=>aO ((U v.f k).2) (by have:=j0 v;first|(have:=kS (cy (l:=v.l) (i:=i) aW.1 I.1);omega)|(have:=kT (cy (l:=v.f) (i:=k) cR.1 J.1);omega))) ?_
   refine ax (by omega) ?_
   refine ⟨(IntKind.i64.wrap ((IntKind.i64.wrap (e3+(((U v.f k).1).length:Int)))+(kv bE ((U v.f k).2))),k+1),⟨rfl,rfl⟩,?_,?_⟩
   · try dsimp only
     exact ⟨by omega,by omega,by rw [cR.2.2,iZ cR.1 J.1,Fc,if_pos J.2]⟩
   try dsimp only
   omega
 replace J:((v.f.length:Int)≤k)∨(bE<e3):=((gT J).imp (fun q=>(Int.not_lt.1 (of_decide_eq_false q))) (fun q=>(Int.not_le.1 (of_decide_eq_false q))))
 refine b7 rfl fun _=>?_
 show K (.int .i64 e3) m
 have e:kv bE v=e3:=by
  rw [cR.2.2]
  by_cases aJ:bE<e3
  · exact Nt _ _ _ aJ
  · have ab:(v.f.length:Int)≤k:=by
     rcases J with h|h<;>omega
    rw [List.drop_eq_nil_of_le (by omega)];simp only [nv]
 rw [e] at ad;exact ad
theorem Ax (bE:Int):∀(n:Nat) (v:a6),dq v<n→∀(m:ae) (K:aa→ae→Prop),K (.int .i64 (kv bE v)) m→bp Tryd.prog 29 [dd v, .int .i64 bE] m K
 |0,_,h=>absurd h (Nat.not_lt_zero _)
 |n+1,v,h=>fun m K ad=>Nu v bE (fun w hw=>Ax bE n w (by omega)) m K ad
end Go.Proofs
end
section
namespace Go.Proofs
open Go Go.bb Go.b4
set_option maxRecDepth 100000
def l0 (c:UInt8):Bool:=decide (97≤(c.toNat:Int))&&decide ((c.toNat:Int)≤122)
def mL (c:UInt8):Bool:=decide (48≤(c.toNat:Int))&&decide ((c.toNat:Int)≤57)
def ky:al→Bool→Bool
 |[],_=>true
 |c::r,first=>(l0 c||(!first&&mL c))&&ky r false
def bJ (s:al):Bool:=ky s true&&!(s==[])&&decide ((s.length:Int)≤12)
theorem wZ {s:al} {i:Int} (aA:0≤i) (ab:i<s.length):ky (s.drop i.toNat) (i==0)=((l0 (U s i)||(!(i==0)&&mL (U s i)))&&ky (s.drop (i+1).toNat) (i+1==0)):=by
 have e:(i+1==0)=false:=by simp;omega
 rw [iZ aA ab,ky,e]
set_option maxHeartbeats 2000000 in
theorem pY (s:al) (aj:s.length≤140737488355328) (m:ae) (K:aa→ae→Prop) (ad:K (.bool (bJ s)) m):bp Tryd.prog 62 [.str s] m K:=by
 refine enter (c:=dF [] [] [5,8] [] [] []) (vs:=[.aI (.str s)]) (L:=[]) (m:=m) false cw Tryd.mixed Tryd.func62 rfl (k:=1) (by show du [] _ _ _=true;decide+kernel) rfl (Good.nil m) ?_
 refine aU ?_
 refine dE (σ:=Int) [] [0,6,7] 0 (fun i=>([(0,aR s),(6,aK (s.length:Int)),(7,aK i)],[],m)) (fun i=>0≤i∧i≤s.length∧ky s true=ky (s.drop i.toNat) (i==0)) (fun i=>s.length- i.toNat) (0) ⟨rfl,rfl⟩ ?_ ?_
 · try dsimp only
   exact ⟨by omega,by omega,by simp⟩
 rintro i aW
 refine aU ?_
 refine ax (fun I=>?_) (fun I=>?_)
 · refine aU ?_
   refine ax (by omega) ?_
   refine dc [0,6,7] 30 (((decide (((U s i).toNat:Int)<97))||(decide (122<((U s i).toNat:Int))))&&(((i==0)||(decide (((U s i).toNat:Int)<48)))||(decide (57<((U s i).toNat:Int))))) ?_ ?_
   · repeat' first
      |exact ⟨⟨_,rfl,by grind [bT.val]⟩,rfl⟩
      |refine ax (fun _=>?_) (fun _=>?_)
   refine ax (fun J=>?_) (fun J=>?_)
   · replace J:((((U s i).toNat:Int)<97)∨(122<((U s i).toNat:Int)))∧(((i=0)∨(((U s i).toNat:Int)<48))∨(57<((U s i).toNat:Int))):=⟨((dD (fC J)).imp (fun q=>(of_decide_eq_true q)) (fun q=>(of_decide_eq_true q))),((dD (gS J)).imp (fun q=>((dD q).imp (fun q=>(eq_of_beq q)) (fun q=>(of_decide_eq_true q)))) (fun q=>(of_decide_eq_true q)))⟩
     refine b7 rfl fun _=>ga ad ?_
     show aa.bool (bJ s)=aa.bool false
     refine congrArg aa.bool ?_
     have ag:(l0 (U s i)||(!(i==0)&&mL (U s i)))=false:=by
      rw [Bool.eq_false_iff];intro aL;simp [l0,mL] at aL;omega
     rw [bJ,aW.2.2,wZ aW.1 I,ag];rfl
   replace J:((97≤((U s i).toNat:Int))∧(((U s i).toNat:Int)≤122))∨(((i≠0)∧(48≤((U s i).toNat:Int)))∧(((U s i).toNat:Int)≤57)):=((gT J).imp (fun q=>⟨(Int.not_lt.1 (of_decide_eq_false (b8 q))),(Int.not_lt.1 (of_decide_eq_false (dC q)))⟩) (fun q=>⟨⟨(ne_of_beq_false (b8 (b8 q))),(Int.not_lt.1 (of_decide_eq_false (dC (b8 q))))⟩,(Int.not_lt.1 (of_decide_eq_false (dC q)))⟩))
   refine ax (by omega) ?_
   refine ⟨(i+1),⟨rfl,rfl⟩,?_,?_⟩
   · try dsimp only
     have ag:(l0 (U s i)||(!(i==0)&&mL (U s i)))=true:=by simp [l0,mL];omega
     exact ⟨by omega,by omega,by rw [aW.2.2,wZ aW.1 I,ag];rfl⟩
   try dsimp only
   omega
 refine dc [] 2 ((!(s==([])))&&(decide ((s.length:Int)≤12))) ?_ ?_
 · repeat' first
    |exact ⟨⟨_,rfl,by grind [bT.val]⟩,rfl⟩
    |refine ax (fun _=>?_) (fun _=>?_)
 refine b7 rfl fun _=>ga ad ?_
 show aa.bool (bJ s)=aa.bool ((!(s==([])))&&(decide ((s.length:Int)≤12)))
 refine congrArg aa.bool ?_
 have aN:ky s true=true:=by rw [aW.2.2,List.drop_eq_nil_of_le (by omega)];rfl
 rw [bJ,aN];cases s<;>simp
end Go.Proofs
end
section
namespace Go.Proofs
open Go Go.bb Go.b4
set_option maxRecDepth 100000
def cS:a6:= .mk 0 0 [] [] []
theorem a6.ext' {a b:a6} (I:a.kind=b.kind) (J:a.n=b.n) (ak:a.s=b.s) (aH:a.l=b.l) (aQ:a.f=b.f):a=b:=by
 cases a;cases b;simp only [a6.kind,a6.n,a6.s,a6.l,a6.f] at I J ak aH aQ;subst I J ak aH aQ;rfl
noncomputable def gm (a b:a6):Bool:=@decide (a=b) (Classical.propDecidable _)
theorem pZ {a b:a6} (h:a=b):gm a b=true:=by simp [gm,h]
theorem sr {a b:a6} (h:a≠b):gm a b=false:=by simp [gm,h]
theorem qY {a b:a6}:gm a b=true↔a=b:=by simp [gm]
def iD {α:Type} (g:α→Int→Bool×Int):List α→Int→Bool×Int
 |[],n=>(true,n)
 |x::r,n=>if (g x n).1=true then iD g r (g x n).2 else (false,(g x n).2)
def eo:Nat→Int→a6→Int→Bool×Int
 |0,_,_,n=>(false,n)
 |k+1,deep,v,n=>
  if 6<deep∨n- 1<0 then (false,n- 1)
  else if (iD (eo k (deep+1)) v.l (n- 1)).1=false then (false,(iD (eo k (deep+1)) v.l (n- 1)).2)
  else iD (fun p=>eo k (deep+1) p.2) v.f (iD (eo k (deep+1)) v.l (n- 1)).2
def ll {α:Type} (g:α→Nat):List α→Nat
 |[]=>0
 |x::r=>g x+ll g r
theorem Fe (l:List a6):ll dq l=n9 l:=by
 induction l with
 |nil=>rfl
 |cons v r aO=>simp only [ll,n9,aO]
theorem Ff (l:List (al×a6)):ll (fun p=>dq p.2) l=oa l:=by
 induction l with
 |nil=>rfl
 |cons p r aO=>
  obtain ⟨s,v⟩:=p
  cases v with
  |mk k n t l f=>simp only [ll,oa,aO,dq]
theorem Ay {α:Type} {g:α→Int→Bool×Int} {d:α→Nat} (a8:∀x n,0≤n→(g x n).1=true→0≤(g x n).2∧(g x n).2+d x=n):∀(l:List α) (n:Int),0≤n→(iD g l n).1=true→0≤(iD g l n).2∧(iD g l n).2+ll d l=n
 |[],n,aA,_=>by simp [iD,ll,aA]
 |x::r,n,aA,h=>by
  rw [iD] at h ⊢
  split at h
  · rename_i I
    have J:=a8 x n aA I
    have ak:=Ay a8 r _ J.1 h
    rw [if_pos I,ll]
    exact ⟨ak.1,by push_cast;omega⟩
  · cases h
theorem uQ:∀(k:Nat) (deep:Int) (v:a6) (n:Int),0≤n→(eo k deep v n).1=true→0≤(eo k deep v n).2∧(eo k deep v n).2+dq v=n
 |0,_,_,_,_,h=>by simp [eo] at h
 |k+1,deep,v,n,aA,h=>by
  rw [eo] at h ⊢
  split at h
  · cases h
  · rename_i I
    rw [if_neg I]
    split at h
    · cases h
    · rename_i J
      rw [if_neg J]
      have ak:(iD (eo k (deep+1)) v.l (n- 1)).1=true:=by simpa using J
      have a:=Ay (d:=dq) (g:=eo k (deep+1)) (fun x n aJ ao=>uQ k (deep+1) x n aJ ao) v.l (n- 1) (by omega) ak
      have b:=Ay (d:=fun p:al×a6=>dq p.2) (g:=fun p=>eo k (deep+1) p.2) (fun x n aJ ao=>uQ k (deep+1) x.2 n aJ ao) v.f _ a.1 h
      rw [Fe] at a
      rw [Ff] at b
      have e:=j0 v
      exact ⟨b.1,by omega⟩
def oc:Option al→List (al×a6)→Bool
 |_,[]=>true
 |p,f::r=>bJ f.1&&(match p with|none=>true|some s=>Op.bytesLess s f.1)&&oc (some f.1) r
def hJ (v:a6):Bool:=
 if v.kind=0 then ((v.n==0)&&(v.s==[]))&&((v.l.length:Int)+(v.f.length:Int)==0)
 else if v.kind=1 then ((decide (-1000000000≤v.n)&&decide (v.n≤1000000000))&&(v.s==[]))&&((v.l.length:Int)+(v.f.length:Int)==0)
 else if v.kind=2 then ((v.n==0)&&decide ((v.s.length:Int)≤40))&&((v.l.length:Int)+(v.f.length:Int)==0)
 else if v.kind=3 then (((v.n==0)||(v.n==1))&&(v.s==[]))&&((v.l.length:Int)+(v.f.length:Int)==0)
 else if v.kind=4 then ((v.n==0)&&(v.s==[]))&&((v.f.length:Int)==0)
 else if v.kind=5 then (((v.n==0)&&(v.s==[]))&&((v.l.length:Int)==0))&&oc none v.f
 else false
def fG:Nat→a6→Bool
 |0,_=>false
 |k+1,v=>hJ v&&v.l.all (fG k)&&v.f.all (fun p=>fG k p.2)
def kU (b:Bool):Int:=if b=true then 0 else 3
def bH (v:a6):Int:=if (eo (dq v+1) 1 v 60).1=true then kU (fG (dq v+1) v) else 2
def su (l:List (al×a6)) (i:Int):Option al:=if i=0 then none else some (U l (i- 1)).1
theorem Fg (p:Option al) (f:al×a6) (r:List (al×a6)):oc p (f::r)=(bJ f.1&&(match p with|none=>true|some s=>Op.bytesLess s f.1)&&oc (some f.1) r):=by cases p<;>rfl
theorem Nv {l:List (al×a6)} {i:Int} (aA:0≤i) (ab:i<l.length):oc (su l i) (l.drop i.toNat)=(bJ (U l i).1&&((i==0)||Op.bytesLess (U l (i- 1)).1 (U l i).1)&&oc (su l (i+1)) (l.drop (i+1).toNat)):=by
 have e:su l (i+1)=some (U l i).1:=by rw [su,if_neg (by omega)];congr 2;congr 1;omega
 rw [iZ aA ab,Fg,e,su]
 by_cases h:i=0
 · simp [h]
 · have:(i==0)=false:=by simpa using h
   rw [if_neg h,this,Bool.false_or]
theorem w0 {α:Type} [Inhabited α] {g:α→Int→Bool×Int} {l:List α} {i n:Int} (aA:0≤i) (ab:i<l.length):iD g (l.drop i.toNat) n=if (g (U l i) n).1=true then iD g (l.drop (i+1).toNat) (g (U l i) n).2 else (false,(g (U l i) n).2):=by
 rw [iZ aA ab,iD]
theorem w1 {α:Type} [Inhabited α] {g:α→Bool} {l:List α} {i:Int} (aA:0≤i) (ab:i<l.length):(l.drop i.toNat).all g=(g (U l i)&&(l.drop (i+1).toNat).all g):=by
 rw [iZ aA ab,List.all_cons]
theorem Nw {k:Nat} {deep n x:Int} {v:a6} (h:¬(6<deep∨n- 1<0)) (e:iD (eo k (deep+1)) v.l (n- 1)=(false,x)):eo (k+1) deep v n=(false,x):=by
 rw [eo,if_neg h,e,if_pos rfl]
theorem Nx {k:Nat} {deep n x:Int} {v:a6} (h:¬(6<deep∨n- 1<0)) (e:iD (eo k (deep+1)) v.l (n- 1)=(true,x)):eo (k+1) deep v n=iD (fun p=>eo k (deep+1) p.2) v.f x:=by
 rw [eo,if_neg h,e,if_neg (by simp)]
theorem Az {b:Bool} (h:kU b=0):b=true:=by cases b<;>first|rfl|simp [kU] at h
theorem Fh {b:Bool} (h:kU b≠0):b=false:=by cases b<;>first|rfl|simp [kU] at h
theorem Ny {k:Nat} {v:a6} (h:hJ v=false):kU (fG (k+1) v)=3:=by rw [fG,h];rfl
theorem Nz {k:Nat} {v:a6} (h:v.l.all (fG k)=false):kU (fG (k+1) v)=3:=by rw [fG,h];simp [kU]
theorem NA {k:Nat} {v:a6} (h:v.f.all (fun p=>fG k p.2)=false):kU (fG (k+1) v)=3:=by rw [fG,h];simp [kU]
theorem NB {k:Nat} {v:a6} (I:hJ v=true) (J:v.l.all (fG k)=true) (ak:v.f.all (fun p=>fG k p.2)=true):kU (fG (k+1) v)=0:=by rw [fG,I,J,ak];rfl
set_option maxHeartbeats 4000000 in
theorem NC (k:Nat) (v:a6) (deep n:Int) (p:Nat) (aO:∀(w:a6) (deep n:Int),dq w<k→1≤deep→deep≤7→0≤n→n≤60→∀(b:Nat) (m:ae),eG [b] m→∀(K:aa→ae→Prop),K (.bool (eo k deep w n).1) (ae.a1 m [(b, .cells [.int .i64 (eo k deep w n).2])])→bp Tryd.prog 35 [dd w, .int .i64 deep, .ptr ⟨b,0,none⟩] (ae.a1 m [(b, .cells [.int .i64 n])]) K) (a7:dq v<k+1) (w2:1≤deep) (SG:deep≤7) (SH:0≤n) (SI:n≤60) (m:ae) (gd:eG [p] m) (K:aa→ae→Prop) (ad:K (.bool (eo (k+1) deep v n).1) (ae.a1 m [(p, .cells [.int .i64 (eo (k+1) deep v n).2])])):bp Tryd.prog 35 [dd v, .int .i64 deep, .ptr ⟨p,0,none⟩] (ae.a1 m [(p, .cells [.int .i64 n])]) K:=by
 refine enter (c:=dF [] [0] [2] [] [] [p]) (vs:=[.aI (dd v), .aI (.int .i64 deep), .loc 0 0]) (L:=[.cells [aK n]]) (m:=m) false cw Tryd.mixed Tryd.func35 rfl (k:=3) (by show du [] _ _ _=true;decide+kernel) rfl (gd.ia rfl) ?_
 refine ⟨fun b2=>?_⟩
 have sq:v.s.length≤140737488355328:=(b2 0 2 (Nat.le_of_ble_eq_true rfl))
 have ob:v.l.length≤140737488355328:=dT (b2 0 3 (Nat.le_of_ble_eq_true rfl))
 have pX:v.f.length≤140737488355328:=dT (b2 0 4 (Nat.le_of_ble_eq_true rfl))
 refine ax (by omega) ?_
 refine aU ?_
 refine dc [1,2,3] 23 ((decide (6<deep))||(decide (n- 1<0))) ?_ ?_
 · repeat' first
    |exact ⟨⟨_,rfl,by grind [bT.val]⟩,rfl⟩
    |refine ax (fun _=>?_) (fun _=>?_)
 refine ax (fun I=>?_) (fun I=>?_)
 · replace I:(6<deep)∨(n- 1<0):=((dD I).imp (fun q=>(of_decide_eq_true q)) (fun q=>(of_decide_eq_true q)))
   refine rt rfl fun _=>?_
   show K (.bool false) (ae.a1 m [(p, .cells [.int .i64 (n- 1)])])
   rw [eo,if_pos (by omega)] at ad;exact ad
 replace I:(deep≤6)∧(0≤n- 1):=⟨(Int.not_lt.1 (of_decide_eq_false (b8 I))),(Int.not_lt.1 (of_decide_eq_false (dC I)))⟩
 refine aU ?_
 refine cl ?_
 refine dE (σ:=Int×Int) [] [1,2,3,25,26,27] 2 (fun ⟨i,nl⟩=>([(1,aK deep),(2, .loc 0 0),(3, .loc 1 0),(25,aX (v.l.map cC)),(26,aK (v.l.length:Int)),(27,aK i)],[.cells [aK nl], .cells [aK v.kind,aK v.n,aR v.s,aX (v.l.map cC),aX (v.f.map cL)]],m)) (fun ⟨i,nl⟩=>0≤i∧i≤v.l.length∧0≤nl∧nl≤60∧iD (eo k (deep+1)) v.l (n- 1)=iD (eo k (deep+1)) (v.l.drop i.toNat) nl) (fun ⟨i,nl⟩=>v.l.length- i.toNat) (0,n- 1) ⟨rfl,rfl⟩ ?_ ?_
 · try dsimp only
   exact ⟨by omega,by omega,by omega,by omega,rfl⟩
 rintro ⟨i,nl⟩ aW
 dsimp only at aW
 refine aU ?_
 refine ax (fun J=>?_) (fun J=>?_)
 · refine aU ?_
   refine fE dd iY (by omega) ?_
   refine ax (by omega) ?_
   refine cI [0] [.cells [aK ((eo k (deep+1) (U v.l i) nl).2)]] (kt ((eo k (deep+1) (U v.l i) nl).1)) rfl (fun bs aq gd=>aO (U v.l i) (deep+1) nl (by have:=j0 v;first|(have:=kS (cy (l:=v.l) (i:=i) aW.1 (by assumption));omega)|(have:=kT (cy (l:=v.f) (i:=i2) cR.1 (by assumption));omega)) (by omega) (by omega) (by omega) (by omega) (bs.getD 0 0) aq gd) ?_
   refine ax (fun ak=>?_) (fun ak=>?_)
   · refine ax (by omega) ?_
     refine ⟨(i+1,(eo k (deep+1) (U v.l i) nl).2),⟨rfl,rfl⟩,?_,?_⟩
     · try dsimp only
       have q:=uQ k (deep+1) (U v.l i) nl aW.2.2.1 ak
       exact ⟨by omega,by omega,by omega,by omega,by rw [aW.2.2.2.2,w0 aW.1 J,if_pos ak]⟩
     try dsimp only
     omega
   refine rt rfl fun _=>?_
   show K (.bool false) (ae.a1 m [(p, .cells [.int .i64 ((eo k (deep+1) (U v.l i) nl).2)])])
   have e:eo (k+1) deep v n=(false,(eo k (deep+1) (U v.l i) nl).2):=Nw (by omega) (by rw [aW.2.2.2.2,w0 aW.1 J,if_neg (by simp [ak])])
   rw [e] at ad;exact ad
 refine aU ?_
 refine cl ?_
 refine dE (σ:=Int×Int) [] [1,2,39,40,41] 2 (fun ⟨i2,kz⟩=>([(1,aK deep),(2, .loc 0 0),(39,aX (v.f.map cL)),(40,aK (v.f.length:Int)),(41,aK i2)],[.cells [aK kz], .cells [aK v.kind,aK v.n,aR v.s,aX (v.l.map cC),aX (v.f.map cL)]],m)) (fun ⟨i2,kz⟩=>0≤i2∧i2≤v.f.length∧0≤kz∧kz≤60∧eo (k+1) deep v n=iD (fun p=>eo k (deep+1) p.2) (v.f.drop i2.toNat) kz) (fun ⟨i2,kz⟩=>v.f.length- i2.toNat) (0,nl) ⟨rfl,rfl⟩ ?_ ?_
 · try dsimp only
   have e:iD (eo k (deep+1)) v.l (n- 1)=(true,nl):=by rw [aW.2.2.2.2,List.drop_eq_nil_of_le (by omega)];rfl
   exact ⟨by omega,by omega,by omega,by omega,by rw [Nx (by omega) e];rfl⟩
 rintro ⟨i2,kz⟩ cR
 dsimp only at cR
 refine aU ?_
 refine ax (fun aH=>?_) (fun aH=>?_)
 · refine aU ?_
   refine fE jH jZ (by omega) ?_
   refine ax (by omega) ?_
   refine cI [0] [.cells [aK ((eo k (deep+1) ((U v.f i2).2) kz).2)]] (kt ((eo k (deep+1) ((U v.f i2).2) kz).1)) rfl (fun bs aq gd=>aO ((U v.f i2).2) (deep+1) kz (by have:=j0 v;first|(have:=kS (cy (l:=v.l) (i:=i) aW.1 (by assumption));omega)|(have:=kT (cy (l:=v.f) (i:=i2) cR.1 (by assumption));omega)) (by omega) (by omega) (by omega) (by omega) (bs.getD 0 0) aq gd) ?_
   refine ax (fun aQ=>?_) (fun aQ=>?_)
   · refine ax (by omega) ?_
     refine ⟨(i2+1,(eo k (deep+1) ((U v.f i2).2) kz).2),⟨rfl,rfl⟩,?_,?_⟩
     · try dsimp only
       have q:=uQ k (deep+1) (U v.f i2).2 kz cR.2.2.1 aQ
       exact ⟨by omega,by omega,by omega,by omega,by rw [cR.2.2.2.2,w0 cR.1 aH,if_pos aQ]⟩
     try dsimp only
     omega
   refine rt rfl fun _=>?_
   show K (.bool false) (ae.a1 m [(p, .cells [.int .i64 ((eo k (deep+1) ((U v.f i2).2) kz).2)])])
   have e:eo (k+1) deep v n=(false,(eo k (deep+1) (U v.f i2).2 kz).2):=by
    rw [cR.2.2.2.2,w0 cR.1 aH,if_neg (by simp [aQ])]
   rw [e] at ad;exact ad
 refine rt rfl fun _=>?_
 show K (.bool true) (ae.a1 m [(p, .cells [.int .i64 kz])])
 have e:eo (k+1) deep v n=(true,kz):=by rw [cR.2.2.2.2,List.drop_eq_nil_of_le (by omega)];rfl
 rw [e] at ad;exact ad
theorem Fi:∀(k:Nat) (v:a6) (deep n:Int),dq v<k→1≤deep→deep≤7→0≤n→n≤60→∀(b:Nat) (m:ae),eG [b] m→∀(K:aa→ae→Prop),K (.bool (eo k deep v n).1) (ae.a1 m [(b, .cells [.int .i64 (eo k deep v n).2])])→bp Tryd.prog 35 [dd v, .int .i64 deep, .ptr ⟨b,0,none⟩] (ae.a1 m [(b, .cells [.int .i64 n])]) K
 |0,_,_,_,h=>absurd h (Nat.not_lt_zero _)
 |k+1,v,deep,n,h=>fun I db aA bw b m gd K ad=>NC k v deep n b (Fi k) h I db aA bw m gd K ad
set_option maxHeartbeats 8000000 in
theorem ND (k:Nat) (v:a6) (aO:∀(w:a6),dq w<k→∀(m:ae) (K:aa→ae→Prop),K (.err 72 (kU (fG k w))) m→bp Tryd.prog 36 [dd w] m K) (a7:dq v<k+1) (m:ae) (K:aa→ae→Prop) (ad:K (.err 72 (kU (fG (k+1) v))) m):bp Tryd.prog 36 [dd v] m K:=by
 refine enter (c:=dF [] [0,19] [5,7,9,11,13,15,19] [] [] []) (vs:=[.aI (dd v)]) (L:=[]) (m:=m) true cw Tryd.mixed Tryd.func36 rfl (k:=1) (by show du [] _ _ _=true;decide+kernel) rfl (Good.nil m) ?_
 refine ⟨fun b2=>?_⟩
 have sq:v.s.length≤140737488355328:=(b2 0 2 (Nat.le_of_ble_eq_true rfl))
 have ob:v.l.length≤140737488355328:=dT (b2 0 3 (Nat.le_of_ble_eq_true rfl))
 have pX:v.f.length≤140737488355328:=dT (b2 0 4 (Nat.le_of_ble_eq_true rfl))
 refine uy (σ:=Bool) [(3,0)] [1,3] 1 (fun ok=>([(1, .loc 0 0),(3,kt ok)],[.cells [aK v.kind,aK v.n,aR v.s,aX (v.l.map cC),aX (v.f.map cL)]],m)) (fun ok=>ok=hJ v) ?_ ?_
 · rintro ok nw
   refine aU ?_
   refine ax (fun I=>?_) (fun I=>?_)
   · refine aU ?_
     refine cl ?_
     refine dE (σ:=Int) [] [1,170,171,172] 1 (fun i=>([(1, .loc 0 0),(170,aX (v.l.map cC)),(171,aK (v.l.length:Int)),(172,aK i)],[.cells [aK v.kind,aK v.n,aR v.s,aX (v.l.map cC),aX (v.f.map cL)]],m)) (fun i=>0≤i∧i≤v.l.length∧v.l.all (fG k)=(v.l.drop i.toNat).all (fG k)) (fun i=>v.l.length- i.toNat) (0) ⟨rfl,rfl⟩ ?_ ?_
     · try dsimp only
       exact ⟨by omega,by omega,rfl⟩
     rintro i aW
     refine aU ?_
     refine ax (fun J=>?_) (fun J=>?_)
     · refine aU ?_
       refine fE dd iY (by omega) ?_
       refine dV (fun _=>aO (U v.l i) (by have:=j0 v;first|(have:=kS (cy (l:=v.l) (i:=i) aW.1 (by assumption));omega)|(have:=kT (cy (l:=v.f) (i:=i2) cR.1 (by assumption));omega))) rfl ?_
       refine ax (fun ak=>?_) (fun ak=>?_)
       · refine ax (by omega) ?_
         refine ⟨(i+1),⟨rfl,rfl⟩,?_,?_⟩
         · try dsimp only
           exact ⟨by omega,by omega,by rw [aW.2.2,w1 aW.1 J,Az ak,Bool.true_and]⟩
         try dsimp only
         omega
       refine b7 rfl fun _=>?_
       show K (.err 72 3) m
       rw [Nz (by rw [aW.2.2,w1 aW.1 J,Fh ak,Bool.false_and])] at ad;exact ad
     refine aU ?_
     refine cl ?_
     refine dE (σ:=Int) [] [182,183,184] 1 (fun i2=>([(182,aX (v.f.map cL)),(183,aK (v.f.length:Int)),(184,aK i2)],[.cells [aK v.kind,aK v.n,aR v.s,aX (v.l.map cC),aX (v.f.map cL)]],m)) (fun i2=>0≤i2∧i2≤v.f.length∧v.f.all (fun p=>fG k p.2)=(v.f.drop i2.toNat).all (fun p=>fG k p.2)) (fun i2=>v.f.length- i2.toNat) (0) ⟨rfl,rfl⟩ ?_ ?_
     · try dsimp only
       exact ⟨by omega,by omega,rfl⟩
     rintro i2 cR
     refine aU ?_
     refine ax (fun aH=>?_) (fun aH=>?_)
     · refine aU ?_
       refine fE jH jZ (by omega) ?_
       refine dV (fun _=>aO ((U v.f i2).2) (by have:=j0 v;first|(have:=kS (cy (l:=v.l) (i:=i) aW.1 (by assumption));omega)|(have:=kT (cy (l:=v.f) (i:=i2) cR.1 (by assumption));omega))) rfl ?_
       refine ax (fun aQ=>?_) (fun aQ=>?_)
       · refine ax (by omega) ?_
         refine ⟨(i2+1),⟨rfl,rfl⟩,?_,?_⟩
         · try dsimp only
           exact ⟨by omega,by omega,by rw [cR.2.2,w1 (g:=fun p:al×a6=>fG k p.2) cR.1 aH,Az aQ,Bool.true_and]⟩
         try dsimp only
         omega
       refine b7 rfl fun _=>?_
       show K (.err 72 3) m
       rw [NA (by rw [cR.2.2,w1 (g:=fun p:al×a6=>fG k p.2) cR.1 aH,Fh aQ,Bool.false_and])] at ad;exact ad
     refine b7 rfl fun _=>?_
     show K (.err 72 0) m
     rw [NB (by rw [←nw,I]) (by rw [aW.2.2,List.drop_eq_nil_of_le (by omega)];rfl) (by rw [cR.2.2,List.drop_eq_nil_of_le (by omega)];rfl)] at ad;exact ad
   refine b7 rfl fun _=>?_
   show K (.err 72 3) m
   rw [Ny (by rw [←nw,I])] at ad;exact ad
 refine ax (fun bw=>?_) (fun bw=>?_)
 · refine dc [1] 3 (((v.n==0)&&(v.s==([])))&&(((v.l.length:Int)+(v.f.length:Int))==0)) ?_ ?_
   · repeat' first
      |exact ⟨⟨_,rfl,by grind [bT.val]⟩,rfl⟩
      |refine ax (fun _=>?_) (fun _=>?_)
      |refine cl ?_
      |refine ax (by omega) ?_
   refine ⟨((((v.n==0)&&(v.s==([])))&&(((v.l.length:Int)+(v.f.length:Int))==0))),⟨rfl,rfl⟩,?_⟩
   unfold hJ
   repeat' split
   all_goals first|omega|rfl
 refine ax (fun db=>?_) (fun db=>?_)
 · refine dc [1] 3 ((((decide (-1000000000≤v.n))&&(decide (v.n≤1000000000)))&&(v.s==([])))&&(((v.l.length:Int)+(v.f.length:Int))==0)) ?_ ?_
   · repeat' first
      |exact ⟨⟨_,rfl,by grind [bT.val]⟩,rfl⟩
      |refine ax (fun _=>?_) (fun _=>?_)
      |refine cl ?_
      |refine ax (by omega) ?_
   refine ⟨(((((decide (-1000000000≤v.n))&&(decide (v.n≤1000000000)))&&(v.s==([])))&&(((v.l.length:Int)+(v.f.length:Int))==0))),⟨rfl,rfl⟩,?_⟩
   unfold hJ
   repeat' split
   all_goals first|omega|rfl
 refine ax (fun cA=>?_) (fun cA=>?_)
 · refine dc [1] 3 (((v.n==0)&&(decide ((v.s.length:Int)≤40)))&&(((v.l.length:Int)+(v.f.length:Int))==0)) ?_ ?_
   · repeat' first
      |exact ⟨⟨_,rfl,by grind [bT.val]⟩,rfl⟩
      |refine ax (fun _=>?_) (fun _=>?_)
      |refine cl ?_
      |refine ax (by omega) ?_
   refine ⟨((((v.n==0)&&(decide ((v.s.length:Int)≤40)))&&(((v.l.length:Int)+(v.f.length:Int))==0))),⟨rfl,rfl⟩,?_⟩
   unfold hJ
   repeat' split
   all_goals first|omega|rfl
 refine ax (fun dx=>?_) (fun dx=>?_)
 · refine dc [1] 3 ((((v.n==0)||(v.n==1))&&(v.s==([])))&&(((v.l.length:Int)+(v.f.length:Int))==0)) ?_ ?_
   · repeat' first
      |exact ⟨⟨_,rfl,by grind [bT.val]⟩,rfl⟩
      |refine ax (fun _=>?_) (fun _=>?_)
      |refine cl ?_
      |refine ax (by omega) ?_
   refine ⟨(((((v.n==0)||(v.n==1))&&(v.s==([])))&&(((v.l.length:Int)+(v.f.length:Int))==0))),⟨rfl,rfl⟩,?_⟩
   unfold hJ
   repeat' split
   all_goals first|omega|rfl
 refine ax (fun eY=>?_) (fun eY=>?_)
 · refine dc [1] 3 (((v.n==0)&&(v.s==([])))&&((v.f.length:Int)==0)) ?_ ?_
   · repeat' first
      |exact ⟨⟨_,rfl,by grind [bT.val]⟩,rfl⟩
      |refine ax (fun _=>?_) (fun _=>?_)
      |refine cl ?_
   refine ⟨((((v.n==0)&&(v.s==([])))&&((v.f.length:Int)==0))),⟨rfl,rfl⟩,?_⟩
   unfold hJ
   repeat' split
   all_goals first|omega|rfl
 refine ax (fun hq=>?_) (fun hq=>?_)
 · refine dc [1] 3 (((v.n==0)&&(v.s==([])))&&((v.l.length:Int)==0)) ?_ ?_
   · repeat' first
      |exact ⟨⟨_,rfl,by grind [bT.val]⟩,rfl⟩
      |refine ax (fun _=>?_) (fun _=>?_)
      |refine cl ?_
   refine cl ?_
   refine dE (σ:=Bool×Int) [(3,0)] [1,3,136,137,138] 1 (fun ⟨ok,i⟩=>([(1, .loc 0 0),(3,kt ok),(136,aX (v.f.map cL)),(137,aK (v.f.length:Int)),(138,aK i)],[.cells [aK v.kind,aK v.n,aR v.s,aX (v.l.map cC),aX (v.f.map cL)]],m)) (fun ⟨ok,i⟩=>0≤i∧i≤v.f.length∧hJ v=(ok&&oc (su v.f i) (v.f.drop i.toNat))) (fun ⟨ok,i⟩=>v.f.length- i.toNat) ((((v.n==0)&&(v.s==([])))&&((v.l.length:Int)==0)),0) ⟨rfl,rfl⟩ ?_ ?_
   · try dsimp only
     refine ⟨by omega,by omega,?_⟩
     unfold hJ
     rw [if_neg (by assumption),if_neg (by assumption),if_neg (by assumption),if_neg (by assumption),if_neg (by assumption),if_pos (by assumption)]
     rfl
   rintro ⟨ok,i⟩ aW
   dsimp only at aW
   refine aU ?_
   refine ax (fun l1=>?_) (fun l1=>?_)
   · refine aU ?_
     refine fE jH jZ (by omega) ?_
     refine ⟨fun NF=>?_⟩
     have NG:(U v.f i).1.length≤140737488355328:=DI (f:=cL) (NF 136).2 (cy aW.1 l1) 0 (Nat.succ_pos _)
     refine dc [1,136,137,138] 3 ((ok&&(bJ ((U v.f i).1)))&&((i==0)||(Op.bytesLess ((U v.f (i- 1)).1) ((U v.f i).1)))) ?_ ?_
     · repeat' first
        |exact ⟨⟨_,rfl,by grind [bT.val]⟩,rfl⟩
        |refine ax (fun _=>?_) (fun _=>?_)
        |refine h9 (fun _=>pY ((U v.f i).1) NG) ?_
        |refine ax (by omega) ?_
        |refine fE jH jZ (by omega) ?_
     refine ax (by omega) ?_
     refine ⟨(((ok&&(bJ ((U v.f i).1)))&&((i==0)||(Op.bytesLess ((U v.f (i- 1)).1) ((U v.f i).1)))),i+1),⟨rfl,rfl⟩,?_,?_⟩
     · try dsimp only
       exact ⟨by omega,by omega,by rw [aW.2.2,Nv aW.1 l1];simp only [Bool.and_assoc]⟩
     try dsimp only
     omega
   refine ⟨(ok),⟨rfl,rfl⟩,?_⟩
   rw [aW.2.2,List.drop_eq_nil_of_le (by omega)];simp [oc]
 refine ⟨(false),⟨rfl,rfl⟩,?_⟩
 unfold hJ
 repeat' split
 all_goals first|omega|rfl
theorem Fj:∀(k:Nat) (v:a6),dq v<k→∀(m:ae) (K:aa→ae→Prop),K (.err 72 (kU (fG k v))) m→bp Tryd.prog 36 [dd v] m K
 |0,_,h=>absurd h (Nat.not_lt_zero _)
 |k+1,v,h=>fun m K ad=>ND k v (Fj k) h m K ad
set_option maxHeartbeats 2000000 in
theorem Fk (v:a6) (m:ae) (K:aa→ae→Prop) (ad:K (.err 72 (bH v)) m):bp Tryd.prog 18 [dd v] m K:=by
 refine enter (c:=dF [] [] [] [] [] []) (vs:=[.aI (dd v)]) (L:=[]) (m:=m) true cw Tryd.mixed Tryd.func18 rfl (k:=1) (by show du [] _ _ _=true;decide+kernel) rfl (Good.nil m) ?_
 refine aU ?_
 refine cI [1] [.cells [aK ((eo (dq v+1) 1 v 60).2)]] (kt ((eo (dq v+1) 1 v 60).1)) rfl (fun bs aq gd=>Fi (dq v+1) v 1 60 (Nat.lt_succ_self _) (by omega) (by omega) (by omega) (by omega) (bs.getD 1 0) aq gd) ?_
 refine ax (fun I=>?_) (fun I=>?_)
 · refine dV (fun _=>Fj (dq v+1) v (Nat.lt_succ_self _)) rfl ?_
   have cD:bH v=(kU (fG (dq v+1) v):Int):=by
    first|(rw [bH,if_pos (by assumption)];done)|(rw [bH,if_neg (by simp_all)];done)
   rw [cD] at ad
   exact b7 rfl fun _=>ad
 have cD:bH v=(2:Int):=by
  first|(rw [bH,if_pos (by assumption)];done)|(rw [bH,if_neg (by simp_all)];done)
 rw [cD] at ad
 exact b7 rfl fun _=>ad
set_option maxHeartbeats 4000000 in
theorem NH (a b:a6) (aO:∀v w:a6,dq v<dq a→∀(m:ae) (K:aa→ae→Prop),K (.bool (gm v w)) m→bp Tryd.prog 19 [dd v,dd w] m K) (m:ae) (K:aa→ae→Prop) (ad:K (.bool (gm a b)) m):bp Tryd.prog 19 [dd a,dd b] m K:=by
 refine enter (c:=dF [] [0] [1,12] [] [] []) (vs:=[.aI (dd a), .aI (dd b)]) (L:=[]) (m:=m) false cw Tryd.mixed Tryd.func19 rfl (k:=2) (by show du [] _ _ _=true;decide+kernel) rfl (Good.nil m) ?_
 refine ⟨fun b2=>?_⟩
 have sq:a.s.length≤140737488355328:=(b2 0 2 (Nat.le_of_ble_eq_true rfl))
 have ob:a.l.length≤140737488355328:=dT (b2 0 3 (Nat.le_of_ble_eq_true rfl))
 have pX:a.f.length≤140737488355328:=dT (b2 0 4 (Nat.le_of_ble_eq_true rfl))
 have Fl:b.s.length≤140737488355328:=(b2 1 2 (Nat.le_of_ble_eq_true rfl))
 have w3:b.l.length≤140737488355328:=dT (b2 1 3 (Nat.le_of_ble_eq_true rfl))
 have w4:b.f.length≤140737488355328:=dT (b2 1 4 (Nat.le_of_ble_eq_true rfl))
 refine aU ?_
 refine dc [2,3] 43 (((((!(a.kind==b.kind))||(!(a.n==b.n)))||(!(a.s==b.s)))||(!((a.l.length:Int)==(b.l.length:Int))))||(!((a.f.length:Int)==(b.f.length:Int)))) ?_ ?_
 · repeat' first
    |exact ⟨⟨_,rfl,by grind [bT.val]⟩,rfl⟩
    |refine ax (fun _=>?_) (fun _=>?_)
    |refine cl ?_
 refine ax (fun I=>?_) (fun I=>?_)
 · replace I:((((a.kind≠b.kind)∨(a.n≠b.n))∨(a.s≠b.s))∨((a.l.length:Int)≠(b.l.length:Int)))∨((a.f.length:Int)≠(b.f.length:Int)):=((dD I).imp (fun q=>((dD q).imp (fun q=>((dD q).imp (fun q=>((dD q).imp (fun q=>(ne_of_beq_false (dt q))) (fun q=>(ne_of_beq_false (dt q))))) (fun q=>(ne_of_beq_false (dt q))))) (fun q=>(ne_of_beq_false (dt q))))) (fun q=>(ne_of_beq_false (dt q))))
   refine b7 rfl fun _=>?_
   show K (.bool false) m
   rw [sr (by intro aL;subst aL;simp at I)] at ad;exact ad
 replace I:((((a.kind=b.kind)∧(a.n=b.n))∧(a.s=b.s))∧((a.l.length:Int)=(b.l.length:Int)))∧((a.f.length:Int)=(b.f.length:Int)):=⟨⟨⟨⟨(eq_of_beq (dy (b8 (b8 (b8 (b8 I)))))),(eq_of_beq (dy (dC (b8 (b8 (b8 I))))))⟩,(eq_of_beq (dy (dC (b8 (b8 I)))))⟩,(eq_of_beq (dy (dC (b8 I))))⟩,(eq_of_beq (dy (dC I)))⟩
 obtain ⟨⟨⟨⟨ai,aJ⟩,aj⟩,av⟩,aM⟩:=I
 refine aU ?_
 refine cl ?_
 refine dE (σ:=Int) [] [2,3,46,47] 2 (fun i=>([(2, .loc 0 0),(3, .loc 1 0),(46,aK (a.l.length:Int)),(47,aK i)],[.cells [aK a.kind,aK a.n,aR a.s,aX (a.l.map cC),aX (a.f.map cL)], .cells [aK b.kind,aK b.n,aR b.s,aX (b.l.map cC),aX (b.f.map cL)]],m)) (fun i=>0≤i∧i≤a.l.length∧a.l.take i.toNat=b.l.take i.toNat) (fun i=>a.l.length- i.toNat) (0) ⟨rfl,rfl⟩ ?_ ?_
 · try dsimp only
   exact ⟨by omega,by omega,rfl⟩
 rintro i aW
 refine aU ?_
 refine ax (fun J=>?_) (fun J=>?_)
 · refine aU ?_
   refine fE dd iY (by omega) ?_
   refine fE dd iY (by omega) ?_
   refine h9 (fun _=>aO (U a.l i) (U b.l i) (by have:=j0 a;first|(have:=kS (cy (l:=a.l) (i:=i) aW.1 (by assumption));omega)|(have:=kT (cy (l:=a.f) (i:=i2) cR.1 (by assumption));omega))) ?_
   refine ax (fun ak=>?_) (fun ak=>?_)
   · refine ax (by omega) ?_
     refine ⟨(i+1),⟨rfl,rfl⟩,?_,?_⟩
     · try dsimp only
       exact ⟨by omega,by omega,by rw [lY aW.1 J,lY aW.1 (by omega),aW.2.2,qY.1 ak]⟩
     try dsimp only
     omega
   refine b7 rfl fun _=>?_
   show K (.bool false) m
   rw [sr (by intro aL;subst aL;rw [pZ rfl] at ak;cases ak)] at ad;exact ad
 refine aU ?_
 refine cl ?_
 refine dE (σ:=Int) [] [2,3,65,66] 2 (fun i2=>([(2, .loc 0 0),(3, .loc 1 0),(65,aK (a.f.length:Int)),(66,aK i2)],[.cells [aK a.kind,aK a.n,aR a.s,aX (a.l.map cC),aX (a.f.map cL)], .cells [aK b.kind,aK b.n,aR b.s,aX (b.l.map cC),aX (b.f.map cL)]],m)) (fun i2=>0≤i2∧i2≤a.f.length∧a.f.take i2.toNat=b.f.take i2.toNat) (fun i2=>a.f.length- i2.toNat) (0) ⟨rfl,rfl⟩ ?_ ?_
 · try dsimp only
   exact ⟨by omega,by omega,rfl⟩
 rintro i2 cR
 refine aU ?_
 refine ax (fun aH=>?_) (fun aH=>?_)
 · refine aU ?_
   refine dc [2,3,65,66] 97 ((!(((U a.f i2).1)==((U b.f i2).1)))||(!(gm ((U a.f i2).2) ((U b.f i2).2)))) ?_ ?_
   · repeat' first
      |exact ⟨⟨_,rfl,by grind [bT.val]⟩,rfl⟩
      |refine ax (fun _=>?_) (fun _=>?_)
      |refine fE jH jZ (by omega) ?_
      |refine h9 (fun _=>aO ((U a.f i2).2) ((U b.f i2).2) (by have:=j0 a;first|(have:=kS (cy (l:=a.l) (i:=i) aW.1 (by assumption));omega)|(have:=kT (cy (l:=a.f) (i:=i2) cR.1 (by assumption));omega))) ?_
   refine ax (fun aQ=>?_) (fun aQ=>?_)
   · replace aQ:((U a.f i2).1≠(U b.f i2).1)∨(gm ((U a.f i2).2) ((U b.f i2).2)=false):=((dD aQ).imp (fun q=>(ne_of_beq_false (dt q))) (fun q=>(dt q)))
     refine b7 rfl fun _=>?_
     show K (.bool false) m
     rw [sr (by intro aL;subst aL;rw [pZ rfl] at aQ;simp at aQ)] at ad;exact ad
   replace aQ:((U a.f i2).1=(U b.f i2).1)∧(gm ((U a.f i2).2) ((U b.f i2).2)=true):=⟨(eq_of_beq (dy (b8 aQ))),(dy (dC aQ))⟩
   refine ax (by omega) ?_
   refine ⟨(i2+1),⟨rfl,rfl⟩,?_,?_⟩
   · try dsimp only
     exact ⟨by omega,by omega,by rw [lY cR.1 aH,lY cR.1 (by omega),cR.2.2,Prod.ext aQ.1 (qY.1 aQ.2)]⟩
   try dsimp only
   omega
 refine b7 rfl fun _=>?_
 show K (.bool true) m
 rw [pZ (a6.ext' ai aJ aj (by have:=aW.2.2;rwa [lZ (by omega),lZ (by omega)] at this) (by have:=cR.2.2;rwa [lZ (by omega),lZ (by omega)] at this))] at ad;exact ad
theorem Fm:∀(n:Nat) (a b:a6),dq a<n→∀(m:ae) (K:aa→ae→Prop),K (.bool (gm a b)) m→bp Tryd.prog 19 [dd a,dd b] m K
 |0,_,_,h=>absurd h (Nat.not_lt_zero _)
 |n+1,a,b,h=>fun m K ad=>NH a b (fun v w ba=>Fm n v w (by omega)) m K ad
theorem NI (a b:a6) (m:ae) (K:aa→ae→Prop) (ad:K (.bool (gm a b)) m):bp Tryd.prog 19 [dd a,dd b] m K:=Fm (dq a+1) a b (Nat.lt_succ_self _) m K ad
end Go.Proofs
end
