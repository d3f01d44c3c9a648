/-
  The executor: a new builder; calls that know the base of memory; tables; a law over a table.
-/
import Derived.Test.YtnahenbiipdlkaaGreatDoorWyN
import Derived.Lib.ItoaNum
import Derived.Sort.Grow
import Derived.Test.YtnahenbiipdlkaaGreatDoorWwS
import Derived.Test.YtnahenbiipdlkaaGreatDoorWxz
import Derived.Lib.AtoiErrMem
import Derived.Lib.Atoi
import Derived.Below
import Derived.Lib.AtoiAllCases
import Derived.Shelf.Strconv.AtoiAll
import Derived.Shelf.Strings.Prefix
import Derived.Shelf.Slices.Clone
import Derived.Shelf.Slices.CompactS
import Derived.Shelf.Slices.Turned
import Derived.Shelf.Small.Wraps
import Derived.Lib.RowBridge
import Derived.Test.YtnahenbiipdlkaaGreatDoorProg
import Derived.Lib.Strings
import Derived.Lib.Slices
import Derived.Lib.Walk
import Derived.Lib.Builder
import Derived.Lib.AppendStr
import Derived.Lib.UnsafeStr
import Derived.WalkKit
import Derived.Laws.Externs
import Derived.Laws.IdiomCopy
import Derived.ProofKit
import Derived.OwnWalk
import Derived.Shelf.Small.Bits
import Derived.Shelf.Small.Strs
import Derived.Shelf.Strconv.Atoi
import Derived.Shelf.Strconv.Itoa3
import Derived.Shelf.LaysM
import Derived.Shelf.LaysC
import Derived.Shelf.Strconv.AtoiErr
section
namespace Go.cz
open Go Go.bg
section
variable {c:gW} {L:List bT} {fr:ck} {m:ae}
theorem D9 {P:Program} {b0:List Nat} {d:Nat} {t eb:TypeId} {i:TypeInfo} {k:cY} (ad:P.info? t=some i) (ak:i.zero=some (.agg #[.pointer none, .slice none 0 0])) (aw:(qD L.length fr&&nx L.length L)=true)
 (h:k ((d, .loc L.length 0)::fr) (L++[.obj (.bX t eb [])]) m):iA P b0 (some d) (.alloc t) fr L m k:=
 ⟨fun new g n ops ty pos af l K al aM U=>Rh (eb:=eb) ad ak al fun b ah=>by
   simp only [Bool.and_eq_true] at aw
   have aM:x1 fr L (.obj (.bX t eb [])) (fun b ch=>k ((d, .loc b 0)::fr) ch m):=ec.2 ⟨aw.1,ec.2 ⟨aw.2,h⟩⟩
   obtain ⟨h,eW,aF,az,cS,_⟩:=Al g aM ah
   have:=U _ _ _ (b0++new++[b]) (by rw [List.append_assoc];exact List.prefix_append _ _) eW h
   rw [aF] at this
   simp only [bt,gz,den,cS] at this
   rw [az] at this
   exact this⟩
theorem hG {b0:List Nat} {P:Program} {f:FuncId} {vs:List a7} {Q:a7→List bT→ae→Prop} (is:List Nat) (os:List bT) (y:a7) (ad:(isOk L.length is&&Nat.beq is.length os.length)=true)
 (h:∀bs (ai:ae),eC (iL bs is) ai→(∀b o,m b=some o→ai b=some o)→∀(K:ab→ae→Prop),K (den bs y) (ai.aS (lU bs is os))→bh P f (bE bs vs) (ai.aS (lU bs is (nC L is))) K) (h2:Q y (jP L is os) m):pN P b0 f vs fr L m Q:=by
 simp only [Bool.and_eq_true] at ad
 refine .one y (jP L is os) m (fun new g K U=>?_) (by rw [rO,Nat.beq_refl];rfl) h2
 have gT:=ye g.lP (by rw [g.len];exact ad.1)
 have aF:=vo g ad.1 (vl L is).symm
 rw [D0 ad.1] at aF
 rw [aF]
 refine h (b0++new) _ ⟨gT,fun b ah=>by simp [td,ah]⟩ (fun b o ah=>?_) K ?_
 · have J:b∉b0++new:=fun hm=>by rw [g.fresh b hm] at ah;cases ah
   have aa:b∉iL (b0++new) is:=fun hm=>by
    obtain ⟨i,ig,e⟩:=vm hm
    have cl:=(vn ad.1).1 i ig
    rw [←g.len] at cl
    apply J
    rw [e,List.getD_eq_getElem?_getD,List.getElem?_eq_getElem cl]
    exact List.getElem_mem _
   simp only [td,if_neg aa,b7]
   rw [pH (by rw [qC g.len];exact J)]
   exact ah
 · have:=U [] (by rw [List.append_nil];exact ⟨g.lP,by rw [rO];exact g.len,g.fresh⟩)
   rw [List.append_nil,vo g ad.1 (Nat.eq_of_beq_eq_true ad.2)] at this
   exact this
end
end Go.cz
namespace Go.bg
open Go
section
variable {P:Program} {F:Nat→Prop} {lim:Nat→Nat} {w:World} {n:Nat} {fr:Fr} {m:ae} {ca:Act} {bL:List Nat}
theorem bd.grow (st:bd F lim w n fr m ca bL) (os:Array Obj) (k:Nat):bd F lim (Sort.grow (w.drewN k) os) n fr m ca bL:=by
 have aC:(w.drewN k).heap=w.heap:=by simp
 have av:∀c,c<w.heap.size→(Sort.grow (w.drewN k) os).heap[c]?=w.heap[c]?:=fun c ao=>by
  simp only [Sort.grow,aC]
  rw [Array.getElem?_append_left ao]
 have aZ:∀c,w.heap.size≤c→lim c=0:=fun c ao=>by
  obtain ⟨_,_,_,s⟩:=st
  exact (s.fresh c ao).1
 have hm:∀b,m b≠none→b<w.heap.size:=fun b ah=>st.qb ah
 have iT:∀b o,o<lim b→b<w.heap.size:=fun b o aL=>st.rh aL
 refine st.world (by simp [Sort.grow]) (fun _=>Nat.le_refl _) (fun b o aL=>by simp [World.cell?,av b (iT b o aL)]) (fun c ao=> .inr ⟨av c ao,rfl⟩) (fun b ah=>⟨av b (hm b ah),rfl⟩) (fun c ao=>aZ c (by simp [Sort.grow] at ao;omega))
theorem Ri (st:bd F lim w n fr m ca bL) (os:Array Obj) (k:Nat):dW F w lim (Sort.grow (w.drewN k) os) lim:=by
 have aC:(w.drewN k).heap=w.heap:=by simp
 have av:∀c,c<w.heap.size→(Sort.grow (w.drewN k) os).heap[c]?=w.heap[c]?:=fun c ao=>by
  simp only [Sort.grow,aC]
  rw [Array.getElem?_append_left ao]
 refine ⟨rfl,rfl,rfl,by simp [Sort.grow],fun b ah=>⟨av b (st.qa ah),rfl⟩,fun _=>Nat.le_refl _,fun b o aL=>by simp [World.cell?,av b (st.rh aL)]⟩
def Ax (e:TypeId) (z:Nat×Nat) (k:IntKind) (dv:List Int):gr:= .nd e z (dv.map (Value.int k)).toArray
theorem Rj {e:TypeId} {z:Nat×Nat} {k:IntKind} {dv:List Int} {b:Nat} {os:Nat→List Nat} {name:String} (h:kh w lim b (Ax e z k dv) os) (bc:P.globalNamed name=some b):Lib.TabIs P w name k dv:=by
 unfold Ax at h
 cases h with
 |nd _ _ _ _ ah=>simp only [Lib.TabIs,World.var?,bc,Option.bind_some,ah]
theorem Rk {f:FuncId} {name:String} {Ea:Nat} {e:TypeId} {z:Nat×Nat} (aZ:∃fn,P.funcs[f]?=some fn∧fn.body.isSome=true∧(fn.name== "runtime.NumGoroutine")=false) (bc:P.globalNamed name=some Ea)
 (hq:∀(n:Int),-9223372036854775808≤n→n≤9223372036854775807→∀w,Lib.TabIs P w name .u64 Lib.pow10Tab→Calls P f #[.int .i64 n] w fun e w'=>e= .returned (.string ⟨(Lib.itoa n).toArray⟩)∧∃k os,w'=Sort.grow (w.drewN k) os)
 {n:Int} {K:ab→ae→Prop} (hm:m Ea=some (Ax e z .u64 Lib.pow10Tab)) (hlen:(Lib.itoa n).length≤140737488355328) (U:K (.str (Lib.itoa n)) m):bh P f [.int .i64 n] m K:=by
 refine ⟨aZ,fun F lim w cargs aw aA st=>?_⟩
 obtain ⟨x,rfl⟩:=As aw
 have o4:aN w lim x (.int .i64 n) []:=aA 0 (by simp)
 obtain ⟨rfl,ba,ad⟩:x= .int .i64 n∧-9223372036854775808≤n∧n≤9223372036854775807:=by
  cases o4 with
  |int _ _ ba ad=>exact ⟨rfl,ba,ad⟩
 have Eb:Lib.TabIs P w name .u64 Lib.pow10Tab:=by
  obtain ⟨os,cI,bW,s⟩:=st
  exact Rj (s.mem Ea _ hm).1 bc
 refine (hq n ba ad w Eb).mono fun aF eN ⟨he,k,os,qO⟩=>?_
 subst he;subst qO
 exact ⟨_,_,lim,_,[],rfl,U, .str ⟨(Lib.itoa n).toArray⟩ (by rw [show (⟨(Lib.itoa n).toArray⟩:ByteArray).size=(Lib.itoa n).length from rfl];exact hlen),st.grow os k,Ri st os k⟩
end
end Go.bg
end
section
namespace Go.bg
open Go
inductive hL:ab→Prop
 |bool (b:Bool):hL (.bool b)
 |int (k:IntKind) (n:Int) (h:k≠ .u64):hL (.int k n)
 |str (s:List UInt8):hL (.str s)
 |slice (l:List ab) (J:∀x∈l,x.cells≠[]) (h:∀x∈l,∀y∈x.cells,hL y):hL (.slice false l)
 |agg (l:List ab) (h:∀y∈l,hL y):hL (.agg l)
theorem Rl {w:World} {lim:Nat→Nat} {n:Int} {x:ab} {os:List Nat} (h:aN w lim (.int .u64 n) x os) (an:hL x):False:=by
 cases an with
 |bool b=>cases h
 |int k m al=>
  cases h with
  |int=>exact al rfl
 |str s=>cases h
 |slice l Ay av=>cases h
 |agg l av=>cases h
section
variable {P:Program}
end
end Go.bg
end
section
namespace Go.cz
open Go Go.bg
def tg (m' m:ae):Prop:=∀b fE,m' b=some fE→∃o,m b=some o∧(fE=o∨∃l l',o= .cells l∧fE= .cells l'∧l'.length=l.length∧∀i,lS (l'.getD i .aV) (l.getD i .aV))
section
variable {P:Program} {F:Nat→Prop} {lim:Nat→Nat} {w:World} {n:Nat} {fr:Fr} {m m':ae} {ca:Act} {bL:List Nat}
theorem bd.rR (st:bg.bd F lim w n fr m ca bL) (aw:tg m' m):bg.bd F lim w n fr m' ca bL:=by
 classical
 obtain ⟨os,cI,bW,h⟩:=st
 let p:Nat→Nat→Prop:=fun b i=>m' b=m b∨∃l l',m b=some (.cells l)∧m' b=some (.cells l')∧l'.getD i .aV=l.getD i .aV
 have aM:∀b,m b=none→m' b=none:=fun b ah=>by
  cases gf:m' b with
  |none=>rfl
  |some o=>obtain ⟨lT,aa,_⟩:=aw b o gf;rw [ah] at aa;cases aa
 refine ⟨os,fun b i=>if p b i then cI b i else [],bW,h.size,h.defers,h.eL,fun b fE ah=>?_,h.fj,fun b fE ah i=>?_,h.gK,fun c ao=>⟨(h.free c ao).1,aM c (h.free c ao).2.1,(h.free c ao).2.2⟩,fun b ah=>⟨(h.fresh b ah).1,(h.fresh b ah).2.1,aM b (h.fresh b ah).2.2⟩⟩
 · obtain ⟨o,aL,aA⟩:=aw b fE ah
   obtain ⟨gu,aa,aj⟩:=h.mem b o aL
   refine ⟨?_,aa,aj⟩
   rcases aA with rfl|⟨l,l',rfl,rfl,hlen,hle⟩
   · have:(fun i=>if p b i then cI b i else [])=cI b:=by
      funext i
      exact if_pos (.inl (ah.trans aL.symm))
     rw [this];exact gu
   · cases gu with
     |cells cs e _ _ Rm cF xG=>
      refine .cells cs e l' _ Rm (cF.trans hlen.symm) fun i ad=>?_
      have fo:i<l.length:=hlen▸ad
      by_cases aQ:p b i
      · rw [if_pos aQ]
        have e:l'.getD i .aV=l.getD i .aV:=by
         rcases aQ with aQ|⟨a,bZ,aG,aR,bu⟩
         · rw [ah,aL] at aQ
           simp only [Option.some.injEq,gr.cells.injEq] at aQ
           rw [aQ]
         · rw [aL] at aG;rw [ah] at aR
           simp only [Option.some.injEq,gr.cells.injEq] at aG aR
           rw [aG,aR];exact bu
        rw [e];exact xG i fo
      · rw [if_neg aQ]
        rcases hle i with e|e
        · exact absurd (.inr ⟨l,l',aL,ah,e⟩) aQ
        · exact e _ _ _ _ (xG i fo)
 · obtain ⟨o,aL,_⟩:=aw b fE ah
   show (if p b i then cI b i else []).Nodup∧∀c∈(if p b i then cI b i else []),_
   split
   · exact h.eF b o aL i
   · exact ⟨List.nodup_nil,fun c ao=>by cases ao⟩
end
section
variable {P:Program} {n:Nat} {fr:Fr} {m m':ae} {ops:Array Oper} {l:List Oper} {K:Fr→ae→Prop}
theorem b6.rR (aw:tg m' m) (h:b6 P n ops l K fr m'):b6 P n ops l K fr m:=fun F lim w ca Q st aU=>h F lim w ca Q (bd.rR st aw) aU
theorem dS.rR {c:Code} {Q:Exit→Fr→ae→Prop} (aw:tg m' m) (h:dS P n c Q fr m'):dS P n c Q fr m:=fun F lim w ca st=>h F lim w ca (bd.rR st aw)
end
theorem lS.aV (x:ab):lS .aV x:= .inr fun _ _ _ _ _=> .aV _
theorem lS.gb:lS .gb (.slice true []):= .inr fun w lim v os h=>by
 generalize an:ab.slice true []=x at h
 cases h with
 |gb o=>exact .oF _
 |own b n cap sz l cv cur e aM fB hm dI aJ ah kD cF fU ao aA=>
  cases an
  simp only [List.length_nil] at aM
  subst aM
  rcases aJ with aJ|aJ
  · omega
  · subst aJ;exact .oF _
 |_=>cases an
mutual
def qP (i:Nat):a7→Bool
 | .loc j _| .ms j _ _| .mp j| .jv j _ _ _| .b9 j _ _ _=>Nat.beq i j
 | .agg l| .da l=>Az i l
 | .fn _ a c=>bif Az i a then true else Az i c
 |_=>false
def Az (i:Nat):List a7→Bool
 |[]=>false
 |v::r=>bif qP i v then true else Az i r
end
theorem getD_set_ne {bs:List Nat} {i j b:Nat} (h:Nat.beq i j=false):(bs.set i b).getD j 0=bs.getD j 0:=by
 have:i≠j:=fun e=>by subst e;rw [Nat.beq_refl] at h;cases h
 simp [List.getD_eq_getElem?_getD,List.getElem?_set_ne this]
def Jc (fE o:gr):Prop:=fE=o∨∃l l',o= .cells l∧fE= .cells l'∧l'.length=l.length∧∀i,lS (l'.getD i .aV) (l.getD i .aV)
section
variable {bs:List Nat} {L ch:List bT} {m:ae}
end
end Go.cz
end
section
namespace Go.cz
open Go Go.bg
section
variable {P:Program} {T:h1} {b0:List Nat} {fr:ck} {L:List bT} {m:ae} {K:cY}
structure Jd (T:h1) (t e w y:Nat) (AA:List ab):Prop where
 t:dT T t fun i=>jO i fun bR=>bR=e
 e:dT T e fun j=>j.n=w∧j.y=y∧(match j.z with|[]=>False|_=>True)∧ab.fD (bE [] (ka j.z))=AA
theorem Jd.get (aP:fO P T=true) {t e w y:Nat} {AA:List ab} (h:Jd T t e w y AA):P.underlying t=some (.slice e)∧eV P e=true∧0<w∧kJ P e=true∧P.cellsOf e=w∧P.bytesOf e=y∧∃z,hY P e=some z∧z.cells.map ab.plain=AA∧z.eH=true:=by
 obtain ⟨i,e8,J⟩:=e1 aP h.t
 unfold jO at J
 split at J
 · rename_i az aw
   subst J
   obtain ⟨jg,iW,oe,qI⟩:=e8.b9 aw
   obtain ⟨j,gw,aa,aj,aG,aR⟩:=e1 aP h.e
   have ak:j.z≠[]:=fun e=>by rw [e] at aG;exact aG
   obtain ⟨z,km,z2,z3,_⟩:=gw.hY (bs:=[]) ak
   refine ⟨jg,iW,by rw [←aa,←gw.cells];exact oe,qI,by rw [gw.cells,aa],by rw [gw.bytes,aj],z,km,?_,z3⟩
   rw [z2,←ab.iG];exact aR
 · exact J.elim
end
end Go.cz
end
section
namespace Go.bg
open Go
section
variable {P:Program} {F:Nat→Prop} {lim:Nat→Nat} {w:World} {n:Nat} {fr:Fr} {m:ae} {ca:Act} {bL:List Nat}
end
end Go.bg
namespace Go.cz
open Go Go.bg
section
variable {bs:List Nat} {L ch:List bT} {m:ae} {fr:ck}
theorem Je (bs:List Nat) (v:a7):∀(l:List a7) (j:Nat),bE bs (l.set j v)=(bE bs l).set j (den bs v)
 |[],j=>by simp only [List.set_nil,bE]
 |x::r,0=>by simp only [List.set_cons_zero,bE]
 |x::r,j+1=>by simp only [List.set_cons_succ,bE,Je bs v r j]
theorem Rn {c:gW} {A:cY} {R:Prop} (h:A fr L m):qJ (x4 c A fr L m) R:=⟨.inl ⟨fun new g n ij Q h2=>h2 fr L m (c.bs++new) (List.prefix_append _ _) g h⟩⟩
end
end Go.cz
end
section
namespace Go.cz
open Go Go.bg
def rS (E:Nat):List a7→List a7
 |[]=>[]
 |v::r=>jn E v::rS E r
def Ec (E:Nat):bT→bT
 | .cells l=> .cells (rS E l)
 | .obj o=> .obj o
def hM (E:Nat):List bT→List bT
 |[]=>[]
 |o::r=>Ec E o::hM E r
section
variable {fr:ck} {L:List bT} {m:ae}
theorem Ed (E:Nat):∀(l:List a7),(rS E l).length=l.length
 |[]=>rfl
 |v::r=>by simp only [rS,List.length_cons,Ed E r]
theorem Jf (E:Nat):∀(l:List bT),(hM E l).length=l.length
 |[]=>rfl
 |v::r=>by simp only [hM,List.length_cons,Jf E r]
theorem Ee (bs:List Nat) (E:Nat):∀(l:List a7) (i:Nat),lS ((bE bs (rS E l)).getD i .aV) ((bE bs l).getD i .aV)
 |[],i=> .inl rfl
 |v::r,0=>by simp only [rS,bE,List.getD_cons_zero];exact IE bs E v
 |v::r,i+1=>by simp only [rS,bE,List.getD_cons_succ];exact Ee bs E r i
theorem Ro (bs:List Nat) (E:Nat) (o:bT):Jc (gz bs (Ec E o)) (gz bs o):=by
 cases o with
 |obj o=>exact .inl rfl
 |cells l=>exact .inr ⟨_,_,rfl,rfl,by rw [lO,lO,Ed],Ee bs E l⟩
theorem Jg (E:Nat):∀(l:List bT) (i:Nat),(hM E l)[i]?=(l[i]?).map (Ec E)
 |[],i=>by simp [hM]
 |v::r,0=>by simp [hM]
 |v::r,i+1=>by simp [hM,Jg E r i]
theorem bh.rR {P:Program} {f:FuncId} {args:List ab} {K:ab→ae→Prop} {m':ae} (aw:tg m' m) (h:bh P f args m' K):bh P f args m K:=
 ⟨h.1,fun F lim w cargs cF aA st=>h.2 F lim w cargs cF aA (bd.rR st aw)⟩
theorem tg.aS {bs:List Nat} {is:List Nat} {os e0:List bT} {ai:ae} (gT:(iL bs is).Nodup) (av:is.length=os.length) (nc:e0.length=os.length) (h:∀(i:Nat) fE,e0[i]?=some fE→∃o,os[i]?=some o∧Jc (gz bs fE) (gz bs o)):tg (ai.aS (lU bs is e0)) (ai.aS (lU bs is os)):=by
 intro b fE ah
 by_cases hm:b∈iL bs is
 · obtain ⟨i,DY,rfl⟩:=vm hm
   obtain ⟨j,aD⟩:=List.getElem?_of_mem DY
   have rE:j<e0.length:=by
    rcases Nat.lt_or_ge j is.length with h|h
    · omega
    · rw [List.getElem?_eq_none h] at aD;cases aD
   have mw:=List.getElem?_eq_getElem rE
   obtain ⟨o,aL,hle⟩:=h j _ mw
   rw [DV gT (by omega) aD mw] at ah
   obtain rfl:=Option.some.inj ah
   exact ⟨_,DV gT av aD aL,hle⟩
 · rw [DW hm] at ah
   exact ⟨fE,by rw [DW hm];exact ah, .inl rfl⟩
theorem Rp {b0:List Nat} {P:Program} {f:FuncId} {vs:List a7} {Q:a7→List bT→ae→Prop} {σ:Type} (E:Nat) (is:List Nat) (hg:σ→Prop) (y:σ→a7) (os:σ→List bT) (ad:isOk L.length is=true) (av:∀x,(os x).length=is.length)
 (h:∀bs (ai:ae),eC (iL bs is) ai→(∀b o,m b=some o→ai b=some o)→∀(K:ab→ae→Prop),(∀x,hg x→K (den bs (y x)) (ai.aS (lU bs is (os x))))→bh P f (bE bs vs) (ai.aS (lU bs is (hM E (nC L is)))) K)
 (h2:∀x,hg x→gY (jP L is (os x)) fun ch=>Q (y x) ch m):pN P b0 f vs fr L m Q:=by
 refine ⟨σ,hg,y,fun x=>jP L is (os x),fun _=>m,fun new g K U=>?_,fun x=>by rw [rO,Nat.beq_refl];rfl,fun x an=>by have:=h2 x an;rwa [hR] at this⟩
 have gT:=ye g.lP (by rw [g.len];exact ad)
 have aF:=vo g ad (vl L is).symm
 rw [D0 ad] at aF
 rw [aF]
 refine bh.rR (tg.aS gT (vl L is).symm (Jf E _) fun i fE mw=>?_) (h (b0++new) _ ⟨gT,fun b ah=>by simp [td,ah]⟩ (fun b o ah=>?_) K fun x an=>?_)
 · rw [Jg] at mw
   cases bc:(nC L is)[i]? with
   |none=>rw [bc] at mw;cases mw
   |some o=>
    rw [bc] at mw
    obtain rfl:=Option.some.inj mw
    exact ⟨o,rfl,Ro _ E o⟩
 · have J:b∉b0++new:=fun hm=>by rw [g.fresh b hm] at ah;cases ah
   have aa:b∉iL (b0++new) is:=fun hm=>by
    obtain ⟨i,ig,e⟩:=vm hm
    have cl:=(vn ad).1 i ig
    rw [←g.len] at cl
    apply J
    rw [e,List.getD_eq_getElem?_getD,List.getElem?_eq_getElem cl]
    exact List.getElem_mem _
   simp only [td,if_neg aa,b7]
   rw [pH (by rw [qC g.len];exact J)]
   exact ah
 · have:=U x an [] (by rw [List.append_nil];exact ⟨g.lP,by rw [rO];exact g.len,g.fresh⟩)
   rw [List.append_nil,vo g ad (av x).symm] at this
   exact this
end
end Go.cz
end
section
namespace Go.cz
open Go Go.bg
def AB (st:Bool) (z:List Z):ab:=bif st then .agg (ab.fD (bE [] (ka z))) else ((bE [] (ka z)).getD 0 .aV).plain
theorem gM.zeroV {P:Program} {t:Nat} {i:hx} (ds:gM P t i) (ak:i.z≠[]):∃z,bg.hY P t=some z∧z.plain=AB i.k.iz i.z:=by
 obtain ⟨v,J,aa,aj,aG⟩:=ds.zero ak
 refine ⟨jX v,by simp only [bg.hY,J,aa,if_true],?_⟩
 unfold uZ at aj
 split at aj
 · simp only [Bool.and_eq_true] at aj
   rw [AB,aj.1,cond_true,x7 aj.2]
   simp only [jX,ab.plain]
 · rename_i bw
   simp only [Bool.and_eq_true,Bool.not_eq_true'] at aj
   have xz:jX v=iU v:=by
    cases v with
    |agg cs=>exact absurd rfl (bw cs)
    |iface t u=>
     cases oZ:i.z with
     |nil=>exact absurd oZ ak
     |cons a r=>rw [oZ] at aj;simp [qE,sY] at aj
    |_=>rfl
   rw [AB,aj.1,cond_false,x7 aj.2,xz]
   rfl
def Jh:jw→Option TypeDesc
 | .str=>some .string
 | .int .i64=>some (.int .i64)
 |_=>none
structure yg (T:h1) (t k e:Nat) (dk:TypeDesc) (z:ab):Prop where
 t:dT T t fun i=>match i.k with| .mp en bR=>en=k∧bR=e|_=>False
 k:dT T k fun i=>Jh i.k=some dk
 e:dT T e fun i=>(match i.z with|[]=>False|_=>True)∧AB i.k.iz i.z=z
section
variable {P:Program} {T:h1} {b0:List Nat} {fr:ck} {L:List bT} {m:ae} {K:cY}
theorem yg.get (aP:fO P T=true) {t k e:Nat} {dk:TypeDesc} {z:ab} (h:yg T t k e dk z):P.underlying t=some (.map k e)∧P.underlying k=some dk∧∃z0,hY P e=some z0∧z0.plain=z:=by
 obtain ⟨i,e8,J⟩:=e1 aP h.t
 obtain ⟨j,gw,aa⟩:=e1 aP h.k
 obtain ⟨l,Rq,aj,aG⟩:=e1 aP h.e
 have ak:l.z≠[]:=fun e=>by rw [e] at aj;exact aj
 refine ⟨?_,?_,?_⟩
 · split at J
   · rename_i al
     obtain ⟨rfl,rfl⟩:=J
     exact e8.mp al
   · exact J.elim
 · unfold Jh at aa
   split at aa
   · rename_i al
     rw [←Option.some.inj aa];exact gw.str al
   · rename_i al
     rw [←Option.some.inj aa];exact gw.int al
   · cases aa
 · obtain ⟨z0,km,z2⟩:=Rq.zeroV ak
   exact ⟨z0,km,z2.trans aG⟩
theorem Ji (aP:fO P T=true) {dh e7:Type} [DecidableEq dh] {dk:TypeDesc} (dP:dh→ab) {gl:dh→Value} (vf:e7→ab) (he:pI dk dP gl) (l:List (dh×e7)) (k:dh) (z:e7) {d t i:Nat} {ke ve:Nat} {x y:Operand} {v:ab} (gu:yg T t ke ve dk (vf z)) (an:fu fr x fun u=>u= .mp i) (ad:nth L i=some (.obj (.map (l.map (uR dP vf)))))
 (aK:fu fr y fun u=>u= .aI (dP k)) (Ef:(dP k).plain=dP k) (bw:vf ((oa l k).getD z)=v) (aQ:v.plain=v) (h:K ((d,qA v)::fr) L m):iA P b0 (some d) (.lookup t x y false) fr L m K:=⟨fun new g n ops ty pos af r oW dc aM U=>by
 obtain ⟨jg,iW,z0,km,z2⟩:=gu.get aP
 obtain ⟨v1,rfl,aF⟩:=fF (b0++new) an
 obtain ⟨v2,rfl,az⟩:=fF (b0++new) aK
 simp only [den,Ef] at aF az
 rw [jN] at ad
 have bc:=oY g ad
 refine sQ (stl:=[]) dc aM ?_
 refine PL (P:=P) (ops:=ops) (stl:=[]) (r:=[]) (K:=b6 P n ops r oW) (L:=iy (b0++new) L) rfl dP vf he l k z jg iW km z2 aF.symm az.symm bc bw ?_
 have:=U _ _ _ (b0++new) (List.prefix_append _ _) g h
 simp only [bt,qB,aQ] at this
 exact this⟩
end
end Go.cz
end
section
namespace Go.cz
open Go Go.bg
theorem bh.Rr {P:Program} {f:FuncId} {a bZ:List ab} {m:ae} {K:ab→ae→Prop} (av:bZ.length=a.length) (aw:∀i,lS (bZ.getD i .aV) (a.getD i .aV)) (h:bh P f bZ m K):bh P f a m K:=
 ⟨h.1,fun F lim w cargs cF aA st=>h.2 F lim w cargs (by omega) (fun i ad=>by
   rcases aw i with e|e
   · rw [e];exact aA i (by omega)
   · exact e _ _ _ _ (aA i (by omega))) st⟩
section
variable {fr:ck} {L:List bT} {m:ae}
theorem bx {b0:List Nat} {P:Program} {f:FuncId} {vs:List a7} {Q:a7→List bT→ae→Prop} {σ:Type} (E:Nat) (is:List Nat) (hg:σ→Prop) (y:σ→a7) (os:σ→List bT) (ad:isOk L.length is=true) (av:∀x,(os x).length=is.length)
 (h:∀bs (ai:ae),eC (iL bs is) ai→(∀b o,m b=some o→ai b=some o)→∀(K:ab→ae→Prop),(∀x,hg x→K (den bs (y x)) (ai.aS (lU bs is (os x))))→bh P f (bE bs (rS E vs)) (ai.aS (lU bs is (hM E (nC L is)))) K)
 (h2:∀x,hg x→gY (jP L is (os x)) fun ch=>Q (y x) ch m):pN P b0 f vs fr L m Q:=
 Rp E is hg y os ad av (fun bs ai gd aq K U=>bh.Rr (by rw [lO,lO,Ed]) (Ee bs E vs) (h bs ai gd aq K U)) h2
end
end Go.cz
end
section
namespace Go.cz
open Go Go.bg
inductive oj where
 |d
 |z
 |f (i:Nat) (p:oj)
 |s (i:Nat) (p:oj)
 |o (i:Nat) (p q:oj)
def oj.ids:oj→List Nat
 | .o i _ q=>i::q.ids
 |_=>[]
def yh (o:Oper):Bool:=
 match o.op with
 | .move x| .nilCheck x| .fieldAddr _ x _=>k6 x
 |_=>false
def mA (ops:Array Oper):oj→Bool→Nat→Array Bool→Bool
 | .d,_,_,l=>(Region.ready .any ops l).isEmpty
 | .z,top,_,_=>!top
 | .f i p,_,k,l=>
   match k with
   |0=>false
   |k+1=>(match ops[i]? with|some o=>sT ops l i o&&yh o|none=>false)&&mA ops p true k (l.setIfInBounds i true)
 | .s i p,_,k,l=>
   match k with
   |0=>false
   |k+1=>!(Region.ready .any ops l).isEmpty&&((Region.ready .any ops l).all fun j=>j==i)&&mA ops p true k (l.setIfInBounds i true)
 | .o i p q,top,k,l=>
   match k with
   |0=>false
   |k+1=>(!top||(!(Region.ready .any ops l).isEmpty&&(Region.ready .any ops l).all fun j=>(i::q.ids).contains j))&&ops[i]?.isSome&&mA ops p true k (l.setIfInBounds i true)&&mA ops q false (k+1) l
def th (c:gW) (d:Option Nat) (op:Op) (fr:ck) (k:ck→Prop):Prop:=
 match d,op with
 |some d, .move x=>fu fr x fun v=>k ((d,v)::fr)
 |some d, .nilCheck x=>fu fr x fun v=>
  match v with
  | .loc i off=>k ((d, .loc i off)::fr)
  |_=>False
 |some d, .fieldAddr s x f=>fu fr x fun a=>
  match a with
  | .loc i off=>dT c.T s fun e8=>xU e8 f fun o _=>k ((d, .loc i (off+o))::fr)
  |_=>False
 |_,_=>False
def qQ (c:gW) (b9:List Nat) (ops:List Oper) (K:cY):oj→cY
 | .d,fr,L,m=>K fr L m
 | .z,_,_,_=>True
 | .f i p,fr,L,m=>
   match nth ops i with
   |some o=>th c o.dst o.op fr fun fr=>qQ c b9 ops K p fr L m
   |none=>False
 | .s i p,fr,L,m=>
   match nth ops i with
   |some o=>rK c ops b9 [o] fr L m fun fr L m=>qQ c b9 ops K p fr L m
   |none=>False
 | .o i p q,fr,L,m=>
   (match nth ops i with
   |some o=>rK c ops b9 [o] fr L m fun fr L m=>qQ c b9 ops K p fr L m
   |none=>False)∧qQ c b9 ops K q fr L m
end Go.cz
namespace Go.bg
open Go
section
variable {P:Program} {n:Nat} {fr:Fr} {m:ae} {ops:Array Oper} {fuel:Nat} {listed:Array Bool} {K:Fr→ae→Prop}
theorem fy.Jj (fk:Region.ready .any ops listed≠[]) (h:∀i∈Region.ready .any ops listed,∃o,ops[i]?=some o∧b6 P n ops [o] (fy P n ops fuel (listed.setIfInBounds i true) K) fr m):fy P n ops (fuel+1) listed K fr m:=by
 intro F lim w ca Q st aU
 refine ⟨fun aJ=>absurd aJ fk,fun i ad=>?_⟩
 obtain ⟨o,aL,key⟩:=h i ad
 unfold wpOp
 rw [aL]
 simp only
 let hX:Exit→Act→World→Prop:=fun e a w'=>match e with
  | .normal=>wpAny P .any ops Q fuel (listed.setIfInBounds i true) a w'
  |e=>Q e a w'
 have hw:=key F lim w ca hX st (fun lim' w' bf m' eM dZ gE fg=>dZ F lim' w' eM Q gE fun jW iH rm oN uD U uO rn=>aU jW iH rm oN uD U uO (fg.trans rn))
 have conv:∀{C:Act→World→Prop},o.wp P ca w C hX→o.wp P ca w C Q:=by
  intro C lh
  unfold Oper.wp at lh ⊢
  generalize (execOp ca.eval o).run P w=res at lh ⊢
  cases res with
  |ok s w'=>
   cases s with
   |enter f args=>
    refine lh.mono fun e iH aC=>?_
    cases e<;>exact aC
   |_=>exact lh
  |_=>exact lh
 unfold wpList at hw
 split
 · next sR=>
   rw [if_pos sR] at hw
   rcases hw with hw|⟨J,aa⟩
   · exact .inl (conv hw)
   · exact .inr ⟨J,aa⟩
 · next sR=>
   rw [if_neg sR] at hw
   exact hw
theorem fy.eL (h:fy P n ops fuel listed K fr m):fy P n ops fuel listed (fun f m=>(∀t x,f.get t=some x→t<n)∧K f m) fr m:=fun F lim w ca Q st aU=>
 h F lim w ca Q st fun lim' w' f m' eM al gE fg=>aU lim' w' f m' eM ⟨fun t x an=>by obtain ⟨_,_,_,s⟩:=gE;exact (s.eL t x an).1,al⟩ gE fg
theorem fy.Rs {jq:Fr→ae→Prop} (U:∀f m,K f m→jq f m) (h:fy P n ops fuel listed K fr m):fy P n ops fuel listed jq fr m:=fun F lim w ca Q st aU=>
 h F lim w ca Q st fun lim' w' f m' eM al gE fg=>aU lim' w' f m' eM (U _ _ al) gE fg
end
end Go.bg
namespace Go.cz
open Go Go.bg
section
variable {c:gW} {n:Nat} {ops:Array Oper} {K:Fr→ae→Prop} {b9:List Nat} {oW:cY}
theorem Rt {b0 new:List Nat} (aP:fO c.P c.T=true) (dc:∀o∈ops.toList,fp n o=true∧gS n o=true) {fuel i:Nat} {o:Oper} {listed:Array Bool} {fr:ck} {ai:ae} {k:ck→Prop} (aL:ops[i]?=some o) (ah:sT ops listed i o=true) (aZ:yh o=true)
 (h:th c o.dst o.op fr k) (al:∀bf,k bf→fy c.P n ops fuel (listed.setIfInBounds i true) K (bt (b0++new) bf) ai):fy c.P n ops (fuel+1) listed K (bt (b0++new) fr) ai:=by
 have hm:=dc o (by rw [Array.mem_toList_iff];exact Array.mem_of_getElem? aL)
 cases aY:o.dst with
 |none=>rw [aY] at h;unfold th at h;split at h<;>simp_all
 |some d=>
  have iI:=j4 hm.1 aY
  rw [aY] at h
  cases cM:o.op with
  |move x=>
   simp only [cM,th] at h
   obtain ⟨v,J,e⟩:=fF (b0++new) h
   rw [yh,cM] at aZ
   have:=al _ J
   simp only [bt] at this
   exact fy.PR aL cM aY iI aZ ah e.symm this
  |nilCheck x=>
   simp only [cM,th] at h
   obtain ⟨v,J,e⟩:=fF (b0++new) h
   rw [yh,cM] at aZ
   split at J
   · have:=al _ J
     simp only [bt] at this
     simp only [den] at e this
     exact fy.PS aL cM aY iI aZ ah e.symm this
   · exact J.elim
  |fieldAddr s x f=>
   simp only [cM,th] at h
   obtain ⟨v,J,e⟩:=fF (b0++new) h
   rw [yh,cM] at aZ
   split at J
   · rename_i ii off
     obtain ⟨e8,ds,aa⟩:=e1 aP J
     obtain ⟨eG,fd,hu,uz,i1,i2,aj⟩:=Ds ds aa
     have:=al _ aj
     simp only [bt] at this
     simp only [den] at e this
     exact fy.PT (side:=eV c.P fd.type=true∧c.P.cellsOf fd.type≠0) aL cM aY iI aZ ah e.symm (by simp only [bS,hu,uz,←e]<;>rfl) ⟨i1,i2⟩ this
   · exact J.elim
  |_=>simp [cM,th] at h
theorem yi {b0:List Nat} (aP:fO c.P c.T=true) (dK:c.bs=b0) (dc:∀o∈ops.toList,fp n o=true∧gS n o=true∧tc o=true)
 (U:∀bf ch m' e2,Good (b0++e2) ch m'→oW bf ch m'→K (bt (b0++e2) bf) (b7 (b0++e2) ch m')):
 ∀(p:oj) (top:Bool) (fuel:Nat) (listed:Array Bool) (fr:ck) (L:List bT) (m:ae) (new:List Nat),mA ops p top fuel listed=true→Good (b0++new) L m→qQ c b9 ops.toList oW p fr L m→
  (top=true→fy c.P n ops fuel listed K (bt (b0++new) fr) (b7 (b0++new) L m))∧
  (∀f,fuel=f+1→∀i∈p.ids,∃o,ops[i]?=some o∧b6 c.P n ops [o] (fy c.P n ops f (listed.setIfInBounds i true) K) (bt (b0++new) fr) (b7 (b0++new) L m))
 | .d,top,fuel,listed,fr,L,m,new,aL,g,h=>by
   refine ⟨fun _=>fy.done ?_ (U _ _ _ _ g h),fun f _ i ad=>by cases ad⟩
   simpa [mA] using aL
 | .z,top,fuel,listed,fr,L,m,new,aL,g,h=>by
   refine ⟨fun aq=>?_,fun f _ i ad=>by cases ad⟩
   subst aq;simp [mA] at aL
 | .f i p,top,fuel,listed,fr,L,m,new,aL,g,h=>by
   refine ⟨fun _=>?_,fun f _ i ad=>by cases ad⟩
   cases fuel with
   |zero=>simp [mA] at aL
   |succ k=>
    simp only [mA,Bool.and_eq_true] at aL
    simp only [qQ,jN,Array.getElem?_toList] at h
    cases ad:ops[i]? with
    |none=>rw [ad] at h;exact h.elim
    |some o=>
     rw [ad] at h aL
     simp only [Bool.and_eq_true] at aL
     exact Rt aP (fun o aL=>⟨(dc o aL).1,(dc o aL).2.1⟩) ad aL.1.1 aL.1.2 h fun bf al=>(yi aP dK dc U p true k _ bf L m new aL.2 g al).1 rfl
 | .s i p,top,fuel,listed,fr,L,m,new,aL,g,h=>by
   refine ⟨fun _=>?_,fun f _ i ad=>by cases ad⟩
   cases fuel with
   |zero=>simp [mA] at aL
   |succ k=>
    simp only [mA,Bool.and_eq_true,Bool.not_eq_true',List.all_eq_true,beq_iff_eq] at aL
    simp only [qQ,jN,Array.getElem?_toList] at h
    refine fy.Jj (fun e=>by rw [e] at aL;simp at aL) fun j aD=>?_
    obtain rfl:=aL.1.2 j aD
    cases ad:ops[j]? with
    |none=>rw [ad] at h;exact h.elim
    |some o=>
     rw [ad] at h
     refine ⟨o,rfl,vk aP dK [o] (fun fE mw=>?_) g h fun bf ch m' e2 eW al=>(yi aP dK dc U p true k _ bf ch m' e2 aL.2 eW al).1 rfl⟩
     rw [List.mem_singleton.1 mw]
     exact dc o (by rw [Array.mem_toList_iff];exact Array.mem_of_getElem? ad)
 | .o i p q,top,fuel,listed,fr,L,m,new,aL,g,h=>by
   cases fuel with
   |zero=>simp [mA] at aL
   |succ k=>
    simp only [mA,Bool.and_eq_true] at aL
    obtain ⟨⟨⟨J,aa⟩,aj⟩,aG⟩:=aL
    have key:∀f,k+1=f+1→∀j∈(oj.o i p q).ids,∃o,ops[j]?=some o∧b6 c.P n ops [o] (fy c.P n ops f (listed.setIfInBounds j true) K) (bt (b0++new) fr) (b7 (b0++new) L m):=by
     intro f aZ j aD
     obtain rfl:k=f:=by omega
     simp only [qQ,jN,Array.getElem?_toList] at h
     simp only [oj.ids,List.mem_cons] at aD
     rcases aD with rfl|aD
     · cases ad:ops[j]? with
       |none=>rw [ad] at aa;cases aa
       |some o=>
        rw [ad] at h
        refine ⟨o,rfl,vk aP dK [o] (fun fE mw=>?_) g h.1 fun bf ch m' e2 eW al=>(yi aP dK dc U p true k _ bf ch m' e2 aj eW al).1 rfl⟩
        rw [List.mem_singleton.1 mw]
        exact dc o (by rw [Array.mem_toList_iff];exact Array.mem_of_getElem? ad)
     · exact (yi aP dK dc U q false (k+1) listed fr L m new aG g h.2).2 k rfl j aD
    refine ⟨fun aq=>?_,key⟩
    subst aq
    simp only [Bool.not_true,Bool.false_or,Bool.and_eq_true,Bool.not_eq_true',List.all_eq_true,List.contains_iff_mem] at J
    exact fy.Jj (fun e=>by rw [e] at J;simp at J) fun j aD=>key k rfl j (by simpa [oj.ids] using J.2 j aD)
theorem hS {L:List bT} {m:ae} {fr:ck} {id:Nat} {kn:cY} {A:Prop} {σ:Type} (aP:fO c.P c.T=true) (hm:c.P.follows .mixedOrders=true) (p:oj) (md:List (Nat×Nat)) (ks:List Nat) (k:Nat) (S:σ→vh) (hg:σ→Prop)
 (aQ:(mA ops p true ops.size (Array.replicate ops.size false)&&ops.toList.all tc)=true)
 (df:∀x,hg x→gY (S x).1 fun fr=>gY (S x).2.1 fun L=>kn fr L (S x).2.2)
 (dZ:qQ c (qK ops.toList) ops.toList (fun fr L m=>∃x,fits c md ks k fr L m (S x)∧hg x) p fr L m):qJ A (Dz c id ops true kn fr L m):=by
 simp only [Bool.and_eq_true,List.all_eq_true] at aQ
 refine ⟨.inr ⟨fun new g n Q al h2=>?_⟩⟩
 have np:=DM al
 simp only [kM,Bool.and_eq_true,List.all_eq_true] at al
 refine dS.ya (Q:=fun e f m=>∃fP m',hr fP f∧(∀b o,m' b=some o→m b=some o)∧Q e fP m') (fun e f m h=>h) ?_
 refine Pu hm (List.range n) np fun K U=>?_
 have J:=(yi (K:=fun fr ai=>∃fP m',hr fP fr∧(∀b o,m' b=some o→ai b=some o)∧Q .normal fP m') aP rfl (fun o aL=>⟨(al.1 o aL).1,(al.1 o aL).2,aQ.2 o aL⟩) (fun bf ch m' e2 eW ⟨x,aZ,aE⟩=>by
  obtain ⟨g2,av,aw,hlen⟩:=yd (b0:=c.bs) rfl eW aZ
  have:=df x aE
  rw [hR,hR] at this
  exact ⟨_,_,av,aw,h2 _ _ _ _ (List.prefix_append _ _) g2 this⟩) p true _ _ fr L m new aQ.1 g dZ).1 rfl
 refine fy.Rs (fun f ai ⟨aw,fP,m',av,xn,aU⟩=>U _ _ ⟨fP,m',fun t x an=>?_,xn,aU⟩) (fy.eL J)
 obtain ⟨y,aK,pD⟩:=av t x an
 obtain ⟨z,ak,nj⟩:=DL aw t y aK
 rcases nj with rfl|nj
 · exact ⟨_,ak,pD⟩
 · refine ⟨_,ak, .inr fun w lim v os aA=>?_⟩
   have aa:=nj w lim v os aA
   rcases pD with rfl|pD
   · exact aa
   · exact pD w lim v [] aa
end
end Go.cz
end
section
namespace Go.cz
open Go Go.bg
theorem bh.pl {P:Program} {f:FuncId} {a:List ab} {m:ae} {K:ab→ae→Prop} (h:bh P f a m fun x m'=>K x.plain m'):bh P f a m K:=
 ⟨h.1,fun F lim w cargs J aa aj=>(h.2 F lim w cargs J aa aj).mono fun _ _ ⟨v,x,lim',m',_,he,U,aA,aw,aQ⟩=>⟨v,x.plain,lim',m',[],he,U,aA.plain,aw.drop,aQ⟩⟩
example (l:List ab) (n:Int):ab.plain (.tuple [.slice true l, .int .i64 n, .err 3 n])= .tuple [.slice false l, .int .i64 n, .err 3 n]:=rfl
end Go.cz
end
section
namespace Go.bg
open Go RowKit
section
variable {P:Program} {F:Nat→Prop} {lim:Nat→Nat} {w w':World} {n:Nat} {fr:Fr} {m:ae} {ca:Act} {bL:List Nat}
theorem bd.below (st:bd F lim w n fr m ca bL) (h:Below w.heap.size w w'):bd F lim w' n fr m ca bL:=by
 have av:=h.block
 have aZ:∀c,w.heap.size≤c→lim c=0:=fun c ao=>by
  obtain ⟨_,_,_,s⟩:=st
  exact (s.fresh c ao).1
 have hm:∀b,m b≠none→b<w.heap.size:=fun b ah=>st.qb ah
 have iT:∀b o,o<lim b→b<w.heap.size:=fun b o aL=>st.rh aL
 exact st.world h.size (fun _=>Nat.le_refl _) (fun b o aL=>by simp [World.cell?,av b (iT b o aL)]) (fun c ao=> .inr ⟨av c ao,rfl⟩) (fun b ah=>⟨av b (hm b ah),rfl⟩) (fun c ao=>aZ c (Nat.le_trans h.size ao))
theorem Jk (st:bd F lim w n fr m ca bL) (h:Below w.heap.size w w'):dW F w lim w' lim:=
 ⟨h.os,h.tape,h.output,h.size,fun b ah=>⟨h.block b (st.qa ah),rfl⟩,fun _=>Nat.le_refl _,fun b o aL=>by simp [World.cell?,h.block b (st.rh aL)]⟩
theorem Ru {f ti Rv:Nat} {AD:Nat} {e:TypeId} {z:Nat×Nat} {tp:TypeId} {p:Value} (aZ:∃fn,P.funcs[f]?=some fn∧fn.body.isSome=true∧(fn.name== "runtime.NumGoroutine")=false)
 (dc:∀(s:ByteArray) (n:Int),s.size≤18→Lib.atoi s.data.toList=some n→∀w:World,Calls P f #[.string s] w fun e w'=>e= .returned (.tuple #[.int .i64 n, .nilIface])∧∃t,w'=Lib.bytesWorld w ti t)
 (Rw:∀(s:ByteArray),s.size≤18→Lib.atoi s.data.toList=none→∀(kE:Value) (w:World),w.cell? ⟨AD,0,none⟩=some kE→(kE= .nilIface∨∃te Eg,kE= .iface te Eg)→Calls P f #[.string s] w fun e w'=>∃N,e= .returned (.tuple #[.int .i64 0, .iface Rv (.pointer (some ⟨N,0,none⟩))])∧Below w.heap.size w w')
 {s:List UInt8} {K:ab→ae→Prop} (aw:s.length≤18) (ah:∀n,Lib.atoi s=some n→-9223372036854775808≤n∧n≤9223372036854775807) (hm:m AD=some (.nd e z #[.iface tp p]))
 (U:K (.tuple [.int .i64 ((Lib.atoi s).getD 0), .opt (Lib.atoi s).isNone]) m):bh P f [.str s] m K:=by
 refine ⟨aZ,fun F lim w cargs cF aA st=>?_⟩
 obtain ⟨x,rfl⟩:=As cF
 have o4:aN w lim x (.str s) []:=aA 0 (by simp)
 obtain ⟨b,rfl,pt⟩:∃b:ByteArray,x= .string b∧b.data.toList=s:=by
  cases o4 with
  |str b _=>exact ⟨b,rfl,rfl⟩
 have Jl:b.size≤18:=by rw [←pt] at aw;simpa using aw
 have da:∀{cU:World} {n:Int} {v:Value} {o:Bool},-9223372036854775808≤n→n≤9223372036854775807→aN cU lim v (.opt o) []→aN cU lim (.tuple #[.int .i64 n,v]) (.tuple [.int .i64 n, .opt o]) []:=fun {cU n v o} J aa aj=>by
  have:=aN.tuple (w:=cU) (lim:=lim) #[.int .i64 n,v] [.int .i64 n, .opt o] (fun _=>[]) rfl (fun i ad=>by
   match i,ad with
   |0,_=>exact .int .i64 n J aa
   |1,_=>exact aj)
  exact this
 cases aT:Lib.atoi s with
 |some n=>
  rw [aT] at U
  refine (dc b n Jl (by rw [pt];exact aT) w).mono fun aF eN ⟨he,t,hw⟩=>?_
  subst he;subst hw
  exact ⟨_,_,lim,_,[],rfl,U,da (ah n aT).1 (ah n aT).2 .oG,st.below (Lib.bytesWorld_below _ _ _),Jk st (Lib.bytesWorld_below _ _ _)⟩
 |none=>
  rw [aT] at U
  have ao:w.cell? ⟨AD,0,none⟩=some (.iface tp p):=by
   obtain ⟨os,cI,bW,s⟩:=st
   have:=(s.mem AD _ hm).1
   cases this with
   |nd _ _ _ _ ah=>simp [World.cell?,ah]
  refine (Rw b Jl (by rw [pt];exact aT) _ w ao (.inr ⟨tp,p,rfl⟩)).mono fun aF eN ⟨N,he,hw⟩=>?_
  subst he
  exact ⟨_,_,lim,_,[],rfl,U,da (by decide) (by decide) (.oH _ _),st.below hw,Jk st hw⟩
end
end Go.bg
end
section
namespace Go.cz
open Go Go.bg
section
variable {P:Program} {b0:List Nat} {fr:ck} {L:List bT} {m:ae} {K:cY}
theorem Rx {d t s:Nat} {parts:Array (Nat×Operand)} {c6:Array Field} {z:ab} (pre post:List a7) (q:List ab) (hu:P.underlying t=some (.struct c6)) (ak:hY P t=some z) (rz:z.eH=true) (jJ:∀f∈c6.toList,eV P f.type=true)
 (qi:∀bs,∀X:ab,X.eH=true→∀p∈parts.toList,(oX (br (bt bs fr)) s X p.2).eH=true)
 (xE:∀bs a k c,mn (fun i=>(c6[i]?).map fun f=>(f.offset,P.cellsOf f.type)) z.cells (parts.toList.map fun p=>(p.1,oX (br (bt bs fr)) s (.ms a k c) p.2))=some (bE bs pre++ .ms a k c::bE bs post))
 (jG:∀bs,mn (fun i=>(c6[i]?).map fun f=>(f.offset,P.cellsOf f.type)) z.cells (parts.toList.map fun p=>(p.1,oX (br (bt bs fr)) s (.slice true q) p.2))=some (bE bs pre++ .slice true q::bE bs post))
 (an:lk fr s fun v=>v= .own q) (iv:(parts.toList.any fun p=>match p.2 with| .tmp t=>t==s|_=>false)=true) (h:K ((d, .agg (pre++ .own q::post))::(s, .aI (.slice false q))::fr) L m):
 iA P b0 (some d) (.build t parts) fr L m K:=⟨fun new g n ops ty pos af l oW dc aM U=>by
 refine sQ (stl:=[d]) dc aM ?_
 have aA:br (bt (b0++new) fr) s= .slice true q:=by
  rw [ll];rw [my] at an;rw [an];rfl
 refine PC (P:=P) (ops:=ops) (stl:=[d]) (r:=[]) (K:=b6 P n ops l oW) rfl s (bE (b0++new) pre) (bE (b0++new) post) (by simp) hu ak rz jJ (qi _) (xE _) (jG _) aA iv ?_
 have:=U _ _ _ (b0++new) (List.prefix_append _ _) g h
 have e:bE (b0++new) (pre++ .own q::post)=bE (b0++new) pre++ .slice true q::bE (b0++new) post:=by
  rw [mx,mx,mx,List.map_append,List.map_cons];rfl
 simp only [bt,den,e] at this
 rw [zp,aA]
 exact this⟩
end
end Go.cz
end
section
namespace Go.bg
open Go
inductive vq:Value→Prop
 |u64 (n:Int):vq (.int .u64 n)
 |iface (t:TypeId) (p:Value):vq (.iface t p)
theorem Ry {w:World} {lim:Nat→Nat} {v:Value} (bw:vq v) {x:ab} {os:List Nat} (h:aN w lim v x os) (an:hL x):False:=by
 cases bw with
 |u64 n=>exact Rl h an
 |iface t p=>cases an<;>cases h
theorem Rz {w:World} {lim lim':Nat→Nat} {B:Nat→Prop} (ao:∀b o v,B b→w.cell? ⟨b,o,none⟩=some v→vq v) (av:∀b,¬B b→lim' b=lim b) {v:Value} {x:ab} {os:List Nat} (h:aN w lim v x os):hL x→aN w lim' v x os:=by
 induction h with
 |bool b=>exact fun _=> .bool b
 |int k n ba ad=>exact fun _=> .int k n ba ad
 |str s h=>exact fun _=> .str s h
 |gb own=>exact fun _=> .gb own
 |empty a cap hm=>exact fun _=> .empty a cap hm
 |slice b off n cap sz l cv aM fB hm dI cF fU AE aA aO=>
  intro an
  cases an with
  |slice _ Ay j9=>
   rcases Nat.eq_zero_or_pos n with aJ|aJ
   · subst aJ
     have:l=[]:=List.eq_nil_of_length_eq_zero aM
     subst this
     exact .empty _ _ hm
   · have iv:∀i,i<n→l.getD i .aV∈l:=fun i ad=>by simp [List.getD_eq_getElem?_getD,show i<l.length by omega]
     have RA:∀(L:List ab) (j:Nat),j<L.length→L.getD j .aV∈L:=fun L j aD=>by
      rw [List.getD_eq_getElem?_getD,List.getElem?_eq_getElem aD];exact List.getElem_mem _
     have dc:∀i j,i<n→j<sz→hL ((l.getD i .aV).cells.getD j .aV):=fun i j ad aD=>j9 _ (iv i ad) _ (RA _ j (by rw [cF i ad];exact aD))
     have Eh:0<sz:=by
      rw [←cF 0 aJ];exact List.length_pos_iff.2 (Ay _ (iv 0 aJ))
     have ah:¬B b:=fun e=>Ry (ao b _ _ e (AE 0 0 aJ Eh)) (aA 0 0 aJ Eh) (dc 0 0 aJ Eh)
     exact .slice b off n cap sz l cv aM fB hm dI cF (by rw [av b ah];exact fU) AE fun i j ad aD=>aO i j ad aD (dc i j ad aD)
 |agg cs xs os h aA aO=>
  intro an
  cases an with
  |agg _ j9=>
   exact .agg cs xs os h fun i ad=>aO i ad (j9 _ (by
    rw [List.getD_eq_getElem?_getD,List.getElem?_eq_getElem ad]
    exact List.getElem_mem _))
 |_=>intro an;cases an
structure Ei where
 e:TypeId
 z:Nat×Nat
 cs:Array Value
def yj (G:Nat→Option Ei):ae:=fun b=>(G b).map fun t=> .nd t.e t.z t.cs
section
variable {P:Program}
theorem RB {f:FuncId} {avs:List ab} {cargs:Array Value} {G:Nat→Option Ei} {W:World} (h:bh P f avs (yj G) (fun x m'=>x= .bool true∧∀b t,G b=some t→m' b=some (.nd t.e t.z t.cs))) (aw:cargs.size=avs.length)
 (aP:∀b t,G b=some t→W.heap[b]?=some (.cells t.cs t.e t.z)∧∀v∈t.cs.toList,vq v)
 (aA:∀i,i<avs.length→aN W (mu W) (cargs.getD i undef) (avs.getD i .aV) []) (aL:∀x∈avs,hL x):
 Calls P f cargs W fun e lg=>e= .returned (.bool true)∧RowKit.Below W.heap.size W lg:=by
 have cl:∀b t,G b=some t→b<W.heap.size:=fun b t ah=>by
  rcases Nat.lt_or_ge b W.heap.size with h|h
  · exact h
  · have:=(aP b t ah).1
    rw [Array.getElem?_eq_none h] at this;cases this
 have ao:∀b o v,(∃t,G b=some t)→W.cell? ⟨b,o,none⟩=some v→vq v:=fun b o v ⟨t,ah⟩ bw=>by
  simp only [World.cell?,(aP b t ah).1] at bw
  exact (aP b t ah).2 v (by simpa using Array.mem_of_getElem? bw)
 have st:bd (fun b=>b<W.heap.size∧G b=none) (fun b=>if (G b).isSome then 0 else mu W b) W 0 [] (yj G) nZ []:=by
  refine ⟨fun _=>[],fun _ _=>[],fun _=> .none,rfl,rfl,fun t x an=>by simp [Fr.get] at an,fun b o h=>?_,fun t x an=>by simp [Fr.get] at an,fun b o h i=>⟨List.nodup_nil,fun c ao=>by cases ao⟩,by simp,fun c h=>absurd rfl h,fun b ah=>?_⟩
  · unfold yj at h
    cases aF:G b with
    |none=>rw [aF] at h;cases h
    |some t=>
     rw [aF] at h
     obtain rfl:=Option.some.inj h
     exact ⟨.nd t.e _ _ _ (aP b t aF).1,by simp,fun aC=>by cases aC.2⟩
  · have aF:G b=none:=by
     cases aF:G b with
     |none=>rfl
     |some t=>have:=cl b t aF;omega
    have:W.heap[b]?=none:=by simpa using ah
    exact ⟨by simp [aF,mu,this],fun aC=>by omega,by simp [yj,aF]⟩
 refine (h.2 _ _ W cargs aw (fun i ad=>Rz (B:=fun b=>∃t,G b=some t) ao (fun b ah=>by
  have aF:G b=none:=by
   cases aF:G b with
   |none=>rfl
   |some t=>exact absurd ⟨t,aF⟩ ah
  simp [aF]) (aA i ad) (aL _ (by rw [List.getD_eq_getElem?_getD,List.getElem?_eq_getElem ad];exact List.getElem_mem _))) st).mono fun e lg ⟨v,x,lim',m',os,he,U,an,b4,aQ⟩=>?_
 obtain ⟨U,hm⟩:=U
 subst U
 cases an
 refine ⟨he,aQ.os,aQ.tape,aQ.output,aQ.size,fun k al=>?_⟩
 cases aF:G k with
 |some t=>
  obtain ⟨_,_,_,s⟩:=b4
  have:=(s.mem k _ (hm k t aF)).1
  cases this with
  |nd _ _ _ _ ah=>rw [ah,(aP k t aF).1]
 |none=>exact (aQ.res k ⟨al,aF⟩).1
end
end Go.bg
end
section
namespace Go.bg
open Go Go.MapKept
section
variable {P:Program} {F:Nat→Prop} {lim:Nat→Nat} {w w':World} {n:Nat} {fr:Fr} {m:ae} {ca:Act} {bL:List Nat}
variable {ops:Array Oper} {stl:List Nat} {r:List Oper} {K:Fr→ae→Prop} {d:Nat} {ty:TypeId} {pos:String} {af:Array Edge} {gd:Option (Nat×Bool)} {L:List (Nat×gr)}
theorem RC (bc:h0 ops fr gd=some true) {dh e7:Type} [DecidableEq dh] {dk:TypeDesc} (i:Nat) (dP:dh→ab) {gl:dh→Value} (vf:e7→ab) (he:pI dk dP gl) (l:List (dh×e7)) (k:dh) (v:e7) {t ke ve:TypeId} {x y z:Operand} {b:Nat} (aq:P.underlying t=some (.map ke ve)) (qv:P.underlying ke=some dk)
 (an:cA (br fr) x= .map b) (aK:cA (br fr) y=dP k) (ak:cA (br fr) z=vf v) (ad:L[i]?=some (b, .map (l.map fun p=>(dP p.1,vf p.2)))) (gT:(L.map Prod.fst).Nodup) (dI:(iK l k v).length≤140737488355328)
 (h:hQ P ops stl r K fr (m.aS (L.set i (b, .map ((iK l k v).map fun p=>(dP p.1,vf p.2)))))):
 hQ P ops stl (⟨none, .insert t x y z,ty,pos,af,gd⟩::r) K fr (m.aS L):=by
 simp only [hQ,j7,bc,fl,bS]
 intro n al aM F lim w ca st
 have gR:=kI al
 have J:=hE st (gR x (by simp [Op.operands]))
 have aa:=hE st (gR y (by simp [Op.operands]))
 have aj:=hE st (gR z (by simp [Op.operands]))
 rw [an] at J
 rw [aK] at aa
 rw [ak] at aj
 have aF:ca.eval x= .map (some b):=by generalize ca.eval x=q at J;cases J;rfl
 obtain ⟨w',jf,jI,sN⟩:=Px (P:=P) he st (qu (m:=m) i gT ad) aq qv aa aj dI
 rw [CN i gT ad] at jI
 exact ⟨.skip,undef,w',lim,_,_,by simp only [execOp,aF,Sem.run_bind,jf];rfl, .inr ⟨rfl,rfl⟩,jI,sN,h⟩
end
end Go.bg
namespace Go.cz
open Go Go.bg
section
variable {P:Program} {T:h1} {b0:List Nat} {fr:ck} {L:List bT} {m:ae} {K:cY}
theorem AF (aP:fO P T=true) {dh e7:Type} [DecidableEq dh] {dk:TypeDesc} (dP:dh→ab) {gl:dh→Value} (vf:e7→ab) (he:pI dk dP gl) (l:List (dh×e7)) (k:dh) (v:e7) {t i:Nat} {ke ve:Nat} {x y z:Operand} {RD:ab} {w:a7} (gu:yg T t ke ve dk RD) (an:fu fr x fun u=>u= .mp i) (ad:nth L i=some (.obj (.map (l.map (uR dP vf)))))
 (aK:fu fr y fun u=>u= .aI (dP k)) (Ef:(dP k).plain=dP k) (ak:fu fr z fun u=>u=w) (hw:∀bs,den bs w=vf v) (dI:(iK l k v).length≤140737488355328)
 (h:gY (L.set i (.obj (.map ((iK l k v).map (uR dP vf))))) fun ch=>K fr ch m):iA P b0 none (.insert t x y z) fr L m K:=⟨fun new g n ops ty pos af r oW dc aM U=>by
 obtain ⟨jg,iW,z0,km,z2⟩:=gu.get aP
 obtain ⟨v1,rfl,aF⟩:=fF (b0++new) an
 obtain ⟨v2,rfl,az⟩:=fF (b0++new) aK
 obtain ⟨v3,rfl,cS⟩:=fF (b0++new) ak
 simp only [den,Ef] at aF az
 rw [jN] at ad
 have kT:=C7 g.len ad
 rw [hR] at h
 refine sQ (stl:=[]) dc aM ?_
 refine RC (P:=P) (ops:=ops) (stl:=[]) (r:=[]) (K:=b6 P n ops r oW) (L:=iy (b0++new) L) rfl i dP vf he l k v jg iW aF.symm az.symm (by rw [←cS,hw]) kT g.nodup dI ?_
 have:=U _ _ _ (b0++new) (List.prefix_append _ _) (g.set i _) h
 have yk:(iy (b0++new) L).set i ((b0++new).getD i 0,gr.map ((iK l k v).map fun p=>(dP p.1,vf p.2)))=iy (b0++new) (L.set i (.obj (.map ((iK l k v).map (uR dP vf))))):=by
  rcases HY (bs:=b0++new) (L:=L) (i:=i) (o:= .obj (.map ((iK l k v).map (uR dP vf)))) with h|h
  · exact h
  · exfalso
    have:i<L.length:=by
     rcases Nat.lt_or_ge i L.length with h|h
     · exact h
     · rw [List.getElem?_eq_none h] at ad;cases ad
    rw [g.len] at h;omega
 rw [yk]
 exact this⟩
end
end Go.cz
end
section
namespace Go.cz
open Go Go.bg
def Ej {dh e7:Type} (m:ae) (dP:dh→ab) (vf:e7→ab) (o:Option Nat) (l:List (dh×e7)):Prop:=
 match o with
 |none=>l=[]
 |some b=>m b=some (.map (l.map (uR dP vf)))
theorem Ej.up {dh e7:Type} {m ai:ae} {dP:dh→ab} {vf:e7→ab} {o:Option Nat} {l:List (dh×e7)} (aq:∀b o,m b=some o→ai b=some o) (h:Ej m dP vf o l):Ej ai dP vf o l:=by
 cases o with
 |none=>exact h
 |some b=>exact aq _ _ h
section
variable {P:Program} {T:h1} {b0:List Nat} {fr:ck} {L:List bT} {m:ae} {K:cY}
end
end Go.cz
end
section
namespace Go.cz
open Go Go.bg
section
variable {P:Program} {T:h1} {b0:List Nat} {fr:ck} {L:List bT} {m:ae} {K:cY}
theorem RE (aP:fO P T=true) (E:Nat) {d t:Nat} {e:Int} {x:Operand} {y:ab} (an:fu fr x fun a=>zY T t a fun u=>u= .aI y) (aK:y.plain.toErr E= .err E e)
 (h:K ((d, .aI (.err E e))::fr) L m):iA P b0 (some d) (.makeInterface t x) fr L m K:=⟨fun new g n ops ty pos af l oW dc aM U=>by
 obtain ⟨v,J,aF⟩:=fF (b0++new) an
 obtain ⟨side,z,u,aU,aw,rfl,rfl⟩:=Ia (P:=P) (L:=L) (m:=m) aP J aF
 refine b6.bS dc aU aw ?_
 have:=U _ _ _ (b0++new) (List.prefix_append _ _) g h
 refine b6.less ?_ this
 intro q w hw
 simp only [bt,Fr.get,Fr.put,den] at hw ⊢
 by_cases c:d=q
 · rw [if_pos c] at hw ⊢
   obtain rfl:=Option.some.inj hw
   refine ⟨_,rfl, .inr fun _ _ _ _ aA=>?_⟩
   have aa:=toErr_rep E aA
   rw [aK] at aa
   exact aa.plain
 · rw [if_neg c] at hw ⊢
   exact ⟨w,hw, .inl rfl⟩⟩
end
end Go.cz
end
section
namespace Go.cz
open Go Go.bg
section
variable {P:Program} {b0:List Nat} {fr:ck} {L:List bT} {m:ae}
theorem RF {c:gW} {A:cY} {R:Prop} (E:Nat) {a j:Nat} {gj:List a7} (aT:nth L a=some (.cells gj)) (aD:nth gj j=some (.aI .nilIface))
 (h:qJ (x4 c A fr (L.set a (.cells (gj.set j (.aI (.err E 0))))) m) False):qJ (x4 c A fr L m) R:=by
 rw [jN] at aT aD
 obtain ⟨h|h⟩:=h
 · refine ⟨.inl ⟨fun new g n ij Q h2=>?_⟩⟩
   refine dS.rR ?_ (h.h new (g.set a _) n ij Q h2)
   rw [←mem_set g aT]
   intro b fE ah
   simp only [ae.cE] at ah
   by_cases e:b=(c.bs++new).getD a 0
   · rw [if_pos e] at ah
     obtain rfl:=Option.some.inj ah
     refine ⟨_,by rw [e];exact oY g aT, .inr ⟨_,_,rfl,rfl,?_,fun k=>?_⟩⟩
     · rw [lO,lO,List.length_set]
     · rw [Je]
       by_cases al:k=j
       · subst al
         have J:=(s4 (bs:=c.bs++new) (n:=k) (l:=gj) (v:= .aI .nilIface) (by rw [jN];exact aD)).1
         have cl:k<(bE (c.bs++new) gj).length:=by
          rw [lO]
          rcases Nat.lt_or_ge k gj.length with h|h
          · exact h
          · rw [List.getElem?_eq_none h] at aD;cases aD
         rw [J]
         have aa:((bE (c.bs++new) gj).set k (den (c.bs++new) (.aI (.err E 0)))).getD k .aV= .err E 0:=by
          simp [List.getD_eq_getElem?_getD,cl,den,ab.plain]
         rw [aa]
         refine .inr fun _ _ _ _ aA=>?_
         have aj:=toErr_rep E aA
         simp only [den,ab.plain,ab.toErr] at aj
         exact aj.plain
       · have:((bE (c.bs++new) gj).set j (den (c.bs++new) (.aI (.err E 0)))).getD k .aV=(bE (c.bs++new) gj).getD k .aV:=by
          rw [List.getD_eq_getElem?_getD,List.getD_eq_getElem?_getD,List.getElem?_set_ne (Ne.symm al)]
         rw [this];exact .inl rfl
   · rw [if_neg e] at ah
     exact ⟨fE,ah, .inl rfl⟩
 · exact h.elim
end
end Go.cz
end
section
namespace Go.bg
open Go
section
variable {P:Program} {m:ae}
theorem RG {f:FuncId} {e eb:TypeId} (aZ:∃fn,P.funcs[f]?=some fn∧fn.body.isSome=true∧(fn.name== "runtime.NumGoroutine")=false)
 (hq:∀(b:Nat) (p:Value) (a:Option Addr) (n c:Nat) (w:World),w.heap[b]?=some (.cells #[p, .slice a n c] e (0,0))→
   Calls P f #[.pointer (some ⟨b,0,none⟩)] w fun e w'=>e= .returned (.int .i64 n)∧w'=w)
 {b:Nat} {l:List UInt8} {K:ab→ae→Prop} (hm:m b=some (.bX e eb (l.map bC))) (hlen:l.length≤140737488355328) (U:K (.int .i64 l.length) m):bh P f [.ptr ⟨b,0,none⟩] m K:=by
 refine ⟨aZ,fun F lim w cargs aw aA st=>?_⟩
 obtain ⟨x,rfl⟩:=As aw
 have o4:aN w lim x (.ptr ⟨b,0,none⟩) []:=aA 0 (by simp)
 cases o4
 obtain ⟨p,v,os,ez,av,ah,aQ,mr,aP,jF,_,tf⟩:=st.D1 hm
 have key:∃a c,v= .slice a l.length c:=by
  rcases aP with rfl|⟨g,k,c,cur,rfl,bc,fk,D7⟩
  · have hv:l=[]:=by
     generalize oi:l.map bC=qM at mr
     cases mr
     simpa using oi
    subst hv
    exact ⟨none,0,rfl⟩
  · have aJ:l≠[]:=fun h=>fk (by rw [h];rfl)
    obtain ⟨rfl,_⟩:=I8 mr aJ
    exact ⟨_,_,rfl⟩
 obtain ⟨a,c,rfl⟩:=key
 refine (hq b p a l.length c w ah).mono fun aF eN ⟨he,qO⟩=>?_
 subst he;subst qO
 exact ⟨_,_,lim,_,[],rfl,U, .int _ _ (show (-9223372036854775808:Int)≤_ by omega) (show _≤(9223372036854775807:Int) by omega),st, .refl _ _ _⟩
end
end Go.bg
end
section
namespace Go.Proofs
open Go Go.bg
theorem Tryz.mixed:Tryz.prog.follows .mixedOrders=true:=by kernel_rfl
end Go.Proofs
end
section
namespace Go.Proofs
open Go Go.RowKit
theorem RH {P:Program} {ops:Array Oper} {rest:List Oper} {o:Oper} {a:Act} {w:World} {Q:Exit→Act→World→Prop} (lJ:o.guard=none) (b9 x:Operand) (t u:TypeId)
 (aL:o.op= .call {callee:= .builtin .append,args:=#[b9,x],argTypes:=#[t,u]}) (v y:Value) (aw:a.eval b9=v) (an:a.eval x=y) (hD:Value) (w':World) (aA:(Builtin.append_ #[t,u] o.type #[v,y]).run P w= .ok hD w')
 (h:wpList P ops Q rest (a.put o.dst hD) w'):wpList P ops Q (o::rest) a w:=by
 refine wpList_plain lJ fun K U=>?_
 unfold Oper.wp execOp
 simp only [aL,resolve,invoke,builtin,Sem.run_bind,Sem.run_pure,Result.andThen_ok,List.map_toArray,List.map_cons,List.map_nil,aw,an,aA]
 exact U _ _ h
set_option maxHeartbeats 1000000 in
set_option maxRecDepth 100000 in
theorem Tryz.RI (b:Nat) (w:World) (aJ:w.cell? ⟨b,0,none⟩=some (.pointer (some ⟨b,0,none⟩))):
 Calls Tryz.prog 147 #[.pointer (some ⟨b,0,none⟩)] w fun e w'=>e= .returned (.tuple #[])∧w'=w:=by
 obtain ⟨j,aD,pF⟩:∃j,Tryz.prog.info? 112=some j∧j.size=2:=⟨_,rfl,rfl⟩
 go_enter Tryz.func147,Tryz.ntmps147
 go_wp2
 rw [Lib.run_neq_ptr_same (tp:=109) (te:=112) w _ Tryz.underlying109 aD]
 go_wp2
 go_end0
 exact ⟨rfl,rfl⟩
set_option maxHeartbeats 1000000 in
set_option maxRecDepth 100000 in
theorem Tryz.RJ (b:Nat) (w:World) (aJ:w.cell? ⟨b,0,none⟩=some (.pointer none)) (vr:w.shape? b=some (112,2)) (Hm:w.frozen? ⟨b,0,none⟩=false):
 Calls Tryz.prog 147 #[.pointer (some ⟨b,0,none⟩)] w fun e w'=>e= .returned (.tuple #[])∧w'=w.setCell ⟨b,0,none⟩ (.pointer (some ⟨b,0,none⟩)):=by
 obtain ⟨j,aD,pF⟩:∃j,Tryz.prog.info? 112=some j∧j.size=2:=⟨_,rfl,rfl⟩
 have hu:Tryz.prog.underlying 259=some .unsafePointer:=by kernel_rfl
 go_enter Tryz.func147,Tryz.ntmps147
 go_wp2
 rw [Lib.run_to_unsafe w ⟨b,0,none⟩ Tryz.underlying109 hu aD (by rw [pF];decide) vr (Nat.zero_lt_succ 1)]
 simp only [Result.andThen]
 rw [Oper.upon_value]
 go_wp2
 rw [run_callFunc_extern Tryz.func195 (by kernel_rfl) (by kernel_rfl) (by kernel_rfl) (e:=Extern.AbiNoEscape.same) (by kernel_rfl)]
 rw [Lib.run_noEscape]
 simp only [Result.andThen]
 rw [Oper.upon_value]
 go_wp2
 rw [Lib.run_from_unsafe w ⟨b,0,none⟩ hu Tryz.underlying109 aD vr (by kernel_rfl)]
 simp only [Result.andThen]
 rw [Oper.upon_value]
 go_wp2
 go_end0
 exact ⟨rfl,rfl⟩
set_option maxHeartbeats 2000000 in
set_option maxRecDepth 100000 in
theorem Tryz.RL (b:Nat) (s:ByteArray) (w cU eP:World) (p:Value) (a:Option Addr) (n c:Nat) (bZ:Option Addr) (rQ pS:Nat) (ah:w.heap[b]?=some (.cells #[p, .slice a n c] 112 (0,0)))
 (aQ:(p= .pointer none∧cU=w.setCell ⟨b,0,none⟩ (.pointer (some ⟨b,0,none⟩)))∨(p= .pointer (some ⟨b,0,none⟩)∧cU=w))
 (dZ:(Builtin.append_ #[110,9] 110 #[.slice a n c, .string s]).run Tryz.prog cU= .ok (.slice bZ rQ pS) eP) (aa:eP.heap[b]?=some (.cells #[.pointer (some ⟨b,0,none⟩), .slice a n c] 112 (0,0))):
 Calls Tryz.prog 80 #[.pointer (some ⟨b,0,none⟩), .string s] w fun e w'=>e= .returned (.tuple #[.int .i64 s.size, .nilIface])∧w'=eP.setCell ⟨b,1,none⟩ (.slice bZ rQ pS):=by
 have AE:Calls Tryz.prog 147 #[.pointer (some ⟨b,0,none⟩)] w fun e w'=>e= .returned (.tuple #[])∧w'=cU:=by
  rcases aQ with ⟨rfl,rfl⟩|⟨rfl,rfl⟩
  · exact Tryz.RJ b w (by rw [Lib.cell_of_heap ah];rfl) (by simp [World.shape?,ah]) (Lib.frozen_of_heap ah 0)
  · exact Tryz.RI b cU (by rw [Lib.cell_of_heap ah];rfl)
 have pO:cU.heap[b]?=some (.cells #[.pointer (some ⟨b,0,none⟩), .slice a n c] 112 (0,0)):=by
  rcases aQ with ⟨rfl,rfl⟩|⟨rfl,rfl⟩
  · rw [heap_setCell_same _ b 0 _ 112 _ ah];rfl
  · exact ah
 go_enter Tryz.func80,Tryz.ntmps80
 go_wp2_with (go_at_call 147;refine AE.mono ?_)
 rintro e W ⟨rfl,rfl⟩
 have hF:W.cell? ⟨b,1,none⟩=some (.slice a n c):=by rw [Lib.cell_of_heap pO];rfl
 have d1:eP.cell? ⟨b,1,none⟩=some (.slice a n c):=by rw [Lib.cell_of_heap aa];rfl
 have f1:eP.frozen? ⟨b,1,none⟩=false:=Lib.frozen_of_heap aa 1
 go_wp2_with (at_builtin;refine RH rfl _ _ 110 9 rfl _ _ rfl rfl _ _ dZ ?_)
 go_wp2
 go_ret2
 exact ⟨rfl,rfl⟩
set_option maxHeartbeats 2000000 in
set_option maxRecDepth 100000 in
theorem Tryz.RM (b g c:Nat) (p:Value) (cur:Array Value) (l:List UInt8) (w:World) (aJ:l≠[]) (uB:c≠0) (RN:l.length≤9223372036854775807) (ah:w.heap[b]?=some (.cells #[p, .slice (some ⟨g,0,none⟩) l.length c] 112 (0,0)))
 (bc:w.heap[g]?=some (.cells cur 5 (0,0))) (aM:l.length≤cur.size) (ao:∀j x,l[j]?=some x→w.cell? ⟨g,j,none⟩=some (.int .u8 x.toNat)):
 Calls Tryz.prog 58 #[.pointer (some ⟨b,0,none⟩)] w fun e w'=>e= .returned (.string ⟨l.toArray⟩)∧w'=w.drew.freeze ⟨g,0,none⟩ l.length:=by
 have hF:w.drew.cell? ⟨b,1,none⟩=some (.slice (some ⟨g,0,none⟩) l.length c):=by
  have:w.drew.heap[b]?=some (.cells #[p, .slice (some ⟨g,0,none⟩) l.length c] 112 (0,0)):=ah
  rw [Lib.cell_of_heap this];rfl
 have RO:(Builtin.unsafeSliceData_ #[110] 205 #[.slice (some ⟨g,0,none⟩) l.length c]).run Tryz.prog w.drew= .ok (.pointer (some ⟨g,0,none⟩)) w.drew:=
  Lib.run_unsafeSliceData_row _ _ _ _ _ _ uB
 have RP:(Builtin.unsafeString_ #[205,3] 9 #[.pointer (some ⟨g,0,none⟩), .int .i64 l.length]).run Tryz.prog w.drew= .ok (.string ⟨l.toArray⟩) (w.drew.freeze ⟨g,0,none⟩ l.length):=by
  refine Lib.run_unsafeString_row w.drew 205 3 9 5 Tryz.underlying205 (by kernel_rfl) g cur.size (by have zz:w.drew.heap[g]?=some (.cells cur 5 (0,0)):=bc;simp [World.shape?,zz]) l aJ aM RN ?_
  intro j x an
  rw [Addr.add_lit,Nat.zero_add]
  exact ao j x an
 go_enter Tryz.func58,Tryz.ntmps58
 go_wp2
 go_region
 all_goals (go_wp2;go_ret;exact ⟨rfl,rfl⟩)
set_option maxHeartbeats 2000000 in
set_option maxRecDepth 100000 in
theorem Tryz.RQ (b:Nat) (p:Value) (w:World) (ah:w.heap[b]?=some (.cells #[p, .slice none 0 0] 112 (0,0))):
 Calls Tryz.prog 58 #[.pointer (some ⟨b,0,none⟩)] w fun e w'=>e= .returned (.string ⟨#[]⟩)∧w'=w.drew:=by
 have hF:w.drew.cell? ⟨b,1,none⟩=some (.slice none 0 0):=by
  have:w.drew.heap[b]?=some (.cells #[p, .slice none 0 0] 112 (0,0)):=ah
  rw [Lib.cell_of_heap this];rfl
 have RO:(Builtin.unsafeSliceData_ #[110] 205 #[.slice none 0 0]).run Tryz.prog w.drew= .ok (.pointer none) w.drew:=Lib.run_unsafeSliceData_nil _ _ _ _ _
 have RP:(Builtin.unsafeString_ #[205,3] 9 #[.pointer none, .int .i64 0]).run Tryz.prog w.drew= .ok (.string .empty) w.drew:=Lib.run_unsafeString_none w.drew _ _ _ none
 go_enter Tryz.func58,Tryz.ntmps58
 go_wp2
 go_region
 all_goals (go_wp2;go_ret;exact ⟨rfl,rfl⟩)
end Go.Proofs
end
section
namespace Go.Proofs
open Go.Shelf
def Tryz.RR:Go.Shelf.Ren:=⟨fun|137=>175|217=>213|266=>232|n=>n,fun|9=>9|5=>5|3=>3|n=>n,fun|n=>n⟩
theorem Tryz.RS:Go.Proofs.Lays.n137 Tryz.prog Tryz.RR:={
 mixed:=by kernel_rfl
 f137:=Tryz.func175.trans (congrArg some (by kernel_rfl))
 f217:=Tryz.func213.trans (congrArg some (by kernel_rfl))
 f266:=Tryz.func232.trans (congrArg some (by kernel_rfl))
 t3:=Tryz.underlying3
 a3:=Tryz.isAgg3
 z3:=Tryz.sizeOf3
 v3:=Tryz.zeroValue3
 t5:=Tryz.underlying5
 a5:=Tryz.isAgg5
 z5:=Tryz.sizeOf5
 v5:=Tryz.zeroValue5
 t9:=Tryz.underlying9
 a9:=Tryz.isAgg9
 z9:=Tryz.sizeOf9
 v9:=Tryz.zeroValue9}
open Go.RowKit in
theorem Tryz.strings_IndexByte (s:ByteArray) (c:Int) (w:World):
 Calls Tryz.prog 175 #[.string s, .int .u8 c] w fun e w'=>e= .returned (.int .i64 (Lib.indexByte s.data.toList c.toNat.toUInt8))∧w'=w:=Any.strings_IndexByte Tryz.RS s c w
def Tryz.RT:Go.Shelf.Ren:=⟨fun|172=>170|244=>210|245=>211|247=>227|279=>228|280=>229|281=>230|282=>231|287=>239|316=>240|171=>86|205=>241|321=>243|322=>244|243=>157|246=>199|283=>200|284=>201|285=>202|286=>203|129=>219|317=>218|318=>220|319=>221|320=>222|337=>233|338=>234|n=>n,fun|9=>9|3=>3|75=>34|76=>159|4=>4|5=>5|167=>287|37=>110|0=>0|85=>288|2=>2|168=>290|53=>173|175=>294|46=>246|210=>297|127=>205|145=>308|143=>306|21=>21|171=>263|173=>266|212=>281|51=>268|20=>20|213=>282|232=>299|233=>300|80=>114|n=>n,fun|15=>2|16=>3|17=>1|18=>4|19=>5|n=>n⟩
theorem Tryz.RU:Go.Proofs.Lays.n172 Tryz.prog Tryz.RT:={
 mixed:=by kernel_rfl
 f129:=Tryz.func219.trans (congrArg some (by kernel_rfl))
 f171:=Tryz.func86.trans (congrArg some (by kernel_rfl))
 f172:=Tryz.func170.trans (congrArg some (by kernel_rfl))
 f205:=Tryz.func241.trans (congrArg some (by kernel_rfl))
 f243:=Tryz.func157.trans (congrArg some (by kernel_rfl))
 f244:=Tryz.func210.trans (congrArg some (by kernel_rfl))
 f245:=Tryz.func211.trans (congrArg some (by kernel_rfl))
 f246:=Tryz.func199.trans (congrArg some (by kernel_rfl))
 f247:=Tryz.func227.trans (congrArg some (by kernel_rfl))
 f279:=Tryz.func228.trans (congrArg some (by kernel_rfl))
 f280:=Tryz.func229.trans (congrArg some (by kernel_rfl))
 f281:=Tryz.func230.trans (congrArg some (by kernel_rfl))
 f282:=Tryz.func231.trans (congrArg some (by kernel_rfl))
 f283:=Tryz.func200.trans (congrArg some (by kernel_rfl))
 f284:=Tryz.func201.trans (congrArg some (by kernel_rfl))
 f285:=Tryz.func202.trans (congrArg some (by kernel_rfl))
 f286:=Tryz.func203.trans (congrArg some (by kernel_rfl))
 f287:=Tryz.func239.trans (congrArg some (by kernel_rfl))
 f316:=Tryz.func240.trans (congrArg some (by kernel_rfl))
 f317:=Tryz.func218.trans (congrArg some (by kernel_rfl))
 f318:=Tryz.func220.trans (congrArg some (by kernel_rfl))
 f319:=Tryz.func221.trans (congrArg some (by kernel_rfl))
 f320:=Tryz.func222.trans (congrArg some (by kernel_rfl))
 f321:=Tryz.func243.trans (congrArg some (by kernel_rfl))
 f322:=Tryz.func244.trans (congrArg some (by kernel_rfl))
 f337:=Tryz.func233.trans (congrArg some (by kernel_rfl))
 f338:=Tryz.func234.trans (congrArg some (by kernel_rfl))
 t0:=Tryz.underlying0
 a0:=Tryz.isAgg0
 z0:=Tryz.sizeOf0
 v0:=Tryz.zeroValue0
 t2:=Tryz.underlying2
 a2:=Tryz.isAgg2
 z2:=Tryz.sizeOf2
 v2:=Tryz.zeroValue2
 t3:=Tryz.underlying3
 a3:=Tryz.isAgg3
 z3:=Tryz.sizeOf3
 v3:=Tryz.zeroValue3
 t4:=Tryz.underlying4
 a4:=Tryz.isAgg4
 z4:=Tryz.sizeOf4
 v4:=Tryz.zeroValue4
 t5:=Tryz.underlying5
 a5:=Tryz.isAgg5
 z5:=Tryz.sizeOf5
 v5:=Tryz.zeroValue5
 t9:=Tryz.underlying9
 a9:=Tryz.isAgg9
 z9:=Tryz.sizeOf9
 v9:=Tryz.zeroValue9
 t20:=Tryz.underlying20
 a20:=Tryz.isAgg20
 z20:=Tryz.sizeOf20
 v20:=Tryz.zeroValue20
 t21:=Tryz.underlying21
 a21:=Tryz.isAgg21
 z21:=Tryz.sizeOf21
 v21:=Tryz.zeroValue21
 t37:=Tryz.underlying110
 a37:=Tryz.isAgg110
 z37:=Tryz.sizeOf110
 v37:=Tryz.zeroValue110
 t46:=Tryz.underlying246
 a46:=Tryz.isAgg246
 z46:=Tryz.sizeOf246
 v46:=Tryz.zeroValue246
 t51:=Tryz.underlying268
 a51:=Tryz.isAgg268
 z51:=Tryz.sizeOf268
 v51:=Tryz.zeroValue268
 t53:=Tryz.underlying173
 a53:=Tryz.isAgg173
 z53:=Tryz.sizeOf173
 v53:=Tryz.zeroValue173
 t75:=Tryz.underlying34
 a75:=Tryz.isAgg34
 z75:=Tryz.sizeOf34
 v75:=Tryz.zeroValue34
 t76:=Tryz.underlying159
 a76:=Tryz.isAgg159
 z76:=Tryz.sizeOf159
 v76:=Tryz.zeroValue159
 t85:=Tryz.underlying288
 a85:=Tryz.isAgg288
 z85:=Tryz.sizeOf288
 v85:=Tryz.zeroValue288
 t127:=Tryz.underlying205
 a127:=Tryz.isAgg205
 z127:=Tryz.sizeOf205
 v127:=Tryz.zeroValue205
 t143:=Tryz.underlying306
 a143:=Tryz.isAgg306
 z143:=Tryz.sizeOf306
 v143:=Tryz.zeroValue306
 t145:=Tryz.underlying308
 a145:=Tryz.isAgg308
 z145:=Tryz.sizeOf308
 v145:=Tryz.zeroValue308
 t167:=Tryz.underlying287
 a167:=Tryz.isAgg287
 z167:=Tryz.sizeOf287
 v167:=Tryz.zeroValue287
 t168:=Tryz.underlying290
 a168:=Tryz.isAgg290
 z168:=Tryz.sizeOf290
 v168:=Tryz.zeroValue290
 t171:=Tryz.underlying263
 a171:=Tryz.isAgg263
 z171:=Tryz.sizeOf263
 v171:=Tryz.zeroValue263
 t173:=Tryz.underlying266
 a173:=Tryz.isAgg266
 z173:=Tryz.sizeOf266
 v173:=Tryz.zeroValue266
 t175:=Tryz.underlying294
 a175:=Tryz.isAgg294
 z175:=Tryz.sizeOf294
 v175:=Tryz.zeroValue294
 t210:=Tryz.underlying297
 a210:=Tryz.isAgg297
 z210:=Tryz.sizeOf297
 v210:=Tryz.zeroValue297
 t212:=Tryz.underlying281
 a212:=Tryz.isAgg281
 z212:=Tryz.sizeOf281
 v212:=Tryz.zeroValue281
 t213:=Tryz.underlying282
 a213:=Tryz.isAgg282
 z213:=Tryz.sizeOf282
 t232:=Tryz.underlying299
 a232:=Tryz.isAgg299
 z232:=Tryz.sizeOf299
 v232:=Tryz.zeroValue299
 t233:=Tryz.underlying300
 a233:=Tryz.isAgg300
 z233:=Tryz.sizeOf300
 v233:=Tryz.zeroValue300
 g15:=by kernel_rfl
 g16:=by kernel_rfl
 g17:=by kernel_rfl
 g18:=by kernel_rfl
 g19:=by kernel_rfl}
open Go.RowKit in
theorem Tryz.strconv_Atoi (s:ByteArray) (n:Int) (av:s.size≤18) (h:Lib.atoi s.data.toList=some n) (w:World):
 Calls Tryz.prog 170 #[.string s] w fun e w'=>e= .returned (.tuple #[.int .i64 n, .nilIface])∧∃t,w'=Lib.bytesWorld w 5 t:=Any.strconv_Atoi Tryz.RU s n av h w
def Tryz.RV:Go.Shelf.Ren:=⟨fun|171=>86|243=>157|246=>199|283=>200|284=>201|285=>202|286=>203|129=>219|317=>218|318=>220|319=>221|320=>222|337=>233|338=>234|n=>n,fun|3=>3|9=>9|2=>2|4=>4|171=>263|0=>0|53=>173|37=>110|5=>5|173=>266|212=>281|51=>268|20=>20|213=>282|46=>246|232=>299|233=>300|n=>n,fun|17=>1|18=>4|19=>5|n=>n⟩
theorem Tryz.RW:Go.Proofs.LaysM.n171 Tryz.prog Tryz.RV:={
 mixed:=by kernel_rfl
 f129:=Tryz.func219.trans (congrArg some (by kernel_rfl))
 f171:=Tryz.func86.trans (congrArg some (by kernel_rfl))
 f243:=Tryz.func157.trans (congrArg some (by kernel_rfl))
 f246:=Tryz.func199.trans (congrArg some (by kernel_rfl))
 f283:=Tryz.func200.trans (congrArg some (by kernel_rfl))
 f284:=Tryz.func201.trans (congrArg some (by kernel_rfl))
 f285:=Tryz.func202.trans (congrArg some (by kernel_rfl))
 f286:=Tryz.func203.trans (congrArg some (by kernel_rfl))
 f317:=Tryz.func218.trans (congrArg some (by kernel_rfl))
 f318:=Tryz.func220.trans (congrArg some (by kernel_rfl))
 f319:=Tryz.func221.trans (congrArg some (by kernel_rfl))
 f320:=Tryz.func222.trans (congrArg some (by kernel_rfl))
 f337:=Tryz.func233.trans (congrArg some (by kernel_rfl))
 f338:=Tryz.func234.trans (congrArg some (by kernel_rfl))
 t0:=Tryz.underlying0
 a0:=Tryz.isAgg0
 z0:=Tryz.sizeOf0
 v0:=Tryz.zeroValue0
 t2:=Tryz.underlying2
 a2:=Tryz.isAgg2
 z2:=Tryz.sizeOf2
 v2:=Tryz.zeroValue2
 t3:=Tryz.underlying3
 a3:=Tryz.isAgg3
 z3:=Tryz.sizeOf3
 v3:=Tryz.zeroValue3
 t4:=Tryz.underlying4
 a4:=Tryz.isAgg4
 z4:=Tryz.sizeOf4
 v4:=Tryz.zeroValue4
 t5:=Tryz.underlying5
 a5:=Tryz.isAgg5
 z5:=Tryz.sizeOf5
 v5:=Tryz.zeroValue5
 t9:=Tryz.underlying9
 a9:=Tryz.isAgg9
 z9:=Tryz.sizeOf9
 v9:=Tryz.zeroValue9
 t20:=Tryz.underlying20
 a20:=Tryz.isAgg20
 z20:=Tryz.sizeOf20
 v20:=Tryz.zeroValue20
 t37:=Tryz.underlying110
 a37:=Tryz.isAgg110
 z37:=Tryz.sizeOf110
 v37:=Tryz.zeroValue110
 t46:=Tryz.underlying246
 a46:=Tryz.isAgg246
 z46:=Tryz.sizeOf246
 v46:=Tryz.zeroValue246
 t51:=Tryz.underlying268
 a51:=Tryz.isAgg268
 z51:=Tryz.sizeOf268
 v51:=Tryz.zeroValue268
 t53:=Tryz.underlying173
 a53:=Tryz.isAgg173
 z53:=Tryz.sizeOf173
 v53:=Tryz.zeroValue173
 t171:=Tryz.underlying263
 a171:=Tryz.isAgg263
 z171:=Tryz.sizeOf263
 v171:=Tryz.zeroValue263
 t173:=Tryz.underlying266
 a173:=Tryz.isAgg266
 z173:=Tryz.sizeOf266
 v173:=Tryz.zeroValue266
 t212:=Tryz.underlying281
 a212:=Tryz.isAgg281
 z212:=Tryz.sizeOf281
 v212:=Tryz.zeroValue281
 t213:=Tryz.underlying282
 a213:=Tryz.isAgg282
 z213:=Tryz.sizeOf282
 t232:=Tryz.underlying299
 a232:=Tryz.isAgg299
 z232:=Tryz.sizeOf299
 v232:=Tryz.zeroValue299
 t233:=Tryz.underlying300
 a233:=Tryz.isAgg300
 z233:=Tryz.sizeOf300
 v233:=Tryz.zeroValue300
 g17:=by kernel_rfl
 g18:=by kernel_rfl
 g19:=by kernel_rfl
 i0:=by kernel_rfl
 i2:=by kernel_rfl
 i3:=by kernel_rfl
 i4:=by kernel_rfl
 i5:=by kernel_rfl
 i9:=by kernel_rfl
 i20:=by kernel_rfl
 i37:=by kernel_rfl
 i46:=by kernel_rfl
 i51:=by kernel_rfl
 i53:=by kernel_rfl
 i171:=by kernel_rfl
 i173:=by kernel_rfl
 i212:=by kernel_rfl
 i232:=by kernel_rfl
 i233:=by kernel_rfl
 m17:=by kernel_rfl
 m18:=by kernel_rfl
 m19:=by kernel_rfl}
open Go.RowKit Go.Sort Go.Lib in
theorem Tryz.strconv_Itoa (n:Int) (aJ:-9223372036854775808≤n) (J:n≤9223372036854775807) (w:World) (Eb:Lib.TabIs Tryz.prog w "internal/strconv.uint64pow10" .u64 Lib.pow10Tab):
 Calls Tryz.prog 86 #[.int .i64 n] w fun e w'=>e= .returned (.string ⟨(Lib.itoa n).toArray⟩)∧∃k os,w'=grow (w.drewN k) os:=Any.strconv_Itoa Tryz.RW n aJ J w Eb
def Tryz.RX:Go.Shelf.Ren:=⟨fun|172=>170|244=>210|245=>211|247=>227|279=>228|280=>229|281=>230|282=>231|287=>239|316=>240|171=>86|205=>241|321=>243|322=>244|243=>157|246=>199|283=>200|284=>201|285=>202|286=>203|129=>219|317=>218|318=>220|319=>221|320=>222|337=>233|338=>234|n=>n,fun|9=>9|3=>3|75=>34|76=>159|4=>4|5=>5|167=>287|37=>110|0=>0|85=>288|2=>2|168=>290|53=>173|175=>294|46=>246|210=>297|127=>205|145=>308|143=>306|21=>21|171=>263|173=>266|212=>281|51=>268|20=>20|213=>282|232=>299|233=>300|80=>114|n=>n,fun|15=>2|16=>3|17=>1|18=>4|19=>5|n=>n⟩
theorem Tryz.RY:Go.Proofs.LaysC.n172 Tryz.prog Tryz.RX:={
 mixed:=by kernel_rfl
 f129:=Tryz.func219.trans (congrArg some (by kernel_rfl))
 f171:=Tryz.func86.trans (congrArg some (by kernel_rfl))
 f172:=Tryz.func170.trans (congrArg some (by kernel_rfl))
 f205:=Tryz.func241.trans (congrArg some (by kernel_rfl))
 f243:=Tryz.func157.trans (congrArg some (by kernel_rfl))
 f244:=Tryz.func210.trans (congrArg some (by kernel_rfl))
 f245:=Tryz.func211.trans (congrArg some (by kernel_rfl))
 f246:=Tryz.func199.trans (congrArg some (by kernel_rfl))
 f247:=Tryz.func227.trans (congrArg some (by kernel_rfl))
 f279:=Tryz.func228.trans (congrArg some (by kernel_rfl))
 f280:=Tryz.func229.trans (congrArg some (by kernel_rfl))
 f281:=Tryz.func230.trans (congrArg some (by kernel_rfl))
 f282:=Tryz.func231.trans (congrArg some (by kernel_rfl))
 f283:=Tryz.func200.trans (congrArg some (by kernel_rfl))
 f284:=Tryz.func201.trans (congrArg some (by kernel_rfl))
 f285:=Tryz.func202.trans (congrArg some (by kernel_rfl))
 f286:=Tryz.func203.trans (congrArg some (by kernel_rfl))
 f287:=Tryz.func239.trans (congrArg some (by kernel_rfl))
 f316:=Tryz.func240.trans (congrArg some (by kernel_rfl))
 f317:=Tryz.func218.trans (congrArg some (by kernel_rfl))
 f318:=Tryz.func220.trans (congrArg some (by kernel_rfl))
 f319:=Tryz.func221.trans (congrArg some (by kernel_rfl))
 f320:=Tryz.func222.trans (congrArg some (by kernel_rfl))
 f321:=Tryz.func243.trans (congrArg some (by kernel_rfl))
 f322:=Tryz.func244.trans (congrArg some (by kernel_rfl))
 f337:=Tryz.func233.trans (congrArg some (by kernel_rfl))
 f338:=Tryz.func234.trans (congrArg some (by kernel_rfl))
 t0:=Tryz.underlying0
 a0:=Tryz.isAgg0
 z0:=Tryz.sizeOf0
 v0:=Tryz.zeroValue0
 t2:=Tryz.underlying2
 a2:=Tryz.isAgg2
 z2:=Tryz.sizeOf2
 v2:=Tryz.zeroValue2
 t3:=Tryz.underlying3
 a3:=Tryz.isAgg3
 z3:=Tryz.sizeOf3
 v3:=Tryz.zeroValue3
 t4:=Tryz.underlying4
 a4:=Tryz.isAgg4
 z4:=Tryz.sizeOf4
 v4:=Tryz.zeroValue4
 t5:=Tryz.underlying5
 a5:=Tryz.isAgg5
 z5:=Tryz.sizeOf5
 v5:=Tryz.zeroValue5
 t9:=Tryz.underlying9
 a9:=Tryz.isAgg9
 z9:=Tryz.sizeOf9
 v9:=Tryz.zeroValue9
 t20:=Tryz.underlying20
 a20:=Tryz.isAgg20
 z20:=Tryz.sizeOf20
 v20:=Tryz.zeroValue20
 t21:=Tryz.underlying21
 a21:=Tryz.isAgg21
 z21:=Tryz.sizeOf21
 v21:=Tryz.zeroValue21
 t37:=Tryz.underlying110
 a37:=Tryz.isAgg110
 z37:=Tryz.sizeOf110
 v37:=Tryz.zeroValue110
 t46:=Tryz.underlying246
 a46:=Tryz.isAgg246
 z46:=Tryz.sizeOf246
 v46:=Tryz.zeroValue246
 t51:=Tryz.underlying268
 a51:=Tryz.isAgg268
 z51:=Tryz.sizeOf268
 v51:=Tryz.zeroValue268
 t53:=Tryz.underlying173
 a53:=Tryz.isAgg173
 z53:=Tryz.sizeOf173
 v53:=Tryz.zeroValue173
 t75:=Tryz.underlying34
 a75:=Tryz.isAgg34
 z75:=Tryz.sizeOf34
 v75:=Tryz.zeroValue34
 t76:=Tryz.underlying159
 a76:=Tryz.isAgg159
 z76:=Tryz.sizeOf159
 v76:=Tryz.zeroValue159
 t85:=Tryz.underlying288
 a85:=Tryz.isAgg288
 z85:=Tryz.sizeOf288
 v85:=Tryz.zeroValue288
 t127:=Tryz.underlying205
 a127:=Tryz.isAgg205
 z127:=Tryz.sizeOf205
 v127:=Tryz.zeroValue205
 t143:=Tryz.underlying306
 a143:=Tryz.isAgg306
 z143:=Tryz.sizeOf306
 v143:=Tryz.zeroValue306
 t145:=Tryz.underlying308
 a145:=Tryz.isAgg308
 z145:=Tryz.sizeOf308
 v145:=Tryz.zeroValue308
 t167:=Tryz.underlying287
 a167:=Tryz.isAgg287
 z167:=Tryz.sizeOf287
 v167:=Tryz.zeroValue287
 t168:=Tryz.underlying290
 a168:=Tryz.isAgg290
 z168:=Tryz.sizeOf290
 v168:=Tryz.zeroValue290
 t171:=Tryz.underlying263
 a171:=Tryz.isAgg263
 z171:=Tryz.sizeOf263
 v171:=Tryz.zeroValue263
 t173:=Tryz.underlying266
 a173:=Tryz.isAgg266
 z173:=Tryz.sizeOf266
 v173:=Tryz.zeroValue266
 t175:=Tryz.underlying294
 a175:=Tryz.isAgg294
 z175:=Tryz.sizeOf294
 v175:=Tryz.zeroValue294
 t210:=Tryz.underlying297
 a210:=Tryz.isAgg297
 z210:=Tryz.sizeOf297
 v210:=Tryz.zeroValue297
 t212:=Tryz.underlying281
 a212:=Tryz.isAgg281
 z212:=Tryz.sizeOf281
 v212:=Tryz.zeroValue281
 t213:=Tryz.underlying282
 a213:=Tryz.isAgg282
 z213:=Tryz.sizeOf282
 t232:=Tryz.underlying299
 a232:=Tryz.isAgg299
 z232:=Tryz.sizeOf299
 v232:=Tryz.zeroValue299
 t233:=Tryz.underlying300
 a233:=Tryz.isAgg300
 z233:=Tryz.sizeOf300
 v233:=Tryz.zeroValue300
 g15:=by kernel_rfl
 g16:=by kernel_rfl
 g17:=by kernel_rfl
 g18:=by kernel_rfl
 g19:=by kernel_rfl
 t80:=Tryz.underlying114
 a80:=Tryz.isAgg114
 z80:=Tryz.sizeOf114
 v80:=Tryz.zeroValue114
 i0:=by kernel_rfl
 i2:=by kernel_rfl
 i3:=by kernel_rfl
 i4:=by kernel_rfl
 i5:=by kernel_rfl
 i9:=by kernel_rfl
 i20:=by kernel_rfl
 i21:=by kernel_rfl
 i37:=by kernel_rfl
 i46:=by kernel_rfl
 i51:=by kernel_rfl
 i53:=by kernel_rfl
 i75:=by kernel_rfl
 i76:=by kernel_rfl
 i80:=by kernel_rfl
 i85:=by kernel_rfl
 i127:=by kernel_rfl
 i143:=by kernel_rfl
 i145:=by kernel_rfl
 i167:=by kernel_rfl
 i168:=by kernel_rfl
 i171:=by kernel_rfl
 i173:=by kernel_rfl
 i175:=by kernel_rfl
 i210:=by kernel_rfl
 i212:=by kernel_rfl
 i232:=by kernel_rfl
 i233:=by kernel_rfl
 m15:=by kernel_rfl
 m16:=by kernel_rfl
 m17:=by kernel_rfl
 m18:=by kernel_rfl
 m19:=by kernel_rfl
 c0:=by kernel_rfl
 c2:=by kernel_rfl
 c3:=by kernel_rfl
 c4:=by kernel_rfl
 c5:=by kernel_rfl
 c9:=by kernel_rfl
 c20:=by kernel_rfl
 c21:=by kernel_rfl
 c37:=by kernel_rfl
 c46:=by kernel_rfl
 c51:=by kernel_rfl
 c53:=by kernel_rfl
 c75:=by kernel_rfl
 c76:=by kernel_rfl
 c80:=by kernel_rfl
 c85:=by kernel_rfl
 c127:=by kernel_rfl
 c143:=by kernel_rfl
 c145:=by kernel_rfl
 c167:=by kernel_rfl
 c168:=by kernel_rfl
 c171:=by kernel_rfl
 c173:=by kernel_rfl
 c175:=by kernel_rfl
 c210:=by kernel_rfl
 c212:=by kernel_rfl
 c213:=by kernel_rfl
 c232:=by kernel_rfl
 c233:=by kernel_rfl}
open Go.RowKit in
theorem Tryz.strconv_Atoi_err (s:ByteArray) (av:s.size≤18) (h:Lib.atoi s.data.toList=none) (kE:Value) (w:World) (bw:w.cell? ⟨2,0,none⟩=some kE) (qo:kE= .nilIface∨∃te Eg,kE= .iface te Eg):
 Calls Tryz.prog 170 #[.string s] w fun e w'=>∃N,e= .returned (.tuple #[.int .i64 0, .iface 290 (.pointer (some ⟨N,0,none⟩))])∧w.heap.size≤N∧w'.heap[N]?=some (.cells #[.string ⟨#[65,116,111,105]⟩, .string s,kE] 297 (0,0))∧Below w.heap.size w w':=Any.strconv_Atoi_err Tryz.RY s av h kE w bw qo
def Tryz.RZ:Go.Shelf.Ren:=⟨fun|99=>174|206=>212|n=>n,fun|9=>9|4=>4|3=>3|n=>n,fun|n=>n⟩
theorem Tryz.R0:Go.Proofs.Lays.n99 Tryz.prog Tryz.RZ:={
 mixed:=by kernel_rfl
 f99:=Tryz.func174.trans (congrArg some (by kernel_rfl))
 f206:=Tryz.func212.trans (congrArg some (by kernel_rfl))
 t3:=Tryz.underlying3
 a3:=Tryz.isAgg3
 z3:=Tryz.sizeOf3
 v3:=Tryz.zeroValue3
 t4:=Tryz.underlying4
 a4:=Tryz.isAgg4
 z4:=Tryz.sizeOf4
 v4:=Tryz.zeroValue4
 t9:=Tryz.underlying9
 a9:=Tryz.isAgg9
 z9:=Tryz.sizeOf9
 v9:=Tryz.zeroValue9}
open Go.RowKit Go.Lib in
theorem Tryz.strings_HasPrefix (s p:ByteArray) (w:World):
 Calls Tryz.prog 174 #[.string s, .string p] w fun e w'=>e= .returned (.bool (Lib.hasPrefix s.data.toList p.data.toList))∧w'=w:=Any.strings_HasPrefix Tryz.R0 s p w
end Go.Proofs
end
section
namespace Go.Proofs
open Go Go.bg Go.cz
def tb:h1:=[(3,⟨.int .i64,1,8,[.i .i64]⟩),
 (9,⟨.str,1,16,[.s]⟩),
 (25,⟨.st [(0,3),(1,3),(2,9),(3,22),(4,23)],5,80,[.i .i64, .i .i64, .s, .l, .l]⟩),
 (29,⟨.st [(0,3),(1,25),(6,9),(7,9),(8,26),(9,27)],10,168,[.i .i64, .i .i64, .i .i64, .s, .l, .l, .s, .s, .l, .l]⟩),
 (78,⟨.st [(0,3),(1,75),(2,76),(3,23)],4,80,[.i .i64, .l, .l, .l]⟩),
 (62,⟨.st [(0,9),(1,58),(2,59),(3,60)],4,88,[.s, .l, .l, .l]⟩),
 (23,⟨.b9 168,1,24,[.l]⟩),
 (26,⟨.b9 29,1,24,[.l]⟩),
 (27,⟨.b9 9,1,24,[.l]⟩),
 (5,⟨.int .u8,1,1,[.i .u8]⟩),
 (142,⟨.st [(0,9),(1,9),(2,140)],3,56,[.s, .s, .l]⟩),
 (165,⟨.st [(0,9),(1,9),(2,3),(3,25)],8,120,[.s, .s, .i .i64, .i .i64, .i .i64, .s, .l, .l]⟩),
 (22,⟨.b9 25,1,24,[.l]⟩),
 (168,⟨.st [(0,9),(1,25)],6,96,[.s, .i .i64, .i .i64, .s, .l, .l]⟩),
 (60,⟨.b9 145,1,24,[.l]⟩),
 (58,⟨.b9 138,1,24,[.l]⟩),
 (59,⟨.b9 142,1,24,[.l]⟩),
 (47,⟨.b9 62,1,24,[.l]⟩),
 (140,⟨.b9 144,1,24,[.l]⟩),
 (76,⟨.b9 167,1,24,[.l]⟩),
 (110,⟨.b9 5,1,24,[.l]⟩),
 (75,⟨.b9 165,1,24,[.l]⟩),
 (34,⟨.ln,1,16,[.n]⟩),
 (115,⟨.int .i64,1,8,[.i .i64]⟩),
 (51,⟨.st [(0,47),(1,49),(2,49)],3,72,[.l, .l, .l]⟩),
 (49,⟨.b9 136,1,24,[.l]⟩),
 (136,⟨.b9 3,1,24,[.l]⟩),
 (145,⟨.st [(0,9),(1,29)],11,184,[.s, .i .i64, .i .i64, .i .i64, .s, .l, .l, .s, .s, .l, .l]⟩),
 (138,⟨.st [(0,9),(1,25)],6,96,[.s, .i .i64, .i .i64, .s, .l, .l]⟩),
 (167,⟨.st [(0,3),(1,165),(9,9)],10,144,[.i .i64, .s, .s, .i .i64, .i .i64, .i .i64, .s, .l, .l, .s]⟩),
 (144,⟨.st [(0,9),(1,29)],11,184,[.s, .i .i64, .i .i64, .i .i64, .s, .l, .l, .s, .s, .l, .l]⟩),
 (122,⟨.b9 209,1,24,[.l]⟩),
 (127,⟨.st [(0,122),(1,3),(2,3),(3,34),(4,3)],5,64,[.l, .i .i64, .i .i64, .n, .i .i64]⟩),
 (134,⟨.st [(0,122),(1,3),(2,3),(3,3),(4,3)],5,56,[.l, .i .i64, .i .i64, .i .i64, .i .i64]⟩),
 (173,⟨.int .u64,1,8,[.i .u64]⟩),
 (112,⟨.st [(0,109),(1,110)],2,32,[]⟩),
 (202,⟨.st [(0,9),(1,9),(2,9),(3,3)],4,56,[.s, .s, .s, .i .i64]⟩),
 (178,⟨.mp 9 9,1,8,[.m]⟩),
 (84,⟨.ptr,1,8,[.p]⟩),
 (109,⟨.ptr,1,8,[.p]⟩),
 (150,⟨.st [(0,51)],3,72,[.l, .l, .l]⟩),
 (209,⟨.st [(0,3),(1,3),(2,9)],3,32,[.i .i64, .i .i64, .s]⟩),
 (4,⟨.bool,1,1,[.b]⟩),
 (276,⟨.st [(0,49)],1,24,[.l]⟩),
 (185,⟨.b9 184,1,24,[.l]⟩),
 (181,⟨.st [(0,178),(1,178),(2,179),(3,3),(4,4),(5,3)],6,64,[.m, .m, .l, .i .i64, .b, .i .i64]⟩),
 (204,⟨.mp 3 9,1,8,[.m]⟩),
 (184,⟨.H0,1,8,[.f]⟩),
 (205,⟨.ptr,1,8,[.p]⟩),
 (179,⟨.b9 202,1,24,[.l]⟩)]
theorem b2:fO Tryz.prog tb=true:=by decide+kernel
end Go.Proofs
end
section
namespace Go.Proofs
open Go Go.bg Go.cz
set_option maxRecDepth 100000
abbrev ar:=List UInt8
noncomputable def cT (w st s5 xs cv bs:List Nat):gW:=⟨Tryz.prog,tb,115,w,st,s5,xs,cv,bs⟩
theorem iM {α:Type} [Inhabited α] {l:List α} {i:Int} (aJ:0≤i) (ad:i<l.length):l.take (i+1).toNat=l.take i.toNat++[I l i]:=by
 have e:(i+1).toNat=i.toNat+1:=by omega
 have aM:i.toNat<l.length:=by omega
 rw [e,List.take_succ_eq_append_getElem aM]
 simp [I,List.getD_eq_getElem?_getD,aM]
theorem bF {α:Type} [Inhabited α] {l:List α} {i:Int} (aJ:0≤i) (ad:i<l.length):I l i∈l:=by
 simp only [I,List.getD_eq_getElem?_getD,List.getElem?_eq_getElem (show i.toNat<l.length by omega),Option.getD_some]
 exact List.getElem_mem _
theorem iN {α:Type} {l:List α} {i:Int} (ad:l.length≤i):l.take i.toNat=l:=List.take_of_length_le (by omega)
inductive aW where
 |mk (kind n:Int) (s:ar) (l:List aW) (f:List (ar×aW))
instance:Inhabited aW:=⟨.mk 0 0 [] [] []⟩
def aW.kind:aW→Int| .mk k _ _ _ _=>k
def aW.n:aW→Int| .mk _ n _ _ _=>n
def aW.s:aW→ar| .mk _ _ s _ _=>s
def aW.l:aW→List aW| .mk _ _ _ l _=>l
def aW.f:aW→List (ar×aW)| .mk _ _ _ _ f=>f
mutual
def cn:aW→ab
 | .mk k n s l f=> .agg [.int .i64 k, .int .i64 n, .str s, .slice false (yl l), .slice false (ym f)]
def yl:List aW→List ab
 |[]=>[]
 |v::r=>cn v::yl r
def ym:List (ar×aW)→List ab
 |[]=>[]
 |(s, .mk k n t l f)::r=> .agg [.str s, .int .i64 k, .int .i64 n, .str t, .slice false (yl l), .slice false (ym f)]::ym r
end
def cB (p:ar×aW):ab:= .agg (.str p.1::(cn p.2).cells)
theorem R1 (l:List aW):yl l=l.map cn:=by
 induction l with
 |nil=>rfl
 |cons v r aO=>simp only [yl,List.map_cons,aO]
theorem R2 (l:List (ar×aW)):ym l=l.map cB:=by
 induction l with
 |nil=>rfl
 |cons v r aO=>
  obtain ⟨s,v⟩:=v
  cases v with
  |mk k n t l f=>simp only [ym,List.map_cons,aO,cB,cn,ab.cells]
def cV (v:aW):ab:= .agg [.int .i64 v.kind, .int .i64 v.n, .str v.s, .slice false (v.l.map cn), .slice false (v.f.map cB)]
def h3 (p:ar×aW):ab:= .agg [.str p.1, .int .i64 p.2.kind, .int .i64 p.2.n, .str p.2.s, .slice false (p.2.l.map cn), .slice false (p.2.f.map cB)]
theorem h4 (v:aW):cn v=cV v:=by
 cases v with
 |mk k n s l f=>simp only [cn,cV,R1,R2,aW.kind,aW.n,aW.s,aW.l,aW.f]
theorem hT (p:ar×aW):cB p=h3 p:=by
 rw [cB,h4];rfl
mutual
def lo (cd:Int):aW→Int
 | .mk _ _ s l f=>o5 cd f (om cd l (1+s.length))
def om (cd:Int):List aW→Int→Int
 |[],n=>n
 |v::r,n=>if n≤cd then om cd r (IntKind.i64.wrap (n+lo cd v)) else n
def o5 (cd:Int):List (ar×aW)→Int→Int
 |[],n=>n
 |(s, .mk _ _ t l f)::r,n=>if n≤cd then o5 cd r (IntKind.i64.wrap (IntKind.i64.wrap (n+s.length)+o5 cd f (om cd l (1+t.length)))) else n
end
theorem R3 (cd:Int) (v:aW):lo cd v=o5 cd v.f (om cd v.l (1+v.s.length)):=by
 cases v with
 |mk k n s l f=>simp only [lo,aW.f,aW.l,aW.s]
theorem Jm (cd:Int) (p:ar×aW) (r:List (ar×aW)) (n:Int):o5 cd (p::r) n=if n≤cd then o5 cd r (IntKind.i64.wrap (IntKind.i64.wrap (n+p.1.length)+lo cd p.2)) else n:=by
 obtain ⟨s,v⟩:=p
 cases v with
 |mk k n t l f=>simp only [o5,lo]
theorem R4 (cd:Int) (l:List aW) (n:Int) (h:cd<n):om cd l n=n:=by
 cases l with
 |nil=>simp only [om]
 |cons v r=>simp only [om];rw [if_neg (by omega)]
theorem R5 (cd:Int) (l:List (ar×aW)) (n:Int) (h:cd<n):o5 cd l n=n:=by
 cases l with
 |nil=>simp only [o5]
 |cons v r=>rw [Jm,if_neg (by omega)]
theorem jQ {α:Type} [Inhabited α] {l:List α} {i:Int} (aJ:0≤i) (ad:i<l.length):l.drop i.toNat=I l i::l.drop (i+1).toNat:=by
 have h:i.toNat<l.length:=by omega
 have e:(i+1).toNat=i.toNat+1:=by omega
 rw [List.drop_eq_getElem_cons h,e]
 simp [I,List.getD_eq_getElem?_getD,h]
mutual
def bI:aW→Nat
 | .mk _ _ _ l f=>lV l+mB f+1
def lV:List aW→Nat
 |[]=>0
 |v::r=>bI v+lV r
def mB:List (ar×aW)→Nat
 |[]=>0
 |(_, .mk _ _ _ l f)::r=>lV l+mB f+1+mB r
end
theorem hH {l:List aW} {v:aW} (h:v∈l):bI v≤lV l:=by
 induction l with
 |nil=>cases h
 |cons a r aO=>
  simp only [lV]
  rcases List.mem_cons.1 h with rfl|h
  · omega
  · have:=aO h;omega
theorem hI {l:List (ar×aW)} {p:ar×aW} (h:p∈l):bI p.2≤mB l:=by
 induction l with
 |nil=>cases h
 |cons a r aO=>
  obtain ⟨s,v⟩:=a
  cases v with
  |mk k n t l f=>
   simp only [mB]
   rcases List.mem_cons.1 h with rfl|h
   · simp only [bI];omega
   · have:=aO h;omega
theorem ha (v:aW):bI v=lV v.l+mB v.f+1:=by
 cases v with
 |mk k n s l f=>simp only [bI,aW.l,aW.f]
set_option maxHeartbeats 4000000 in
theorem R6 (v:aW) (cd:Int) (aO:∀w:aW,bI w<bI v→∀(m:ae) (K:ab→ae→Prop),K (.int .i64 (lo cd w)) m→bh Tryz.prog 71 [cV w, .int .i64 cd] m K) (m:ae) (K:ab→ae→Prop) (U:K (.int .i64 (lo cd v)) m):bh Tryz.prog 71 [cV v, .int .i64 cd] m K:=by
 refine enter (c:=cT [32,53,62] [0] [3,7] [] [] []) (vs:=[.aI (cV v), .aI (.int .i64 cd)]) (L:=[]) (m:=m) false b2 Tryz.mixed Tryz.func71 rfl (k:=2) (by show cO [] _ _ _=true;decide+kernel) rfl (Good.nil m) ?_
 refine ⟨fun bJ=>?_⟩
 have o6:v.s.length≤140737488355328:=(bJ 0 2 (Nat.le_of_ble_eq_true rfl))
 have kq:v.l.length≤140737488355328:=dr (bJ 0 3 (Nat.le_of_ble_eq_true rfl))
 have mC:v.f.length≤140737488355328:=dr (bJ 0 4 (Nat.le_of_ble_eq_true rfl))
 refine ag (by omega) ?_
 refine aB ?_
 refine cH (σ:=Int×Int) [] [1,2,5,6] 1 (fun ⟨eX,i⟩=>([(1,ax cd),(2, .loc 0 0),(5,ax eX),(6,ax i)],[.cells [ax v.kind,ax v.n,ay v.s,aH (v.l.map cn),aH (v.f.map cB)]],m)) (fun ⟨eX,i⟩=>0≤i∧i≤v.l.length∧om cd v.l (1+v.s.length)=om cd (v.l.drop i.toNat) eX) (fun ⟨eX,i⟩=>v.l.length- i.toNat) (1+(v.s.length:Int),0) ⟨rfl,rfl⟩ ?_ ?_
 · try dsimp only
   exact ⟨by omega,by omega,rfl⟩
 rintro ⟨eX,i⟩ aE
 dsimp only at aE
 refine aB ?_
 refine cf [1,2,5,6] 21 ((decide (i<(v.l.length:Int)))&&(decide (eX≤cd))) ?_ ?_
 · repeat' first
    |exact ⟨⟨_,rfl,by grind [bD.val]⟩,rfl⟩
    |refine ag (fun _=>?_) (fun _=>?_)
    |refine bN ?_
 refine ag (fun J=>?_) (fun J=>?_)
 · replace J:(i<(v.l.length:Int))∧(eX≤cd):=⟨(of_decide_eq_true (dH J)),(of_decide_eq_true (eA J))⟩
   refine aB ?_
   refine fc cV h4 (by omega) ?_
   refine cG (fun _=>aO (I v.l i) (by have:=ha v;first|(have:=hH (bF (l:=v.l) (i:=i) aE.1 J.1);omega)|(have:=hI (bF (l:=v.f) (i:=k) bK.1 aa.1);omega))) rfl ?_
   refine ag (by omega) ?_
   refine ⟨(IntKind.i64.wrap (eX+(lo cd (I v.l i))),i+1),⟨rfl,rfl⟩,?_,?_⟩
   · try dsimp only
     refine ⟨by omega,by omega,?_⟩
     rw [aE.2.2,jQ aE.1 J.1]
     simp only [om]
     rw [if_pos J.2]
   try dsimp only
   omega
 replace J:((v.l.length:Int)≤i)∨(cd<eX):=((eB J).imp (fun q=>(Int.not_lt.1 (of_decide_eq_false q))) (fun q=>(Int.not_le.1 (of_decide_eq_false q))))
 refine aB ?_
 refine cH (σ:=Int×Int) [] [1,2,5,7] 1 (fun ⟨fw,k⟩=>([(1,ax cd),(2, .loc 0 0),(5,ax fw),(7,ax k)],[.cells [ax v.kind,ax v.n,ay v.s,aH (v.l.map cn),aH (v.f.map cB)]],m)) (fun ⟨fw,k⟩=>0≤k∧k≤v.f.length∧lo cd v=o5 cd (v.f.drop k.toNat) fw) (fun ⟨fw,k⟩=>v.f.length- k.toNat) (eX,0) ⟨rfl,rfl⟩ ?_ ?_
 · try dsimp only
   refine ⟨by omega,by omega,?_⟩
   have e:om cd (v.l.drop i.toNat) eX=eX:=by
    by_cases aM:cd<eX
    · exact R4 _ _ _ aM
    · have ad:(v.l.length:Int)≤i:=by
       rcases J with h|h<;>omega
      rw [List.drop_eq_nil_of_le (by omega)];simp only [om]
   rw [R3,aE.2.2,e];rfl
 rintro ⟨fw,k⟩ bK
 dsimp only at bK
 refine aB ?_
 refine cf [1,2,5,7] 42 ((decide (k<(v.f.length:Int)))&&(decide (fw≤cd))) ?_ ?_
 · repeat' first
    |exact ⟨⟨_,rfl,by grind [bD.val]⟩,rfl⟩
    |refine ag (fun _=>?_) (fun _=>?_)
    |refine bN ?_
 refine ag (fun aa=>?_) (fun aa=>?_)
 · replace aa:(k<(v.f.length:Int))∧(fw≤cd):=⟨(of_decide_eq_true (dH aa)),(of_decide_eq_true (eA aa))⟩
   refine aB ?_
   refine fc h3 hT (by omega) ?_
   refine fc h3 hT (by omega) ?_
   refine gN (fun _=>aO ((I v.f k).2) (by have:=ha v;first|(have:=hH (bF (l:=v.l) (i:=i) aE.1 J.1);omega)|(have:=hI (bF (l:=v.f) (i:=k) bK.1 aa.1);omega))) ?_
   refine ag (by omega) ?_
   refine ⟨(IntKind.i64.wrap ((IntKind.i64.wrap (fw+(((I v.f k).1).length:Int)))+(lo cd ((I v.f k).2))),k+1),⟨rfl,rfl⟩,?_,?_⟩
   · try dsimp only
     exact ⟨by omega,by omega,by rw [bK.2.2,jQ bK.1 aa.1,Jm,if_pos aa.2]⟩
   try dsimp only
   omega
 replace aa:((v.f.length:Int)≤k)∨(cd<fw):=((eB aa).imp (fun q=>(Int.not_lt.1 (of_decide_eq_false q))) (fun q=>(Int.not_le.1 (of_decide_eq_false q))))
 refine bn rfl fun _=>?_
 show K (.int .i64 fw) m
 have e:lo cd v=fw:=by
  rw [bK.2.2]
  by_cases aM:cd<fw
  · exact R5 _ _ _ aM
  · have ad:(v.f.length:Int)≤k:=by
     rcases aa with h|h<;>omega
    rw [List.drop_eq_nil_of_le (by omega)];simp only [o5]
 rw [e] at U;exact U
theorem Ek (cd:Int):∀(n:Nat) (v:aW),bI v<n→∀(m:ae) (K:ab→ae→Prop),K (.int .i64 (lo cd v)) m→bh Tryz.prog 71 [cV v, .int .i64 cd] m K
 |0,_,h=>absurd h (Nat.not_lt_zero _)
 |n+1,v,h=>fun m K U=>R6 v cd (fun w hw=>Ek cd n w (by omega)) m K U
end Go.Proofs
end
section
namespace Go.Proofs
open Go Go.bg Go.cz
set_option maxRecDepth 100000
theorem R7 (l:List aW):l.length≤lV l:=by
 induction l with
 |nil=>exact Nat.le_refl _
 |cons v r aO=>have:=ha v;simp only [lV,List.length_cons];omega
theorem R8 (l:List (ar×aW)):l.length≤mB l:=by
 induction l with
 |nil=>exact Nat.le_refl _
 |cons p r aO=>
  obtain ⟨s,v⟩:=p
  cases v with
  |mk k n t l f=>simp only [mB,List.length_cons];omega
def mD (c:UInt8):Bool:=decide (97≤(c.toNat:Int))&&decide ((c.toNat:Int)≤122)
def mE (c:UInt8):Bool:=decide (48≤(c.toNat:Int))&&decide ((c.toNat:Int)≤57)
def mF:ar→Bool→Bool
 |[],_=>true
 |c::r,first=>(mD c||(!first&&mE c))&&mF r false
def cu (s:ar):Bool:=mF s true&&!(s==[])&&decide ((s.length:Int)≤12)
theorem vt {s:ar} {i:Int} (aJ:0≤i) (ad:i<s.length):mF (s.drop i.toNat) (i==0)=((mD (I s i)||(!(i==0)&&mE (I s i)))&&mF (s.drop (i+1).toNat) (i+1==0)):=by
 have e:(i+1==0)=false:=by simp;omega
 rw [jQ aJ ad,mF,e]
set_option maxHeartbeats 2000000 in
theorem rT (s:ar) (aw:s.length≤140737488355328) (m:ae) (K:ab→ae→Prop) (U:K (.bool (cu s)) m):bh Tryz.prog 77 [.str s] m K:=by
 refine enter (c:=cT [] [] [5,8] [] [] []) (vs:=[.aI (.str s)]) (L:=[]) (m:=m) false b2 Tryz.mixed Tryz.func77 rfl (k:=1) (by show cO [] _ _ _=true;decide+kernel) rfl (Good.nil m) ?_
 refine aB ?_
 refine cH (σ:=Int) [] [0,6,7] 0 (fun i=>([(0,ay s),(6,ax (s.length:Int)),(7,ax i)],[],m)) (fun i=>0≤i∧i≤s.length∧mF s true=mF (s.drop i.toNat) (i==0)) (fun i=>s.length- i.toNat) (0) ⟨rfl,rfl⟩ ?_ ?_
 · try dsimp only
   exact ⟨by omega,by omega,by simp⟩
 rintro i aE
 refine aB ?_
 refine ag (fun J=>?_) (fun J=>?_)
 · refine aB ?_
   refine ag (by omega) ?_
   refine cf [0,6,7] 30 (((decide (((I s i).toNat:Int)<97))||(decide (122<((I s i).toNat:Int))))&&(((i==0)||(decide (((I s i).toNat:Int)<48)))||(decide (57<((I s i).toNat:Int))))) ?_ ?_
   · repeat' first
      |exact ⟨⟨_,rfl,by grind [bD.val]⟩,rfl⟩
      |refine ag (fun _=>?_) (fun _=>?_)
   refine ag (fun aa=>?_) (fun aa=>?_)
   · replace aa:((((I s i).toNat:Int)<97)∨(122<((I s i).toNat:Int)))∧(((i=0)∨(((I s i).toNat:Int)<48))∨(57<((I s i).toNat:Int))):=⟨((dq (dH aa)).imp (fun q=>(of_decide_eq_true q)) (fun q=>(of_decide_eq_true q))),((dq (eA aa)).imp (fun q=>((dq q).imp (fun q=>(eq_of_beq q)) (fun q=>(of_decide_eq_true q)))) (fun q=>(of_decide_eq_true q)))⟩
     refine bn rfl fun _=>cL U ?_
     show ab.bool (cu s)=ab.bool false
     refine congrArg ab.bool ?_
     have ah:(mD (I s i)||(!(i==0)&&mE (I s i)))=false:=by
      rw [Bool.eq_false_iff];intro aC;simp [mD,mE] at aC;omega
     rw [cu,aE.2.2,vt aE.1 J,ah];rfl
   replace aa:((97≤((I s i).toNat:Int))∧(((I s i).toNat:Int)≤122))∨(((i≠0)∧(48≤((I s i).toNat:Int)))∧(((I s i).toNat:Int)≤57)):=((eB aa).imp (fun q=>⟨(Int.not_lt.1 (of_decide_eq_false (cb q))),(Int.not_lt.1 (of_decide_eq_false (dp q)))⟩) (fun q=>⟨⟨(ne_of_beq_false (cb (cb q))),(Int.not_lt.1 (of_decide_eq_false (dp (cb q))))⟩,(Int.not_lt.1 (of_decide_eq_false (dp q)))⟩))
   refine ag (by omega) ?_
   refine ⟨(i+1),⟨rfl,rfl⟩,?_,?_⟩
   · try dsimp only
     have ah:(mD (I s i)||(!(i==0)&&mE (I s i)))=true:=by simp [mD,mE];omega
     exact ⟨by omega,by omega,by rw [aE.2.2,vt aE.1 J,ah];rfl⟩
   try dsimp only
   omega
 refine cf [] 2 ((!(s==([])))&&(decide ((s.length:Int)≤12))) ?_ ?_
 · repeat' first
    |exact ⟨⟨_,rfl,by grind [bD.val]⟩,rfl⟩
    |refine ag (fun _=>?_) (fun _=>?_)
 refine bn rfl fun _=>cL U ?_
 show ab.bool (cu s)=ab.bool ((!(s==([])))&&(decide ((s.length:Int)≤12)))
 refine congrArg ab.bool ?_
 have aT:mF s true=true:=by rw [aE.2.2,List.drop_eq_nil_of_le (by omega)];rfl
 rw [cu,aT];cases s<;>simp
mutual
def okV:aW→Prop
 | .mk _ _ _ l f=>(l.length≤1759218604441∧f.length≤1466015503701)∧tj l∧tk f
def tj:List aW→Prop
 |[]=>True
 |v::r=>okV v∧tj r
def tk:List (ar×aW)→Prop
 |[]=>True
 |(_, .mk _ _ _ l f)::r=>((l.length≤1759218604441∧f.length≤1466015503701)∧tj l∧tk f)∧tk r
end
theorem R9 (v:aW):okV v↔(v.l.length≤1759218604441∧v.f.length≤1466015503701)∧tj v.l∧tk v.f:=by
 cases v with
 |mk k n s l f=>simp only [okV,aW.l,aW.f]
theorem Sa (l:List aW):tj l↔∀v∈l,okV v:=by
 induction l with
 |nil=>simp [tj]
 |cons v r aO=>simp [tj,aO]
theorem Sb (l:List (ar×aW)):tk l↔∀p∈l,okV p.2:=by
 induction l with
 |nil=>simp [tk]
 |cons p r aO=>
  obtain ⟨s,v⟩:=p
  cases v with
  |mk k n t l f=>simp [tk,okV,aO]
theorem Jn (v:aW):okV v↔(v.l.length≤1759218604441∧v.f.length≤1466015503701)∧(∀w∈v.l,okV w)∧∀p∈v.f,okV p.2:=by
 rw [R9,Sa,Sb]
theorem AG:∀(n:Nat) (v:aW),bI v<n→bI v≤1000000000→okV v
 |0,_,h,_=>absurd h (Nat.not_lt_zero _)
 |n+1,v,h,ak=>by
  have e:=ha v
  have J:=R7 v.l
  have aa:=R8 v.f
  rw [Jn]
  exact ⟨⟨by omega,by omega⟩,fun w hw=>AG n w (by have:=hH hw;omega) (by have:=hH hw;omega),fun p aQ=>AG n p.2 (by have:=hI aQ;omega) (by have:=hI aQ;omega)⟩
end Go.Proofs
end
section
namespace Go.Proofs
open Go Go.bg Go.cz
set_option maxRecDepth 100000
set_option maxHeartbeats 4000000 in
theorem Sc (v:aW) (ak:okV v) (aO:∀w:aW,bI w<bI v→okV w→∀(m:ae) (K:ab→ae→Prop),K (cV w) m→bh Tryz.prog 63 [cV w] m K) (m:ae) (K:ab→ae→Prop) (U:K (cV v) m):bh Tryz.prog 63 [cV v] m K:=by
 have dc:=(Jn v).1 ak
 have Ay:=dc.1.1
 have W1:=dc.1.2
 refine enter (c:=cT [] [] [] [6999,11999] [6,11] []) (vs:=[.aI (cV v)]) (L:=[]) (m:=m) false b2 Tryz.mixed Tryz.func63 rfl (k:=1) (by show cO [6999,11999] _ _ _=true;decide+kernel) rfl (Good.nil m) ?_
 refine aB ?_
 refine bN ?_
 refine cH (σ:=Int×(List aW)) [] [1,2,4,15,16,17] 2 (fun ⟨i,ol⟩=>([(1, .loc 0 0),(2, .loc 1 0),(4,aH (v.f.map cB)),(15,aH (v.l.map cn)),(16,ax (v.l.length:Int)),(17,ax i)],[.cells [ax v.kind,ax v.n,ay v.s, .own (ol.map cn), .own []], .cells [ax 0,ax 0,ay ([]), .own [], .own []]],m)) (fun ⟨i,ol⟩=>0≤i∧i≤v.l.length∧ol=v.l.take i.toNat) (fun ⟨i,ol⟩=>v.l.length- i.toNat) (0,[]) ⟨rfl,rfl⟩ ?_ ?_
 · try dsimp only
   exact ⟨by omega,by omega,rfl⟩
 rintro ⟨i,ol⟩ aE
 dsimp only at aE
 have zm:ol.length≤v.l.length:=by rw [aE.2.2,List.length_take];omega
 have W2:(ol.length:Int)≤i:=by rw [aE.2.2,List.length_take];omega
 refine aB ?_
 refine ag (fun J=>?_) (fun J=>?_)
 · refine aB ?_
   refine fc cV h4 (by omega) ?_
   refine hS b2 Tryz.mixed (σ:=Unit) (.f 0 (.o 1 (.s 2 (.s 3 (.s 4 (.s 5 (.f 6 (.s 7 .d)))))) (.o 2 (.o 1 (.s 3 (.s 4 (.s 5 (.f 6 (.s 7 .d))))) (.o 3 (.o 1 (.s 4 (.s 5 (.f 6 (.s 7 .d)))) (.o 4 (.s 1 (.s 5 (.f 6 (.s 7 .d)))) .z)) .z)) .z))) [] [1,2,4,15,16,17] 3 (fun _=>([(1, .loc 0 0),(2, .loc 1 0),(4,aH (v.f.map cB)),(15,aH (v.l.map cn)),(16,ax (v.l.length:Int)),(17,ax i)],[.cells [ax v.kind,ax v.n,ay v.s, .own ((ol++([(I v.l i)]:List aW)).map cn), .own []], .cells [ax 0,ax 0,ay ([]), .own [], .own []], .cells [ax ((I v.l i).kind),ax ((I v.l i).n),ay ((I v.l i).s),aH (((I v.l i).l).map cn),aH (((I v.l i).f).map cB)]],m)) (fun _=>True) (by decide+kernel) ?_ ?_
   · rintro _ El
     try dsimp only at El
     refine ag (by omega) ?_
     refine ⟨(i+1,ol++([(I v.l i)]:List aW)),⟨rfl,rfl⟩,?_,?_⟩
     · try dsimp only
       exact ⟨by omega,by omega,by rw [iM aE.1 (by assumption),←aE.2.2]⟩
     try dsimp only
     omega
   repeat' first
    |refine ⟨(),⟨rfl,rfl⟩,trivial⟩
    |refine cG (fun _=>aO (I v.l i) (by have:=ha v;first|(have:=hH (bF (l:=v.l) (i:=i) aE.1 (by assumption));omega)|(have:=hI (bF (l:=v.f) (i:=k) bK.1 (by assumption));omega)) (by first|exact dc.2.1 _ (bF (l:=v.l) (i:=i) aE.1 (by assumption))|exact dc.2.2 _ (bF (l:=v.f) (i:=k) bK.1 (by assumption)))) rfl ?_
    |refine ap cn ol ([(I v.l i)]:List aW) rfl (by simp only [List.map_cons,List.map_nil,h4];try rfl) (fun a=>by rw [h4];exact ⟨rfl,rfl⟩) (by (simp only [List.length_append,List.length_cons,List.length_nil];omega)) ?_
    |refine ⟨?_,?_,trivial⟩
 refine aB ?_
 refine bN ?_
 refine cH (σ:=Int×(List (ar×aW))) [] [1,2,29,30,31] 2 (fun ⟨k,of⟩=>([(1, .loc 0 0),(2, .loc 1 0),(29,aH (v.f.map cB)),(30,ax (v.f.length:Int)),(31,ax k)],[.cells [ax v.kind,ax v.n,ay v.s, .own (ol.map cn), .own (of.map cB)], .cells [ax 0,ax 0,ay ([]), .own [], .own []]],m)) (fun ⟨k,of⟩=>0≤k∧k≤v.f.length∧of=v.f.take k.toNat) (fun ⟨k,of⟩=>v.f.length- k.toNat) (0,[]) ⟨rfl,rfl⟩ ?_ ?_
 · try dsimp only
   exact ⟨by omega,by omega,rfl⟩
 rintro ⟨k,of⟩ bK
 dsimp only at bK
 have W3:of.length≤v.f.length:=by rw [bK.2.2,List.length_take];omega
 have W4:(of.length:Int)≤k:=by rw [bK.2.2,List.length_take];omega
 refine aB ?_
 refine ag (fun aa=>?_) (fun aa=>?_)
 · refine aB ?_
   refine fc h3 hT (by omega) ?_
   refine hS b2 Tryz.mixed (σ:=Unit) (.f 0 (.f 2 (.f 4 (.o 1 (.o 3 (.s 5 (.s 6 (.s 7 (.s 8 (.s 9 (.f 10 (.s 11 .d))))))) (.o 5 (.o 3 (.s 6 (.s 7 (.s 8 (.s 9 (.f 10 (.s 11 .d)))))) (.o 6 (.s 3 (.s 7 (.s 8 (.s 9 (.f 10 (.s 11 .d)))))) .z)) .z)) (.o 3 (.o 1 (.s 5 (.s 6 (.s 7 (.s 8 (.s 9 (.f 10 (.s 11 .d))))))) (.o 5 (.o 1 (.s 6 (.s 7 (.s 8 (.s 9 (.f 10 (.s 11 .d)))))) (.o 6 (.o 1 (.s 7 (.s 8 (.s 9 (.f 10 (.s 11 .d))))) (.o 7 (.o 1 (.s 8 (.s 9 (.f 10 (.s 11 .d)))) (.o 8 (.s 1 (.s 9 (.f 10 (.s 11 .d)))) .z)) .z)) .z)) .z)) (.o 5 (.o 1 (.o 3 (.s 6 (.s 7 (.s 8 (.s 9 (.f 10 (.s 11 .d)))))) (.o 6 (.s 3 (.s 7 (.s 8 (.s 9 (.f 10 (.s 11 .d)))))) .z)) (.o 3 (.o 1 (.s 6 (.s 7 (.s 8 (.s 9 (.f 10 (.s 11 .d)))))) (.o 6 (.o 1 (.s 7 (.s 8 (.s 9 (.f 10 (.s 11 .d))))) (.o 7 (.o 1 (.s 8 (.s 9 (.f 10 (.s 11 .d)))) (.o 8 (.s 1 (.s 9 (.f 10 (.s 11 .d)))) .z)) .z)) .z)) (.o 6 (.o 1 (.s 3 (.s 7 (.s 8 (.s 9 (.f 10 (.s 11 .d)))))) (.o 3 (.o 1 (.s 7 (.s 8 (.s 9 (.f 10 (.s 11 .d))))) (.o 7 (.o 1 (.s 8 (.s 9 (.f 10 (.s 11 .d)))) (.o 8 (.s 1 (.s 9 (.f 10 (.s 11 .d)))) .z)) .z)) .z)) .z))) .z)))))) [] [1,2,29,30,31] 3 (fun _=>([(1, .loc 0 0),(2, .loc 1 0),(29,aH (v.f.map cB)),(30,ax (v.f.length:Int)),(31,ax k)],[.cells [ax v.kind,ax v.n,ay v.s, .own (ol.map cn), .own ((of++([(I v.f k)]:List (ar×aW))).map cB)], .cells [ax 0,ax 0,ay ([]), .own [], .own []], .cells [ay ((I v.f k).1),ax (((I v.f k).2).kind),ax (((I v.f k).2).n),ay (((I v.f k).2).s),aH ((((I v.f k).2).l).map cn),aH ((((I v.f k).2).f).map cB)]],m)) (fun _=>True) (by decide+kernel) ?_ ?_
   · rintro _ e9
     try dsimp only at e9
     refine ag (by omega) ?_
     refine ⟨(k+1,of++([(I v.f k)]:List (ar×aW))),⟨rfl,rfl⟩,?_,?_⟩
     · try dsimp only
       exact ⟨by omega,by omega,by rw [iM bK.1 (by assumption),←bK.2.2]⟩
     try dsimp only
     omega
   repeat' first
    |refine ⟨(),⟨rfl,rfl⟩,trivial⟩
    |refine cG (fun _=>aO ((I v.f k).2) (by have:=ha v;first|(have:=hH (bF (l:=v.l) (i:=i) aE.1 (by assumption));omega)|(have:=hI (bF (l:=v.f) (i:=k) bK.1 (by assumption));omega)) (by first|exact dc.2.1 _ (bF (l:=v.l) (i:=i) aE.1 (by assumption))|exact dc.2.2 _ (bF (l:=v.f) (i:=k) bK.1 (by assumption)))) rfl ?_
    |refine ap cB of ([(I v.f k)]:List (ar×aW)) rfl (by simp only [List.map_cons,List.map_nil,hT];try rfl) (fun a=>by rw [hT];exact ⟨rfl,rfl⟩) (by (simp only [List.length_append,List.length_cons,List.length_nil];omega)) ?_
    |refine ⟨?_,?_,?_,trivial⟩
    |refine ⟨?_,?_,trivial⟩
 refine bn rfl fun _=>?_
 show K (.agg [.int .i64 v.kind, .int .i64 v.n, .str v.s, .slice false (ol.map cn), .slice false (of.map cB)]) m
 have cq:ol=v.l:=by have:=aE.2.2;rwa [iN (by omega)] at this
 have bl:of=v.f:=by have:=bK.2.2;rwa [iN (by omega)] at this
 rw [cq,bl]
 exact U
theorem Jo:∀(n:Nat) (v:aW),bI v<n→okV v→∀(m:ae) (K:ab→ae→Prop),K (cV v) m→bh Tryz.prog 63 [cV v] m K
 |0,_,h,_=>absurd h (Nat.not_lt_zero _)
 |n+1,v,h,ak=>fun m K U=>Sc v ak (fun w hw Sd=>Jo n w (by omega) Sd) m K U
theorem Jp (v:aW) (ak:okV v) (m:ae) (K:ab→ae→Prop) (U:K (cV v) m):bh Tryz.prog 63 [cV v] m K:=Jo (bI v+1) v (Nat.lt_succ_self _) ak m K U
end Go.Proofs
end
