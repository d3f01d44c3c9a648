/-
  The abstract layer, part 9: what keeps frames and memory where a step takes, makes and writes.
-/
import Derived.Test.YtnahenbiipdlkaaGreatDoorWwH
import Derived.Great.BuildSlice
import Derived.ProofKit
import Derived.Below
import Derived.ChangeSame
import Derived.Carry
section
namespace Go.ba
open Go
section
variable {P:Program} {F:Nat→Prop} {lim lim':Nat→Nat} {w w':World} {n:Nat} {fr:Fr} {m:ae} {ca:Act} {bE:List Nat}
theorem bc.KK (h:bc F lim w n fr m ca bE) {zc:List Nat} (aI:zc.Nodup) (al:∀c∈zc,c∈bE):bc F lim w n fr m ca zc:=by
 obtain ⟨os,cP,bW,h⟩:=h
 exact ⟨os,cP,bW,h.size,h.defers,h.ez,h.mem,h.fc,h.ed,⟨aI,fun c ar=>h.fW.2 c (al c ar)⟩,h.free,h.fresh⟩
theorem bc.KL (h:bc F lim w n fr m ca bE):bE.Nodup:=by
 obtain ⟨os,cP,bW,h⟩:=h
 exact h.fW.1
theorem bc.KM (h:bc F lim w n fr m ca bE):∀c∈bE,¬F c∧m c=none∧c<w.heap.size:=by
 obtain ⟨os,cP,bW,h⟩:=h
 exact fun c ar=>h.free c (by rw [h.fW.2 c ar];simp)
theorem Dj {os:Nat→List Nat} {n:Nat} (h:((List.range n).flatMap os).Nodup):(∀i,i<n→(os i).Nodup)∧∀i j c,i<n→j<n→c∈os i→c∈os j→i=j:=by
 induction n with
 |zero=>exact ⟨fun i ad=>absurd ad (Nat.not_lt_zero _),fun i j c ad=>absurd ad (Nat.not_lt_zero _)⟩
 |succ n aQ=>
  rw [List.range_succ,List.flatMap_append,List.nodup_append] at h
  obtain ⟨J,aa,ai⟩:=h
  obtain ⟨i1,i2⟩:=aQ J
  simp only [List.flatMap_cons,List.flatMap_nil,List.append_nil] at aa ai
  have aq:∀i c,i<n→c∈os i→c∈os n→False:=fun i c ad ar aI=>ai c (List.mem_flatMap.2 ⟨i,by simpa using ad,ar⟩) c aI rfl
  refine ⟨fun i ad=>?_,fun i j c ad aA zd ze=>?_⟩
  · by_cases e:i=n
    · subst e;exact aa
    · exact i1 i (by omega)
  · by_cases e:i=n<;>by_cases cD:j=n
    · omega
    · subst e;exact (aq j c (by omega) ze zd).elim
    · subst cD;exact (aq i c (by omega) zd ze).elim
    · exact i2 i j c (by omega) (by omega) zd ze
theorem Dk {os:Nat→List Nat} {n c:Nat}:c∈(List.range n).flatMap os↔∃i,i<n∧c∈os i:=by
 simp [List.mem_flatMap]
theorem zf {v:Value} {x:U} {os:List Nat} (h:aP w lim v x os) (aq:x.dy=true):∃oss:Nat→List Nat,v.cells.size=x.cells.length∧(∀i,i<x.cells.length→aP w lim (v.cells.getD i undef) (x.cells.getD i .aS) (oss i))∧
 os=(List.range x.cells.length).flatMap oss:=by
 have single:∀(v:Value) (x:U) (os:List Nat),aP w lim v x os→v.cells=#[v]→x.cells=[x]→∃oss:Nat→List Nat,v.cells.size=x.cells.length∧(∀i,i<x.cells.length→aP w lim (v.cells.getD i undef) (x.cells.getD i .aS) (oss i))∧
  os=(List.range x.cells.length).flatMap oss:=fun v x os h bn ar=>by
  refine ⟨fun _=>os,by simp [bn,ar],fun i ad=>?_,by simp [ar,List.range_succ]⟩
  have:i=0:=by simp [ar] at ad;exact ad
  subst this
  simpa [bn,ar] using h
 cases h with
 |agg cs xs oss al au=>exact ⟨oss,al,au,rfl⟩
 |tuple cs xs oss al au=>simp [U.dy] at aq
 |nC v x os h=>simp [U.dy] at aq
 |lx x=>simp [U.dy] at aq
 |aS v=>simp [U.dy] at aq
 |bool b=>exact single _ _ _ (.bool b) rfl rfl
 |int k n bw ad=>exact single _ _ _ (.int k n bw ad) rfl rfl
 |str s h=>exact single _ _ _ (.str s h) rfl rfl
 |ptr a=>exact single _ _ _ (.ptr a) rfl rfl
 |eM=>exact single _ _ _ .eM rfl rfl
 |ref b off l cv J aa ai=>exact single _ _ _ (.ref b off l cv J aa ai) rfl rfl
 |fL own=>exact single _ _ _ (.fL own) rfl rfl
 |empty a cap hm=>exact single _ _ _ (.empty a cap hm) rfl rfl
 |slice b off n cap sz l cv J aa ai aJ aY bG c7 cV=>exact single _ _ _ (.slice b off n cap sz l cv J aa ai aJ aY bG c7 cV) rfl rfl
 |own b n cap sz l cv cur e J aa ai aJ aY bG c7 cV cU eI fF=>exact single _ _ _ (.own b n cap sz l cv cur e J aa ai aJ aY bG c7 cV cU eI fF) rfl rfl
 |ms a len cap J aa=>exact single _ _ _ (.ms a len cap J aa) rfl rfl
 |map b=>exact single _ _ _ (.map b) rfl rfl
 |iW=>exact single _ _ _ .iW rfl rfl
 |func fn f c bE dK J aa ai aJ=>exact single _ _ _ (.func fn f c bE dK J aa ai aJ) rfl rfl
 |jF=>exact single _ _ _ .jF rfl rfl
 |nz a=>exact single _ _ _ (.nz a) rfl rfl
 |iface t v x h=>exact single _ _ _ (.iface t v x h) rfl rfl
 |nilIface=>exact single _ _ _ .nilIface rfl rfl
 |lu t=>exact single _ _ _ (.lu t) rfl rfl
 |iX t e h bw ad=>exact single _ _ _ (.iX t e h bw ad) rfl rfl
 |nA=>exact single _ _ _ .nA rfl rfl
 |nB t v=>exact single _ _ _ (.nB t v) rfl rfl
theorem KN {v:Value} {x:U} {os:List Nat} (h:aP w lim v x os) (aq:x.one=true):v.oneCell'=true:=by
 cases h<;>first|rfl|simp [U.one] at aq
theorem bc.Dl (h:bc F lim w n fr m ca bE) {b off:Nat} {l xs:List U} {vs:List Value} {cs:Array Value} {e:TypeId} {oss:Nat→List Nat} (hm:m b=some (.cells l)) (ag:w.heap[b]?=some (.cells cs e (0,0)))
 (av:off+xs.length≤l.length) (bn:vs.length=xs.length) (au:∀i,i<xs.length→aP w lim (vs.getD i undef) (xs.getD i .aS) (oss i)) (wJ:bE=(List.range xs.length).flatMap oss):
 bc F lim (w.setRow b (cs.toList.take off++vs++cs.toList.drop (off+vs.length)).toArray) n fr (m.cQ b (some (.cells (l.take off++xs++l.drop (off+xs.length))))) ca []∧
 dL F w lim (w.setRow b (cs.toList.take off++vs++cs.toList.drop (off+vs.length)).toArray) lim:=by
 obtain ⟨os,cP,bW,h⟩:=h
 have gY:=h.mem b _ hm
 obtain ⟨wK,fb,fM⟩:=gY
 have mh:cs.size=l.length:=by
  cases wK with
  |cells kH cD bC _ fv al kc=>rw [ag] at fv;cases fv;exact al
 have KO:∀i,i<l.length→aP w lim (cs.getD i undef) (l.getD i .aS) (cP b i):=by
  cases wK with
  |cells kH cD bC _ fv al kc=>rw [ag] at fv;cases fv;exact kc
 have hi:bE.Nodup:=h.fW.1
 rw [wJ] at hi
 obtain ⟨KP,KQ⟩:=Dj hi
 have Dm:∀c,c∈bE↔∃i,i<xs.length∧c∈oss i:=fun c=>by rw [wJ];exact Dk
 generalize hw:w.setRow b (cs.toList.take off++vs++cs.toList.drop (off+vs.length)).toArray=fD
 have oo:∀k,k≠b→fD.heap[k]?=w.heap[k]?:=fun k ak=>by rw [←hw];exact setRow_other w b k _ ak
 have wL:fD.heap[b]?=some (.cells (cs.toList.take off++vs++cs.toList.drop (off+vs.length)).toArray e (0,0)):=by rw [←hw];exact setRow_heap w b cs _ e (0,0) ag
 have ui:fD.heap.size=w.heap.size:=by rw [←hw];simp
 have jH:∀k o,o<lim k→fD.cell? ⟨k,o,none⟩=w.cell? ⟨k,o,none⟩:=fun k o aL=>by
  have:k≠b:=fun e=>by subst e;omega
  simp [World.cell?,oo k this]
 have KR:dL F w lim fD lim:=⟨by rw [←hw];rfl,by rw [←hw];rfl,by rw [←hw];rfl,by rw [ui];exact Nat.le_refl _,fun k ak=>⟨oo k (fun e=>by subst e;exact fM ak),rfl⟩,fun _=>Nat.le_refl _,jH⟩
 refine ⟨?_,KR⟩
 have oh:∀c,m c=none→c≠b:=fun c ar e=>by subst e;rw [hm] at ar;cases ar
 have db:∀{v x fN},aP w lim v x fN→(∀c∈fN,bW c≠ .none)→aP fD lim v x fN:=fun fw aL=>fw.gQ (fun _=>Nat.le_refl _) jH (fun c ar=>⟨oo c (oh c (h.free c (aL c ar)).2.1),rfl⟩)
 classical
 refine ⟨os,fun k i=>if k=b then (if off≤i∧i<off+xs.length then oss (i- off) else cP b i) else cP k i,
  fun c=>if c∈bE then (if ar:∃i,i<xs.length∧c∈oss i then .r3 b (off+Classical.choose ar) else .none) else
   match bW c with
   | .kA=> .none
   | .r3 k i=>if k=b∧off≤i∧i<off+xs.length then .none else .r3 k i
   |p=>p,h.size,h.defers,fun t x aq=>⟨(h.ez t x aq).1,db (h.ez t x aq).2 (fun c ar=>by rw [(h.fc t x aq).2 c ar];simp)⟩,fun k o ak=>?_,fun t x aq=>⟨(h.fc t x aq).1,fun c ar=>?_⟩,fun k o ak i=>?_,⟨by simp,by simp⟩,fun c ar=>?_,fun k ak=>?_⟩
 · by_cases h3:k=b
   · subst h3
     simp only [ae.cQ,↓reduceIte,Option.some.injEq] at ak ⊢
     subst ak
     refine ⟨?_,fb,fM⟩
     refine .cells _ e _ _ wL (by simp [bn];omega) (fun i ad=>?_)
     have hlen:(l.take off++xs++l.drop (off+xs.length)).length=l.length:=by simp;omega
     rw [hlen] at ad
     have qN:∀{α:Type} (A B:List α) (pT:α),off+B.length≤A.length→(A.take off++B++A.drop (off+B.length)).getD i pT=if off≤i∧i<off+B.length then B.getD (i- off) pT else A.getD i pT:=by
      intro α A B pT KS
      simp only [List.getD_eq_getElem?_getD]
      by_cases J:i<off
      · rw [if_neg (by omega),List.append_assoc,List.getElem?_append_left (by simp;omega),List.getElem?_take,if_pos J]
      · by_cases aa:i<off+B.length
        · rw [if_pos ⟨by omega,aa⟩,List.append_assoc,List.getElem?_append_right (by simp;omega),List.getElem?_append_left (by simp;omega)]
          simp [show min off A.length=off from by omega]
        · rw [if_neg (by omega),List.getElem?_append_right (by simp;omega),List.getElem?_drop]
          congr 2
          simp;omega
     have aM:(cs.toList.take off++vs++cs.toList.drop (off+vs.length)).toArray.getD i undef=if off≤i∧i<off+xs.length then vs.getD (i- off) undef else cs.getD i undef:=by
      have:=qN cs.toList vs undef (by simp [mh];omega)
      rw [bn] at this ⊢
      simp only [Array.getD_eq_getD_getElem?,List.getElem?_toArray,List.getD_eq_getElem?_getD,Array.getElem?_toList] at this ⊢
      exact this
     rw [aM,qN l xs .aS av]
     by_cases jb:off≤i∧i<off+xs.length
     · rw [if_pos jb,if_pos jb,if_pos jb]
       exact db (au _ (by omega)) (fun c ar=>by rw [h.fW.2 c ((Dm c).2 ⟨i- off,by omega,ar⟩)];simp)
     · rw [if_neg jb,if_neg jb,if_neg jb]
       exact db (KO i ad) (fun c ar=>by rw [(h.ed k _ hm i).2 c ar];simp)
   · simp only [ae.cQ,if_neg h3] at ak ⊢
     exact ⟨(h.mem k o ak).1.gQ (oo k h3) (fun _=>Nat.le_refl _) jH (fun i c ar=>⟨oo c (oh c (h.free c (by rw [(h.ed k o ak i).2 c ar];simp)).2.1),rfl⟩),(h.mem k o ak).2⟩
 · have J:=(h.fc t x aq).2 c ar
   have aa:c∉bE:=fun aN=>by rw [h.fW.2 c aN] at J;cases J
   simp [J,aa]
 · by_cases h3:k=b
   · subst h3
     simp only [↓reduceIte]
     by_cases jb:off≤i∧i<off+xs.length
     · simp only [if_pos jb]
       refine ⟨KP _ (by omega),fun c ar=>?_⟩
       have KT:c∈bE:=(Dm c).2 ⟨i- off,by omega,ar⟩
       have hex:∃j,j<xs.length∧c∈oss j:=⟨i- off,by omega,ar⟩
       have Dn:=Classical.choose_spec hex
       have:Classical.choose hex=i- off:=KQ _ _ c Dn.1 (by omega) Dn.2 ar
       simp only [if_pos KT,dif_pos hex,this]
       congr 1;omega
     · simp only [if_neg jb]
       refine ⟨(h.ed k _ hm i).1,fun c ar=>?_⟩
       have J:=(h.ed k _ hm i).2 c ar
       have aa:c∉bE:=fun aN=>by rw [h.fW.2 c aN] at J;cases J
       simp [J,aa,jb]
   · simp only [ae.cQ,if_neg h3] at ak ⊢
     refine ⟨(h.ed k o ak i).1,fun c ar=>?_⟩
     have J:=(h.ed k o ak i).2 c ar
     have aa:c∉bE:=fun aN=>by rw [h.fW.2 c aN] at J;cases J
     simp [J,aa,h3]
 · have gg:bW c≠ .none:=by
    by_cases aa:c∈bE
    · rw [h.fW.2 c aa];simp
    · intro J;simp [J,aa] at ar
   have:=h.free c gg
   refine ⟨this.1,?_,by rw [ui];exact this.2.2⟩
   simp only [ae.cQ,if_neg (oh c this.2.1)]
   exact this.2.1
 · rw [ui] at ak
   have:=h.fresh k ak
   refine ⟨this.1,this.2.1,?_⟩
   simp only [ae.cQ,if_neg (oh k this.2.2)]
   exact this.2.2
end
end Go.ba
end
section
namespace Go.ba
open Go
def nI (lim:Nat→Nat) (b k:Nat):Nat→Nat:=fun c=>if c=b then k else lim c
section
variable {P:Program} {F:Nat→Prop} {lim lim':Nat→Nat} {w w':World} {n:Nat} {fr:Fr} {m:ae} {ca:Act} {bE:List Nat} {os:Nat→List Nat} {cP:Nat→Nat→List Nat} {bW:Nat→Place}
theorem oU.world (h:oU F lim w n fr m ca bE os cP bW) (cJ:w.heap.size≤w'.heap.size) (av:∀b,lim b≤lim' b) (ar:∀b o,o<lim b→w'.cell? ⟨b,o,none⟩=w.cell? ⟨b,o,none⟩)
 (ly:∀c,bW c≠ .none→w'.heap[c]?=w.heap[c]?∧lim' c=lim c) (hm:∀b,m b≠none→w'.heap[b]?=w.heap[b]?∧lim' b=lim b)
 (yP:∀b,w'.heap.size≤b→lim' b=0):oU F lim' w' n fr m ca bE os cP bW:=by
 refine ⟨h.size,h.defers,fun t x aq=>⟨(h.ez t x aq).1,(h.ez t x aq).2.gQ av ar (fun c l8=>ly c (by rw [(h.fc t x aq).2 c l8];simp))⟩,fun b o ag=>?_,h.fc,h.ed,h.fW,
  fun c oV=>⟨(h.free c oV).1,(h.free c oV).2.1,Nat.lt_of_lt_of_le (h.free c oV).2.2 cJ⟩,fun b ag=>⟨yP b ag,(h.fresh b (Nat.le_trans cJ ag)).2⟩⟩
 have oh:=hm b (by rw [ag];simp)
 exact ⟨(h.mem b o ag).1.gQ oh.1 av ar (fun i c l8=>ly c (by rw [(h.ed b o ag i).2 c l8];simp)),oh.2.trans (h.mem b o ag).2.1,(h.mem b o ag).2.2⟩
theorem oU.Dp (h:oU F lim w n fr m ca bE os cP bW):oU F lim w n fr m ca [] os cP (fun c=>if bW c= .kA then .none else bW c):=by
 refine ⟨h.size,h.defers,h.ez,h.mem,fun t x aq=>⟨(h.fc t x aq).1,fun c ar=>by simp [(h.fc t x aq).2 c ar]⟩,fun b o ag i=>⟨(h.ed b o ag i).1,fun c ar=>by simp [(h.ed b o ag i).2 c ar]⟩,⟨by simp,by simp⟩,fun c ar=>?_,h.fresh⟩
 by_cases J:bW c= .kA
 · simp [J] at ar
 · exact h.free c (by simpa [J] using ar)
theorem oU.Dq (h:oU F lim w n fr m ca [] os cP bW) {c:Nat} (ar:bW c= .none) (fM:¬F c) (hm:m c=none) (cl:c<w.heap.size):bc F lim w n fr m ca [c]:=by
 refine ⟨os,cP,fun d=>if d=c then .kA else bW d,h.size,h.defers,h.ez,h.mem,fun t x aq=>⟨(h.fc t x aq).1,fun d bo=>?_⟩,fun b o ag i=>⟨(h.ed b o ag i).1,fun d bo=>?_⟩,by simp,fun d bo=>?_,h.fresh⟩
 · have:=(h.fc t x aq).2 d bo
   have gg:d≠c:=fun e=>by subst e;rw [ar] at this;cases this
   simpa [gg] using this
 · have:=(h.ed b o ag i).2 d bo
   have gg:d≠c:=fun e=>by subst e;rw [ar] at this;cases this
   simpa [gg] using this
 · by_cases gg:d=c
   · subst gg;exact ⟨fM,hm,cl⟩
   · exact h.free d (by simpa [gg] using bo)
theorem uj (lim:Nat→Nat) (b k:Nat):nI lim b k b=k:=by simp [nI]
theorem nJ (lim:Nat→Nat) {b c:Nat} (k:Nat) (h:c≠b):nI lim b k c=lim c:=by simp [nI,h]
theorem bc.zg (h:bc F lim w n fr m ca bE) (hw:w'.heap=w.heap) (o:Obj) (k:Nat):bc F (nI lim w.heap.size k) (w'.alloc o) n fr m ca [w.heap.size]:=by
 have cl:=fun {b o} (ag:o<lim b)=>h.qE ag
 have Dr:=fun {b} (ag:m b≠none)=>h.oW ag
 obtain ⟨os,cP,bW,h⟩:=h
 have cJ:(w'.alloc o).heap.size=w.heap.size+1:=by simp [hw]
 have hold:∀c,c<w.heap.size→(w'.alloc o).heap[c]?=w.heap[c]?:=fun c ar=>by rw [kC w' o c (by rw [hw];exact ar),hw]
 have zh:=h.fresh _ (Nat.le_refl _)
 have aa:=(h.Dp).world (w':=w'.alloc o) (lim':=nI lim w.heap.size k) (by omega) (fun b=>?_) (fun b i ad=>?_) (fun c ar=>?_) (fun b ag=>?_) (fun b ag=>?_)
 · refine aa.Dq (c:=w.heap.size) ?_ zh.2.1 zh.2.2 (by omega)
   have:bW w.heap.size= .none:=by
    cases e:bW w.heap.size with
    |none=>rfl
    |_=>exact absurd (h.free w.heap.size (by rw [e];simp)).2.2 (Nat.lt_irrefl _)
   simp [this]
 · by_cases ag:b=w.heap.size
   · subst ag;rw [zh.1];exact Nat.zero_le _
   · rw [nJ _ _ ag];exact Nat.le_refl _
 · simp [World.cell?,hold b (cl ad)]
 · have mh:c<w.heap.size:=(h.free c (by by_cases e:bW c= .kA<;>simp_all)).2.2
   exact ⟨hold c mh,nJ _ _ (by omega)⟩
 · exact ⟨hold b (Dr ag),nJ _ _ (by have:=Dr ag;omega)⟩
 · rw [cJ] at ag
   rw [nJ _ _ (by omega)]
   exact (h.fresh b (by omega)).1
theorem dL.zi (h:bc F lim w n fr m ca bE) (hw:w'.heap=w.heap) (aL:w'.os=w.os) (aB:w'.tape=w.tape) (zj:w'.output=w.output) (o:Obj) (k:Nat):dL F w lim (w'.alloc o) (nI lim w.heap.size k):=by
 have hold:∀c,c<w.heap.size→(w'.alloc o).heap[c]?=w.heap[c]?:=fun c ar=>by rw [kC w' o c (by rw [hw];exact ar),hw]
 refine ⟨aL,aB,zj,by simp [hw],fun b ag=>⟨hold b (h.pN ag),nJ _ _ (by have:=h.pN ag;omega)⟩,fun b=>?_,fun b i ad=>by simp [World.cell?,hold b (h.qE ad)]⟩
 by_cases ag:b=w.heap.size
 · subst ag;rw [h.pO];exact Nat.zero_le _
 · rw [nJ _ _ ag];exact Nat.le_refl _
theorem bc.KU {b:Nat} (h:bc F lim w n fr m ca [b]) (cJ:w'.heap.size=w.heap.size) (oo:∀c,c≠b→w'.heap[c]?=w.heap[c]?) (k:Nat) (ak:lim b≤k) (jH:∀o,o<lim b→w'.cell? ⟨b,o,none⟩=w.cell? ⟨b,o,none⟩)
 (aL:w'.os=w.os) (aB:w'.tape=w.tape) (zj:w'.output=w.output):bc F (nI lim b k) w' n fr m ca [b]∧dL F w lim w' (nI lim b k):=by
 have ag:=h.KM b (by simp)
 have av:∀c,lim c≤nI lim b k c:=fun c=>by
  by_cases e:c=b
  · subst e;rw [uj];exact ak
  · rw [nJ _ _ e];exact Nat.le_refl _
 have ar:∀c o,o<lim c→w'.cell? ⟨c,o,none⟩=w.cell? ⟨c,o,none⟩:=fun c o cl=>by
  by_cases e:c=b
  · subst e;exact jH o cl
  · simp [World.cell?,oo c e]
 refine ⟨?_,⟨aL,aB,zj,by omega,fun c ar=>⟨oo c (fun e=>by subst e;exact ag.1 ar),nJ _ _ (fun e=>by subst e;exact ag.1 ar)⟩,av,ar⟩⟩
 obtain ⟨os,cP,bW,h⟩:=h
 have Ds:bW b= .kA:=h.fW.2 b (by simp)
 have aa:=(h.Dp).world (w':=w') (lim':=nI lim b k) (by omega) av ar (fun c ar=>?_) (fun c ar=>?_) (fun c ar=>?_)
 · exact aa.Dq (c:=b) (by simp [Ds]) ag.1 ag.2.1 (by omega)
 · have e:c≠b:=fun e=>by subst e;simp [Ds] at ar
   exact ⟨oo c e,nJ _ _ e⟩
 · have e:c≠b:=fun e=>by subst e;exact ar ag.2.1
   exact ⟨oo c e,nJ _ _ e⟩
 · rw [nJ _ _ (by omega)]
   exact (h.fresh c (by omega)).1
def jc (cv:Nat→Nat→Value) (n sz:Nat):List Value:=(List.range (n*sz)).map fun i=>cv (i/sz) (i%sz)
theorem Dt {cv:Nat→Nat→Value} {n sz i j:Nat} (ad:i<n) (aA:j<sz):(jc cv n sz)[i*sz+j]?=some (cv i j):=by
 have cl:i*sz+j<n*sz:=by
  have:i*sz+sz≤n*sz:=by rw [←Nat.succ_mul];exact Nat.mul_le_mul_right _ ad
  omega
 have J:(i*sz+j)/sz=i:=by rw [Nat.mul_comm,Nat.mul_add_div (by omega),Nat.div_eq_of_lt aA,Nat.add_zero]
 have aa:(i*sz+j)%sz=j:=by rw [Nat.mul_comm,Nat.mul_add_mod,Nat.mod_eq_of_lt aA]
 simp [jc,cl,J,aa]
theorem Du {cv:Nat→Nat→Value} {n sz b off:Nat} (cJ:0<sz) (ar:∀i j,i<n→j<sz→w.cell? ⟨b,off+i*sz+j,none⟩=some (cv i j)):
 ∀k u,(jc cv n sz)[k]?=some u→w.cell? ((⟨b,off,none⟩:Addr).add k)=some u:=by
 intro k u hu
 rw [addr_add]
 have ak:k<n*sz:=by
  rcases Nat.lt_or_ge k (n*sz) with h|h
  · exact h
  · simp [jc,h] at hu
 simp [jc,ak] at hu
 have ad:k/sz<n:=Nat.div_lt_of_lt_mul (by rw [Nat.mul_comm];exact ak)
 have:=ar (k/sz) (k%sz) ad (Nat.mod_lt _ cJ)
 rw [show off+k/sz*sz+k%sz=off+k from by rw [Nat.add_assoc,Nat.mul_comm,Nat.div_add_mod]] at this
 rw [this,hu]
theorem wM {b iL cap sz:Nat} {l:List U} {cv:Nat→Nat→Value} {cur:Array Value} {e:TypeId} (av:l.length=iL) (fu:iL≤cap) (hm:cap≤maxLen) (ey:iL≤140737488355328) (aG:0<iL∨cap=0)
 (ag:w.heap[b]?=some (.cells cur e (0,0))) (mJ:cur.size=cap*sz) (cJ:∀i,i<iL→(l.getD i .aS).cells.length=sz) (fb:iL*sz=lim b)
 (qN:∀i j,i<iL→j<sz→cur[i*sz+j]?=some (cv i j)) (au:∀i j,i<iL→j<sz→aP w lim (cv i j) ((l.getD i .aS).cells.getD j .aS) []):
 aP w lim (.slice (some ⟨b,0,none⟩) iL cap) (.slice true l) [b]:=
 .own b iL cap sz l cv cur e av fu hm ey aG ag mJ cJ fb (fun i j ad aA=>by simp [World.cell?,ag,qN i j ad aA]) au
theorem wN {e:TypeId} {i:TypeInfo} (h:P.info? e=some i):P.cellsOf e=i.size∧P.bytesOf e=i.bytes:=by simp [Program.cellsOf,Program.bytesOf,h]
theorem zk {e:TypeId} (h:(hy P e).isSome=true):∃i z,P.info? e=some i∧i.zero=some z∧oi z=true∧hy P e=some (jI z):=by
 unfold hy at h ⊢
 cases ad:P.info? e with
 |none=>simp [ad] at h
 |some i=>
  cases ao:i.zero with
  |none=>simp [ad,ao] at h
  |some z=>
   simp only [ad,ao,Option.bind_some] at h ⊢
   by_cases ar:oi z=true
   · exact ⟨i,z,rfl,ao,ar,by simp [ar]⟩
   · simp [ar] at h
theorem wO (v:Value):(jI v).cells.length=v.cells.size:=by
 cases v with
 |agg cs=>simp [jI,U.cells,Value.cells]
 |iface t v=>rfl
 |pointer a=>cases a<;>rfl
 |slice a n c=>cases a<;>rfl
 |map r=>cases r<;>rfl
 |_=>rfl
theorem Dv {e:TypeId} (h:k1 P e=true):∃i z,P.info? e=some i∧i.zero=some z∧oi z=true∧hy P e=some (jI z)∧z.cells.size=i.size:=by
 have al:(hy P e).isSome=true:=by
  unfold k1 at h
  cases ao:hy P e with
  |none=>simp [ao] at h
  |some z=>rfl
 obtain ⟨i,z,ad,ao,ar,dP⟩:=zk al
 refine ⟨i,z,ad,ao,ar,dP,?_⟩
 simp only [k1,dP,beq_iff_eq,wO] at h
 rw [h,(wN ad).1]
theorem Dw (t e ty:TypeId) (i:TypeInfo) (aB:P.underlying t=some (.slice e)) (ad:P.info? e=some i) (base:Option Addr) (bS cap:Nat) (uk:bS≤cap) (a:Option Addr) (c:Nat):
 (Builtin.append_ #[t,t] ty #[.slice base bS cap, .slice a 0 c]).run P w= .ok (.slice base bS cap) w:=by
 cases a with
 |none=>cases base<;>simp [Builtin.append_,run_underlying aB,sizeOf,typeInfo,ad,Builtin.lenOf,Builtin.firstCells,uk,storeCells]
 |some a=>cases base<;>simp [Builtin.append_,run_underlying aB,sizeOf,typeInfo,ad,Builtin.lenOf,Builtin.firstCells,uk,storeCells,loadCells,loadCellsFrom]
theorem KV (t e ty:TypeId) (i:TypeInfo) (aB:P.underlying t=some (.slice e)) (ad:P.info? e=some i) (g qO zl:Nat) (cur:Array Value) (cD:TypeId) (bl:w.heap[g]?=some (.cells cur cD (0,0)))
 (a:Addr) (k c:Nat) (news:List Value) (av:news.length=k*i.size) (um:∀j u,news[j]?=some u→w.cell? (a.add j)=some u) (J:∀u∈news,u.oneCell'=true)
 (uo:qO+k≤zl) (zm:qO*i.size+news.length≤cur.size):
 (Builtin.append_ #[t,t] ty #[.slice (some ⟨g,0,none⟩) qO zl, .slice (some a) k c]).run P w=
   .ok (.slice (some ⟨g,0,none⟩) (qO+k) zl) (w.setRow g (cur.toList.take (qO*i.size)++news++cur.toList.drop (qO*i.size+news.length)).toArray):=by
 have aN:=run_firstCells_some (P:=P) w i.size k a k c news av um
 have db:=run_storeCells_at P g (qO*i.size) cD news 0 cur w bl (by simpa using zm) J
 simp only [Nat.add_zero] at db
 simp [Builtin.append_,run_underlying aB,sizeOf,typeInfo,ad,Builtin.lenOf,uo,aN,Addr.add_lit,db]
end
end Go.ba
end
section
namespace Go.ba
open Go
section
variable {P:Program} {F:Nat→Prop} {lim:Nat→Nat} {w:World} {n:Nat} {fr:Fr} {m:ae} {ca:Act} {bE:List Nat}
theorem Dx {v:Value} {x:U} {os:List Nat} {k:Nat} (aq:(x.cells.all U.one)=true) (ak:k<x.cells.length) (h:aP w lim v (x.cells.getD k .aS) os):v.oneCell'=true:=by
 refine KN h ?_
 rw [List.all_eq_true] at aq
 exact aq _ (by simp [List.getD_eq_getElem?_getD,ak])
theorem mO {l bC:List U} {i:Nat} (h:i<l.length):(l++bC).getD i .aS=l.getD i .aS:=by
 simp [List.getD_eq_getElem?_getD,List.getElem?_append_left h]
theorem oq {l bC:List U} {i:Nat} (h:l.length≤i):(l++bC).getD i .aS=bC.getD (i- l.length) .aS:=by
 simp [List.getD_eq_getElem?_getD,List.getElem?_append_right h]
theorem zn (i j k s:Nat) (ad:i<k) (aA:j<s):i*s+j<k*s:=by
 have:i*s+s≤k*s:=by rw [←Nat.succ_mul];exact Nat.mul_le_mul_right _ ad
 omega
theorem Dy {a b:Nat} {sz:Nat} {A B C:List Value} {dU Dz:Nat→Nat→Value} (dP:A.length=a*sz) (cd:B.length=b*sz) (zo:∀i j,i<a→j<sz→A[i*sz+j]?=some (dU i j)) (KW:∀i j,i<b→j<sz→B[i*sz+j]?=some (Dz i j)):
 ∀i j,i<a+b→j<sz→(A++B++C)[i*sz+j]?=some (if i<a then dU i j else Dz (i- a) j):=by
 intro i j ad aA
 by_cases h:i<a
 · rw [if_pos h,List.append_assoc,List.getElem?_append_left (by rw [dP];exact zn _ _ _ _ h aA)]
   exact zo i j h aA
 · have uq:a*sz≤i*sz:=Nat.mul_le_mul_right _ (by omega)
   have o5:i*sz+j- a*sz=(i- a)*sz+j:=by rw [Nat.sub_mul];omega
   have cl:(i- a)*sz+j<b*sz:=zn _ _ _ _ (by omega) aA
   rw [if_neg h,List.getElem?_append_left (by simp [dP,cd];omega),List.getElem?_append_right (by omega),dP,o5]
   exact KW (i- a) j (by omega) aA
set_option maxHeartbeats 1000000 in
theorem DA (st:bc F lim w n fr m ca bE) {t e ty:TypeId} (aB:P.underlying t=some (.slice e)) (ao:k1 P e=true) (jN:0<P.cellsOf e) {zp jm:Value} {l bC:List U} (ag:aP w lim zp (.slice true l) bE) (aK:aP w lim jm (.slice false bC) [])
 (DB:(l.length+bC.length)*P.bytesOf e≤140737488355328) (ey:l.length+bC.length≤140737488355328) (av:∀x∈l,x.cells.length=P.cellsOf e) (l7:∀x∈bC,x.cells.length=P.cellsOf e∧x.cells.all U.one=true):
 ∃iw w' lim' fN,(Builtin.append_ #[t,t] ty #[zp,jm]).run P w= .ok iw w'∧bc F lim' w' n fr m ca fN∧aP w' lim' iw (.slice true (l++bC)) fN∧dL F w lim w' lim':=by
 obtain ⟨i,z,ad,pU,KX,KY,DC⟩:=Dv ao
 obtain ⟨j0,pV⟩:=wN ad
 have DD:∀k:Nat,k≤140737488355328→k≤maxLen:=fun k ak=>by simp only [maxLen];omega
 have qP:∀(l:List U) i,i<l.length→l.getD i .aS∈l:=fun l i ad=>by simp [List.getD_eq_getElem?_getD,ad]
 by_cases qQ:bC=[]
 · subst qQ
   have KZ:∃a c,jm= .slice a 0 c:=by
    obtain ⟨a,c,rfl,_⟩:=yY aK
    exact ⟨a,c,rfl⟩
   obtain ⟨a,c,rfl⟩:=KZ
   refine ⟨zp,w,lim,bE,?_,st,by simpa using ag, .refl _ _ _⟩
   cases ag with
   |fL own=>exact Dw t e ty i aB ad none 0 0 (Nat.le_refl _) a c
   |own b iL cap sz l cv cur cD J aa ai aJ aY bG c7 cV cU eI fF=>exact Dw t e ty i aB ad _ iL cap aa a c
 have zq:0<bC.length:=List.length_pos_iff.2 qQ
 rcases ub aK with ⟨rfl,_⟩|⟨rfl,_⟩|⟨zr,zs,zt,K0,k2,rfl,T5,T6,T7,wP,T8,K1,sh⟩
 · exact (qQ rfl).elim
 · exact (qQ rfl).elim
 have K2:K0=i.size:=by rw [←wP 0 zq,(l7 _ (qP bC 0 zq)).1,j0]
 subst K2
 rw [j0] at jN
 have um:=Du (w:=w) jN K1
 have mi:(jc k2 bC.length i.size).length=bC.length*i.size:=by simp [jc]
 have DE:∀a b,a<bC.length→b<i.size→(jc k2 bC.length i.size)[a*i.size+b]?=some (k2 a b):=fun a b aX ag=>Dt aX ag
 have zu:∀u∈jc k2 bC.length i.size,u.oneCell'=true:=fun u hu=>by
  obtain ⟨k,ak,rfl⟩:=List.mem_map.1 hu
  have et:k<bC.length*i.size:=by simpa using ak
  have zv:k/i.size<bC.length:=Nat.div_lt_of_lt_mul (by rw [Nat.mul_comm];exact et)
  have DF:=Nat.mod_lt k jN
  exact Dx (l7 _ (qP bC _ zv)).2 (by rw [wP _ zv];exact DF) (sh _ _ zv DF)
 rw [pV] at DB
 have DG:∀(mP:List Value) (k kI:Nat) (dU:Nat→Nat→Value),mP.length=k*i.size→k=l.length→l.length+bC.length≤kI→kI≤maxLen→
  (∀a b,a<k→b<i.size→mP[a*i.size+b]?=some (dU a b))→(∀a b,a<k→b<i.size→aP w lim (dU a b) ((l.getD a .aS).cells.getD b .aS) [])→
  (mP.toArray++(jc k2 bC.length i.size).toArray++Builtin.zeroCells z.cells (kI- (l.length+bC.length))).size=kI*i.size→
  ∃lim' fN,bc F lim' (w.drew.alloc (.cells (mP.toArray++(jc k2 bC.length i.size).toArray++Builtin.zeroCells z.cells (kI- (l.length+bC.length))) e)) n fr m ca fN∧
   aP (w.drew.alloc (.cells (mP.toArray++(jc k2 bC.length i.size).toArray++Builtin.zeroCells z.cells (kI- (l.length+bC.length))) e)) lim' (.slice (some ⟨w.heap.size,0,none⟩) (l.length+bC.length) kI) (.slice true (l++bC)) fN∧
   dL F w lim (w.drew.alloc (.cells (mP.toArray++(jc k2 bC.length i.size).toArray++Builtin.zeroCells z.cells (kI- (l.length+bC.length))) e)) lim':=by
  intro mP k kI dU aL ak fu hm zo K3 ui
  subst ak
  have eN:=dL.zi (w':=w.drew) st rfl rfl rfl rfl (.cells (mP.toArray++(jc k2 bC.length i.size).toArray++Builtin.zeroCells z.cells (kI- (l.length+bC.length))) e) ((l.length+bC.length)*i.size)
  refine ⟨_,_,st.zg (w':=w.drew) rfl _ ((l.length+bC.length)*i.size),?_,eN⟩
  have wQ:=Dy (C:=(Builtin.zeroCells z.cells (kI- (l.length+bC.length))).toList) aL mi zo DE
  refine wM (sz:=i.size) (cv:=fun a b=>if a<l.length then dU a b else k2 (a- l.length) b) (by simp) fu hm ey (.inl (by omega)) (qD w.drew _) ui (fun a aX=>?_) (by rw [uj]) (fun a b aX ag=>?_) (fun a b aX ag=>?_)
  · by_cases h:a<l.length
    · rw [mO h,av _ (qP l a h),j0]
    · rw [oq (by omega),wP _ (by omega)]
  · rw [←Array.getElem?_toList]
    simp only [Array.toList_append]
    exact wQ a b aX ag
  · by_cases h:a<l.length
    · simp only [if_pos h]
      rw [mO h]
      exact (K3 a b h ag).gQ eN.mono eN.cell (by simp)
    · simp only [if_neg h]
      rw [oq (by omega)]
      exact (sh _ b (by omega) ag).gQ eN.mono eN.cell (by simp)
 have DH:∀kI,l.length+bC.length≤kI→∀mP:List Value,mP.length=l.length*i.size→(mP.toArray++(jc k2 bC.length i.size).toArray++Builtin.zeroCells z.cells (kI- (l.length+bC.length))).size=kI*i.size:=fun kI ar mP aL=>by
  simp only [Array.size_append,List.size_toArray,size_zeroCells,DC,aL,mi,←Nat.add_mul]
  congr 1;omega
 have DI:((l.length+bC.length:Nat):Int)≤9223372036854775807:=by omega
 cases ag with
 |fL own=>
  simp only [List.length_nil,Nat.zero_add] at*
  have mQ:=run_append_nil (P:=P) w t ty e i z aB ad pU ⟨zr,zs,none⟩ bC.length zt _ mi um zq DI (by omega)
  have fu:=grownCap_ge w bC.length 0 e
  have zw:=grownCap_le_maxLen w bC.length 0 e (DD _ ey)
  obtain ⟨lim',fN,J,aa,ai⟩:=DG [] 0 (grownCap w bC.length 0 e) (fun _ _=>undef) (by simp) rfl fu zw (fun a b aX=>absurd aX (Nat.not_lt_zero _)) (fun a b aX=>absurd aX (Nat.not_lt_zero _)) (DH _ fu [] (by simp))
  simp only [List.nil_append] at J aa ai
  exact ⟨_,_,lim',fN,mQ,by simpa using J,by simpa using aa,by simpa using ai⟩
 |own b iL cap sz l cv cur cD J aa ai aJ aY bG c7 cV cU eI fF=>
  subst J
  have uf:l.length=0∨sz=i.size:=by
   rcases Nat.eq_zero_or_pos l.length with h|h
   · exact .inl h
   · exact .inr (by rw [←cV 0 h,av _ (qP l 0 h),j0])
  have iK:∀a gG,a<l.length→gG<i.size→w.cell? ⟨b,a*i.size+gG,none⟩=some (cv a gG):=fun a gG aX ag=>by
   rcases uf with h|h
   · omega
   · subst h;exact eI a gG aX ag
  have kc:∀a gG,a<l.length→gG<i.size→aP w lim (cv a gG) ((l.getD a .aS).cells.getD gG .aS) []:=fun a gG aX ag=>by
   rcases uf with h|h
   · omega
   · subst h;exact fF a gG aX ag
  by_cases uo:l.length+bC.length≤cap
  · have cJ:sz=i.size:=by
     rcases uf with h|h
     · rcases aY with aY|aY<;>omega
     · exact h
    subst cJ
    have zm:l.length*i.size+(jc k2 bC.length i.size).length≤cur.size:=by
     rw [mi,c7,←Nat.add_mul];exact Nat.mul_le_mul_right _ uo
    have mQ:=KV (P:=P) (w:=w) t e ty i aB ad b l.length cap cur cD bG ⟨zr,zs,none⟩ bC.length zt _ mi um zu uo zm
    generalize dP:(cur.toList.take (l.length*i.size)++jc k2 bC.length i.size++cur.toList.drop (l.length*i.size+(jc k2 bC.length i.size).length)).toArray=A at mQ
    have wL:(w.setRow b A).heap[b]?=some (.cells A cD (0,0)):=setRow_heap w b cur A cD (0,0) bG
    have mJ:∀k,k<l.length*i.size→A[k]?=cur[k]?:=fun k ak=>by
     rw [←dP]
     have hle:l.length*i.size≤cur.size:=by omega
     rw [List.getElem?_toArray,List.append_assoc,List.getElem?_append_left (by simp;omega),List.getElem?_take,if_pos ak,Array.getElem?_toList]
    obtain ⟨s1,s2⟩:=st.KU (w':=w.setRow b A) (by simp) (fun c ar=>setRow_other w b c A ar) ((l.length+bC.length)*i.size) (by rw [←cU,Nat.add_mul];omega) (fun o aL=>by
     rw [←cU] at aL
     simp [World.cell?,wL,bG,mJ o aL]) rfl rfl rfl
    refine ⟨_,_,_,[b],mQ,s1,?_,s2⟩
    refine wM (sz:=i.size) (cv:=fun a b=>if a<l.length then cv a b else k2 (a- l.length) b) (by simp) uo ai ey (.inl (by omega)) wL (by rw [←dP];simp;omega) (fun a aX=>?_) (by rw [uj]) (fun a gG aX ag=>?_) (fun a gG aX ag=>?_)
    · by_cases h:a<l.length
      · rw [mO h];exact cV a h
      · rw [oq (by omega),wP _ (by omega)]
    · rw [←dP,List.getElem?_toArray]
      refine Dy (by simp;omega) mi (fun a gG aX ag=>?_) DE a gG aX ag
      have:=iK a gG aX ag
      simp only [World.cell?,bG] at this
      rw [List.getElem?_take,if_pos (zn _ _ _ _ aX ag),Array.getElem?_toList]
      exact this
    · by_cases h:a<l.length
      · simp only [if_pos h]
        rw [mO h]
        exact (kc a gG h ag).gQ s2.mono s2.cell (by simp)
      · simp only [if_neg h]
        rw [oq (by omega)]
        exact (sh _ gG (by omega) ag).gQ s2.mono s2.cell (by simp)
  · have holds:=Du (w:=w) (cv:=cv) (n:=l.length) (sz:=i.size) (b:=b) (off:=0) jN (fun a gG aX ag=>by rw [Nat.zero_add];exact iK a gG aX ag)
    have ur:(jc cv l.length i.size).length=l.length*i.size:=by simp [jc]
    have K4:=growslice_fits (need:=l.length+bC.length) (old:=cap) (bytes:=i.bytes) (by omega) DB
    have mQ:=run_append_grow (P:=P) w t ty e i z aB ad pU ⟨b,0,none⟩ l.length cap _ ur holds ⟨zr,zs,none⟩ bC.length zt _ mi um (by omega) DI K4
    have fu:=grownCap_ge w (l.length+bC.length) cap e
    have zw:=grownCap_le_maxLen w (l.length+bC.length) cap e (DD _ ey)
    obtain ⟨lim',fN,s1,s2,mR⟩:=DG (jc cv l.length i.size) l.length (grownCap w (l.length+bC.length) cap e) cv ur rfl fu zw (fun a gG aX ag=>Dt aX ag) kc (DH _ fu _ ur)
    exact ⟨_,_,lim',fN,mQ,s1,s2,mR⟩
end
end Go.ba
end
section
namespace Go.ba
open Go
section
variable {P:Program} {F:Nat→Prop} {lim:Nat→Nat} {w:World} {n:Nat} {fr:Fr} {m:ae} {ca:Act} {bE:List Nat}
def uu (w:World) (lim:Nat→Nat) (cs:Array Value) (xs:List U):Prop:=cs.size=xs.length∧∀i,i<xs.length→aP w lim (cs.getD i undef) (xs.getD i .aS) []
theorem DJ {oss:Nat→List Nat} {k:Nat} (h:[]=(List.range k).flatMap oss):∀i,i<k→oss i=[]:=fun i ad=>yW h.symm i ad
theorem qR {v:Value} {x:U} (h:aP w lim v x []) (aq:x.dy=true):uu w lim v.cells x.cells:=by
 obtain ⟨oss,J,aa,ai⟩:=zf h aq
 exact ⟨J,fun i ad=>by have:=aa i ad;rwa [DJ ai i ad] at this⟩
theorem K5 {α:Type} (A B:List α) (pT:α) (off i:Nat) (KS:off+B.length≤A.length):(A.take off++B++A.drop (off+B.length)).getD i pT=if off≤i∧i<off+B.length then B.getD (i- off) pT else A.getD i pT:=by
 simp only [List.getD_eq_getElem?_getD]
 by_cases J:i<off
 · rw [if_neg (by omega),List.append_assoc,List.getElem?_append_left (by simp;omega),List.getElem?_take,if_pos J]
 · by_cases aa:i<off+B.length
   · rw [if_pos ⟨by omega,aa⟩,List.append_assoc,List.getElem?_append_right (by simp;omega),List.getElem?_append_left (by simp;omega)]
     simp [show min off A.length=off from by omega]
   · rw [if_neg (by omega),List.getElem?_append_right (by simp;omega),List.getElem?_drop]
     congr 2
     simp;omega
theorem K6 (place:Nat→Option (Nat×Nat)):∀(ps:List (Nat×U)) (o6:List (Nat×Value)) (cs:Array Value) (xs cA:List U),lD place xs ps=some cA→uu w lim cs xs→o6.map (·.1)=ps.map (·.1)→
 (∀i (ad:i<ps.length),uu w lim (o6.getD i (0,undef)).2.cells (ps[i]).2.cells)→∃fx,Instr.fill place cs o6=some fx∧uu w lim fx cA:=by
 intro ps
 induction ps with
 |nil=>
  intro o6 cs xs cA h ar hm aU
  have:o6=[]:=by simpa using hm
  subst this
  simp only [lD,Option.some.injEq] at h
  subst h
  exact ⟨cs,rfl,ar⟩
 |cons p ps aQ=>
  intro o6 cs xs cA h ar hm aU
  cases o6 with
  |nil=>simp at hm
  |cons q o6=>
   obtain ⟨i,x⟩:=p
   obtain ⟨j,v⟩:=q
   simp only [List.map_cons,List.cons.injEq] at hm
   obtain ⟨rfl,hm⟩:=hm
   have aq:=aU 0 (by simp)
   simp only [List.getD_cons_zero,List.getElem_cons_zero] at aq
   simp only [lD] at h
   cases ot:place j with
   |none=>simp [ot] at h
   |some os=>
    obtain ⟨off,size⟩:=os
    simp only [ot] at h
    split at h
    · next K7=>
      obtain ⟨al,hle⟩:=K7
      have ou:v.cells.size=size:=aq.1.trans al
      simp only [Instr.fill,ot]
      rw [if_neg (by simp [ou,ar.1];omega)]
      refine aQ o6 _ _ cA h ?_ hm (fun k ak=>by have:=aU (k+1) (by simp;omega);simpa using this)
      obtain ⟨f1,f2⟩:=Great.foldl_set off v.cells.toList 0 cs
      have K8:(v.cells.zipIdx.foldl (fun cs (c,j)=>cs.setIfInBounds (off+j) c) cs)=((v.cells.toList.zipIdx 0).foldl (fun cs (x:Value×Nat)=>cs.setIfInBounds (off+x.2) x.1) cs):=by
       rw [←Array.foldl_toList];simp
      rw [K8]
      refine ⟨by rw [f1,ar.1];simp;omega,fun k ak=>?_⟩
      have hlen:(xs.take off++x.cells++xs.drop (off+size)).length=xs.length:=by simp;omega
      rw [hlen] at ak
      rw [←al,K5 xs x.cells .aS off k (by omega)]
      have aM:((v.cells.toList.zipIdx 0).foldl (fun cs (x:Value×Nat)=>cs.setIfInBounds (off+x.2) x.1) cs).getD k undef=if off≤k∧k<off+x.cells.length then v.cells.getD (k- off) undef else cs.getD k undef:=by
       rw [Array.getD_eq_getD_getElem?,f2 k]
       by_cases jb:off≤k∧k<off+x.cells.length
       · rw [if_pos (by simp [ou,ar.1];omega),if_pos jb]
         simp [Array.getD_eq_getD_getElem?]
       · rw [if_neg (by simp [ou];omega),if_neg jb,Array.getD_eq_getD_getElem?]
      rw [aM]
      by_cases jb:off≤k∧k<off+x.cells.length
      · rw [if_pos jb,if_pos jb];exact aq.2 _ (by omega)
      · rw [if_neg jb,if_neg jb];exact ar.2 k ak
    · cases h
theorem zx {t:TypeId} {z:U} (h:hy P t=some z):∃v,(zeroValue t).run P w= .ok v w∧oi v=true∧z=jI v∧aP w lim v z []:=by
 obtain ⟨i,v,J,aa,ai,aJ⟩:=zk (P:=P) (e:=t) (by rw [h];rfl)
 rw [h] at aJ
 have ao:z=jI v:=by simpa using aJ
 exact ⟨v,by simp [zeroValue,typeInfo,J,aa],ai,ao,by rw [ao];exact yR ai⟩
theorem run_places (cL:List Field) (h:∀f∈cL,dS P f.type=true):(cL.mapM fun f=>do pure (f.offset,←sizeOf f.type):Sem (List (Nat×Nat))).run P w= .ok (cL.map fun f=>(f.offset,P.cellsOf f.type)) w:=by
 induction cL with
 |nil=>rfl
 |cons f cL aQ=>
  rw [List.mapM_cons]
  have K9:=aQ (fun g bl=>h g (by simp [bl]))
  simp only [Sem.run_bind,lA (h f (by simp)),Result.andThen_ok,Sem.run_pure,K9,List.map_cons]
theorem zy {t:TypeId} {cL:Array Field} {z:U} {cells:List U} (hu:P.underlying t=some (.struct cL)) (ao:hy P t=some z) (pW:z.dy=true) (jn:∀f∈cL.toList,dS P f.type=true)
 {parts:Array (Nat×Operand)} {a:Operand→U} (aN:lD (fun i=>(cL[i]?).map fun f=>(f.offset,P.cellsOf f.type)) z.cells (parts.toList.map fun p=>(p.1,a p.2))=some cells)
 (au:∀p∈parts.toList,aP w lim (ca.eval p.2) (a p.2) []) (aB:∀p∈parts.toList,(a p.2).dy=true):
 ∃v,(Instr.build t (parts.map fun (i,x)=>(i,ca.eval x))).run P w= .ok v w∧aP w lim v (.agg cells) []:=by
 obtain ⟨La,pX,DK,rfl,nK⟩:=zx (w:=w) (lim:=lim) ao
 have Lb:((cL.mapM fun f=>do pure (f.offset,←sizeOf f.type):Sem (Array (Nat×Nat)))).run P w= .ok (cL.map fun f=>(f.offset,P.cellsOf f.type)) w:=by
  have:=run_places (P:=P) (w:=w) cL.toList jn
  rw [←Array.toList_mapM] at this
  simp only [Sem.run_map] at this
  cases aT:(cL.mapM fun f=>do pure (f.offset,←sizeOf f.type):Sem (Array (Nat×Nat))).run P w with
  |ok a w'=>
   rw [aT] at this
   simp only [Result.andThen_ok,Result.ok.injEq] at this
   obtain ⟨J,rfl⟩:=this
   congr 1
   apply Array.ext'
   simpa using J
  |halt e w'=>rw [aT] at this;simp at this
 obtain ⟨fx,J,aa⟩:=K6 (w:=w) (lim:=lim) _ _ (parts.toList.map fun p=>(p.1,ca.eval p.2)) La.cells _ _ aN (qR nK pW) (by simp) (fun i ad=>by
  simp only [List.length_map] at ad
  have jo:parts.toList[i]∈parts.toList:=List.getElem_mem ad
  have:=qR (au _ jo) (aB _ jo)
  have aM:(parts.toList.map fun p=>(p.1,ca.eval p.2)).getD i (0,undef)=(parts.toList[i].1,ca.eval parts.toList[i].2):=by
   rw [List.getD_eq_getElem?_getD,List.getElem?_map,List.getElem?_eq_getElem ad];rfl
  have aC:(parts.toList.map fun p=>(p.1,a p.2))[i]=(parts.toList[i].1,a parts.toList[i].2):=by rw [List.getElem_map]
  rw [aM,aC];exact this)
 refine ⟨.agg fx,?_,?_⟩
 · have ot:(fun (i:Nat)=>(cL.map fun (f:Field)=>(f.offset,P.cellsOf f.type))[i]?)=fun (i:Nat)=>(cL[i]?).map fun (f:Field)=>(f.offset,P.cellsOf f.type):=by funext i;simp
   have zz:(parts.map fun (i,x)=>(i,ca.eval x)).toList=parts.toList.map fun p=>(p.1,ca.eval p.2):=by simp
   simp only [Instr.build,Sem.run_bind,pX,Result.andThen_ok,fi hu,Lb,ot,zz,J]
   rfl
 · have:=aP.agg (w:=w) (lim:=lim) fx cells (fun _=>[]) aa.1 aa.2
   rw [flatMap_nil] at this
   exact this
theorem Lc {β:Type} (l:List (Nat×β)) (h:l.map (·.1)=List.range l.length):l=((l.map (·.2)).zipIdx 0).map fun x=>(x.2,x.1):=by
 apply List.ext_getElem?
 intro i
 have ad:=congrArg (·[i]?) h
 simp only [List.getElem?_map] at ad
 by_cases cl:i<l.length
 · simp [cl] at ad ⊢
   exact Prod.ext ad rfl
 · simp [cl]
set_option maxHeartbeats 1000000 in
theorem Ld (st:bc F lim w n fr m ca bE) {t e:TypeId} {len:Nat} {parts:Array (Nat×Operand)} {a:Operand→U} (hu:P.underlying t=some (.slice e)) (jN:0<P.cellsOf e) (ao:k1 P e=true) (Le:len*P.cellsOf e≤16777216)
 (DL:parts.toList.map (·.1)=List.range len) (au:∀p∈parts.toList,aP w lim (ca.eval p.2) (a p.2) []) (aB:∀p∈parts.toList,(a p.2).dy=true∧(a p.2).cells.length=P.cellsOf e):
 ∃v w' lim' os,(Instr.buildSlice t len (parts.map fun (i,x)=>(i,ca.eval x))).run P w= .ok v w'∧bc F lim' w' n fr m ca os∧aP w' lim' v (.slice true (parts.toList.map fun p=>a p.2)) os∧dL F w lim w' lim':=by
 obtain ⟨i,z,ad,pU,KX,KY,DC⟩:=Dv ao
 obtain ⟨j0,pV⟩:=wN ad
 rw [j0] at jN Le aB
 have hlen:parts.toList.length=len:=by have:=congrArg List.length DL;simpa using this
 have cJ:∀p∈parts.toList,(ca.eval p.2).cells.size=i.size:=fun p aU=>by rw [(qR (au p aU) (aB p aU).1).1];exact (aB p aU).2
 by_cases aG:len=0
 · subst aG
   have si:parts=#[]:=by simpa using hlen
   subst si
   have eN:=dL.zi (w':=w) st rfl rfl rfl rfl (.cells #[] e) 0
   refine ⟨.slice (some ⟨w.heap.size,0,none⟩) 0 0,w.alloc (.cells #[] e),_,_,by
    have zA:Array.range 0=#[]:=by apply Array.ext';simp
    simp [Instr.buildSlice,fi hu,sizeOf,typeInfo,ad,Instr.fill,newRow,zA],st.zg (w':=w) rfl _ 0,?_,eN⟩
   exact wM (sz:=i.size) (cv:=fun _ _=>undef) (by simp) (Nat.le_refl _) (by simp [maxLen]) (by omega) (.inr rfl) (qD w _) (by simp) (fun _ h=>by omega) (by rw [uj];simp) (fun _ _ h=>by omega) (fun _ _ h=>by omega)
 · have zz:(parts.map fun (i,x)=>(i,ca.eval x)).toList=(((parts.toList.map fun p=>ca.eval p.2)).zipIdx 0).map fun x=>(x.2,x.1):=by
    have J:(parts.toList.map fun p=>(p.1,ca.eval p.2)).map (·.1)=List.range (parts.toList.map fun p=>(p.1,ca.eval p.2)).length:=by
     simp only [List.map_map,List.length_map,hlen]
     exact DL
    have aa:=Lc _ J
    simp only [List.map_map] at aa
    have e:(parts.map fun (i,x)=>(i,ca.eval x)).toList=parts.toList.map fun p=>(p.1,ca.eval p.2):=by simp
    rw [e];exact aa
   have DM:=Great.fill_whole (s:=i.size) jN (parts.toList.map fun p=>ca.eval p.2) ((Array.range (len*i.size)).map (z.cells[· %z.cells.size]!)) (fun v bn=>by
    obtain ⟨p,aU,rfl⟩:=List.mem_map.1 bn;exact cJ p aU) (by simp [hlen])
   rw [←zz] at DM
   have gg:¬len*i.size=0:=by
    have:=Nat.mul_pos (Nat.pos_of_ne_zero aG) jN;omega
   have mQ:=run_buildSlice (P:=P) w t e len (parts.map fun (i,x)=>(i,ca.eval x)) _ i z hu ad pU (by omega) gg DM
   have eN:=dL.zi (w':=w) st rfl rfl rfl rfl (.cells ((parts.toList.map fun p=>ca.eval p.2).flatMap fun v=>v.cells.toList).toArray e) (len*i.size)
   refine ⟨_,_,_,_,mQ,st.zg (w':=w) rfl _ (len*i.size),?_,eN⟩
   have nE:∀k,k<len→(parts.toList.map fun p=>a p.2).getD k .aS=a (parts.toList.getD k (0, .tmp 0)).2∧(parts.toList.map fun p=>ca.eval p.2)[k]?=some (ca.eval (parts.toList.getD k (0, .tmp 0)).2)∧parts.toList.getD k (0, .tmp 0)∈parts.toList:=fun k ak=>by
    have et:k<parts.toList.length:=by omega
    have sj:k<parts.size:=by simpa using et
    simp [List.getD_eq_getElem?_getD,sj]
   have T9:len≤len*i.size:=Nat.le_mul_of_pos_right _ jN
   refine wM (sz:=i.size) (cv:=fun k j=>(ca.eval (parts.toList.getD k (0, .tmp 0)).2).cells.getD j undef) (by simp only [List.length_map];exact hlen) (Nat.le_refl _) (by simp only [maxLen];omega) (by omega) (.inl (by omega)) (qD w _) ?_ (fun k ak=>?_) (by rw [uj]) (fun k j ak aA=>?_) (fun k j ak aA=>?_)
   · have:∀(l:List Value),(∀v∈l,v.cells.size=i.size)→(l.flatMap fun v=>v.cells.toList).length=l.length*i.size:=fun l av=>by
      induction l with
      |nil=>simp
      |cons v l aQ=>rw [List.flatMap_cons,List.length_append,aQ (fun u hu=>av u (by simp [hu]))];simp [av v (by simp),Nat.add_mul,Nat.add_comm]
     rw [List.size_toArray,this _ (fun v bn=>by obtain ⟨p,aU,rfl⟩:=List.mem_map.1 bn;exact cJ p aU),List.length_map,hlen]
   · obtain ⟨J,aa,ai⟩:=nE k ak
     rw [J];exact (aB _ ai).2
   · obtain ⟨J,aa,ai⟩:=nE k ak
     rw [List.getElem?_toArray,Great.flat_get jN _ (fun v bn=>by obtain ⟨p,aU,rfl⟩:=List.mem_map.1 bn;exact cJ p aU)]
     have aM:(k*i.size+j)/i.size=k:=by rw [Nat.mul_comm,Nat.mul_add_div jN,Nat.div_eq_of_lt aA,Nat.add_zero]
     have aC:(k*i.size+j)%i.size=j:=by rw [Nat.mul_comm,Nat.mul_add_mod,Nat.mod_eq_of_lt aA]
     rw [aM,aC,aa,Option.bind_some]
     have:j<(ca.eval (parts.toList.getD k (0, .tmp 0)).2).cells.size:=by rw [cJ _ ai];exact aA
     simp only [Array.getD_eq_getD_getElem?,Array.getElem?_eq_getElem this,Option.getD_some]
   · obtain ⟨J,aa,ai⟩:=nE k ak
     rw [J]
     exact ((qR (au _ ai) (aB _ ai).1).2 j (by rw [(aB _ ai).2];exact aA)).gQ eN.mono eN.cell (by simp)
theorem bc.Lf (h:bc F lim w n fr m ca []) {b off:Nat} {l:List U} (hm:m b=some (.cells l)) (aL:off<l.length):
 ∃v os,w.cell? ⟨b,off,none⟩=some v∧bc F lim w n fr (m.cQ b (some (.cells (l.set off (l.getD off .aS).plain)))) ca os∧aP w lim v (l.getD off .aS) os:=by
 obtain ⟨os,cP,bW,h⟩:=h
 have gY:=h.mem b _ hm
 obtain ⟨wK,fb,fM⟩:=gY
 cases wK with
 |cells cs e _ _ ag al au=>
  have Lg:off<cs.size:=by omega
  refine ⟨cs.getD off undef,cP b off,by simp [World.cell?,ag,Array.getD,Lg],⟨os,fun k i=>if k=b∧i=off then [] else cP k i,fun c=>if bW c= .r3 b off then .kA else if bW c= .kA then .none else bW c,h.size,h.defers,h.ez,fun k o ak=>?_,fun t x aq=>⟨(h.fc t x aq).1,fun c ar=>?_⟩,fun k o ak i=>?_,?_,fun c ar=>?_,fun k ak=>?_⟩,au off aL⟩
  · by_cases h3:k=b
    · subst h3
      simp only [ae.cQ,↓reduceIte,Option.some.injEq] at ak ⊢
      subst ak
      refine ⟨.cells cs e _ _ ag (by simp [al]) (fun i ad=>?_),fb,fM⟩
      simp only [List.length_set] at ad
      by_cases k3:i=off
      · subst k3
        simp only [List.getD_eq_getElem?_getD,List.getElem?_set,aL,if_true,Option.getD_some,and_self]
        have:=(au i ad).plain
        simpa [List.getD_eq_getElem?_getD] using this
      · have:¬off=i:=fun e=>k3 e.symm
        simp only [List.getD_eq_getElem?_getD,List.getElem?_set,this,if_false,k3,and_false]
        have:=au i ad
        simpa [List.getD_eq_getElem?_getD] using this
    · simp only [ae.cQ,if_neg h3] at ak ⊢
      simpa [h3] using h.mem k o ak
  · have:=(h.fc t x aq).2 c ar
    simp [this]
  · by_cases h3:k=b
    · subst h3
      by_cases k3:i=off
      · simp [k3]
      · refine ⟨by simpa [k3] using (h.ed k _ hm i).1,fun c ar=>?_⟩
        have:=(h.ed k _ hm i).2 c (by simpa [k3] using ar)
        simp [this,k3]
    · simp only [ae.cQ,if_neg h3] at ak
      refine ⟨by simpa [h3] using (h.ed k o ak i).1,fun c ar=>?_⟩
      have:=(h.ed k o ak i).2 c (by simpa [h3] using ar)
      simp [this,h3]
  · exact ⟨(h.ed b _ hm off).1,fun c ar=>by simp [(h.ed b _ hm off).2 c ar]⟩
  · have gg:bW c≠ .none:=by
     intro e;simp [e] at ar
    have:=h.free c gg
    refine ⟨this.1,?_,this.2.2⟩
    have iM:c≠b:=fun e=>by subst e;rw [hm] at this;cases this.2.1
    simp only [ae.cQ,if_neg iM]
    exact this.2.1
  · have:=h.fresh k ak
    refine ⟨this.1,this.2.1,?_⟩
    have iM:k≠b:=fun e=>by subst e;rw [hm] at this;cases this.2.2
    simp only [ae.cQ,if_neg iM]
    exact this.2.2
end
end Go.ba
end
section
namespace Go.ba
open Go
section
variable {P:Program} {F:Nat→Prop} {lim:Nat→Nat} {w:World} {n:Nat} {fr:Fr} {m:ae} {ca:Act} {bE:List Nat}
theorem wR (s:Nat):fr.strip [s]=fr.put s (bd fr s).plain:=rfl
theorem bc.sk (h:bc F lim w n fr m ca []) (s:Nat) (al:s<n):∃os,bc F lim w n (fr.strip [s]) m ca os∧aP w lim (ca.tmps.getD s undef) (bd fr s) os:=by
 cases bl:fr.get s with
 |some x=>
  obtain ⟨os,J,aa⟩:=h.take bl
  refine ⟨os,?_,?_⟩
  · rw [wR];simpa [bd,bl] using J
  · simpa [bd,bl] using aa
 |none=>
  refine ⟨[],?_,by simp [bd,bl];exact .aS _⟩
  rw [wR]
  refine h.sub fun t x aq=>?_
  rw [Fr.oT] at aq
  by_cases e:s=t
  · subst e
    simp [bd,bl,U.plain] at aq
    exact .inr ⟨aq.symm,al⟩
  · rw [if_neg e] at aq;exact .inl aq
theorem bc.DN (h:bc F lim w n fr m ca []) (y:Operand) (aK:kD y=true) (al:∀t,y= .tmp t→t<n):∃os,bc F lim w n (fr.strip (kd y)) m ca os∧aP w lim (ca.eval y) (eC (bd fr) y) os:=by
 cases y with
 |tmp t=>exact h.sk t (al t rfl)
 |const v=>exact ⟨[],h,yR aK⟩
 |global g=>exact ⟨[],h, .ptr _⟩
 |func f=>exact ⟨[],h, .func _ #[] #[] [] [] rfl rfl (by simp) (by simp)⟩
theorem hQ (h:bc F lim w n fr m ca bE) {x:Operand} (aq:kD x=true):aP w lim (ca.eval x) (b4 (bd fr) x) []:=by
 rw [uh]
 obtain ⟨_,au,rfl⟩:=tX h aq
 exact au
def uv (P:Program) (F:Nat→Prop) (lim:Nat→Nat) (w:World) (n:Nat) (ca:Act) (o:Oper) (aZ:Fr) (m':ae) (x:U):Prop:=
 ∃v w' lim' os,(execOp ca.eval o).run P w= .ok (.value v) w'∧bc F lim' w' n aZ m' ca os∧aP w' lim' v x os∧dL F w lim w' lim'
theorem zB {o:Oper} {side:Prop} {x:U} (h:bO P m (b4 (bd fr)) o.op=some (side,x)) (al:side) (st:bc F lim w n fr m ca []) (ak:eQ n o=true):uv P F lim w n ca o fr m x:=by
 obtain ⟨v,J,aa⟩:=wG (P:=P) (w:=w) (lim:=lim) h al (ca:=ca) (fun y aK=>hQ st (kG ak y aK)) st.se
 exact ⟨v,w,lim,[],J,st,aa, .refl _ _ _⟩
theorem DO {stl:List Nat} {o:Oper} {side:Prop} {ss:List Nat} {m':ae} {x:U} (h:(match bO P m (b4 (bd fr)) o.op with|some (side,x)=>ja.val side [] m x|none=> .stuck)= .val side ss m' x) (al:side)
 (st:bc F lim w n fr m ca []) (ak:eQ n o=true):uv P F lim w n ca o (fr.strip ss) m' x:=by
 cases aO:bO P m (b4 (bd fr)) o.op with
 |none=>simp [aO] at h
 |some p=>
  obtain ⟨wS,y⟩:=p
  simp only [aO,ja.val.injEq] at h
  obtain ⟨rfl,rfl,rfl,rfl⟩:=h
  exact zB aO al st ak
theorem Lh {v:Value} {l:List U} {os:List Nat} (h:aP w lim v (.tuple l) os) {i:Nat} (ad:i<l.length):∃cs:Array Value,∃uw:List Nat,v= .tuple cs∧i<cs.size∧aP w lim (cs.getD i undef) (l.getD i .aS) uw∧(∀c∈uw,c∈os)∧(os.Nodup→uw.Nodup):=by
 cases h with
 |tuple cs _ oss h au=>exact ⟨cs,oss i,rfl,by omega,au i ad,fun c ar=>Dk.2 ⟨i,ad,ar⟩,fun aI=>(Dj aI).1 i ad⟩
theorem Li {o:Oper} {t:Nat} (ak:eQ n o=true) (aI:(o.op.operands.toList.all fun y=>match y with| .tmp t=>decide (t<n)|_=>true)=true) (aB:Operand.tmp t∈o.op.operands.toList):t<n:=by
 rw [List.all_eq_true] at aI
 simpa using aI _ aB
set_option maxHeartbeats 2000000 in
theorem zC {stl:List Nat} {o:Oper} {side:Prop} {ss:List Nat} {m':ae} {x:U} (h:eD P m (bd fr) stl o.dst o.op= .val side ss m' x) (al:side) (st:bc F lim w n fr m ca []) (ak:eQ n o=true)
 (aI:(o.op.operands.toList.all fun y=>match y with| .tmp t=>decide (t<n)|_=>true)=true):uv P F lim w n ca o (fr.strip ss) m' x:=by
 have aB:∀t,Operand.tmp t∈o.op.operands.toList→t<n:=fun t=>Li ak aI
 have gZ:=kG ak
 have taken:∀s,s<n→(∀a:Act,execOp a.eval o=pure (.value (a.eval (.tmp s))))→uv P F lim w n ca o (fr.strip [s]) m (bd fr s):=fun s r4 he=>by
  obtain ⟨os,J,aa⟩:=st.sk s r4
  exact ⟨ca.eval (.tmp s),w,lim,os,by rw [he ca];rfl,J,aa, .refl _ _ _⟩
 unfold eD at h
 split at h
 · next s cB=>
   simp only [ja.val.injEq] at h
   obtain ⟨rfl,rfl,rfl,rfl⟩:=h
   exact taken s (aB s (by rw [cB];simp [Op.operands])) (fun a=>by simp [execOp,cB])
 · next s cB=>
   split at h
   · simp only [ja.val.injEq] at h
     obtain ⟨rfl,rfl,rfl,rfl⟩:=h
     exact taken s (aB s (by rw [cB];simp [Op.operands])) (fun a=>by simp [execOp,cB])
   · simp only [ja.val.injEq] at h
     obtain ⟨rfl,rfl,rfl,rfl⟩:=h
     exact zB (by rw [cB];rfl) trivial st ak
 · next s i cB=>
   split at h
   · next l av=>
     split at h
     · simp only [ja.val.injEq] at h
       obtain ⟨rfl,rfl,rfl,rfl⟩:=h
       obtain ⟨os,J,aa⟩:=st.sk s (aB s (by rw [cB];simp [Op.operands]))
       rw [av] at aa
       obtain ⟨cs,uw,he,Lj,au,o5,hi⟩:=Lh aa al
       refine ⟨cs.getD i undef,w,lim,uw,?_,J.KK (hi J.KL) o5,au, .refl _ _ _⟩
       simp [execOp,cB,Act.eval,he,Instr.extract,Lj]
     · simp only [ja.val.injEq] at h
       obtain ⟨rfl,rfl,rfl,rfl⟩:=h
       show uv P F lim w n ca o fr m _
       refine zB (fr:=fr) (side:=i<(U.eU l).length) ?_ (by simpa [U.h0] using al) st ak
       rw [cB]
       have bl:=mI l i
       simp only [bO,b4,av,U.plain,bl]
   · cases h
 · next t y cB=>
   split at h
   · split at h
     · next b off o7=>
       split at h
       · next l hm=>
         simp only [ja.val.injEq] at h
         obtain ⟨rfl,rfl,rfl,rfl⟩:=h
         obtain ⟨hu,zD,Lk⟩:=al
         have aK:=hQ st (gZ y (by rw [cB];simp [Op.operands]))
         rw [o7] at aK
         obtain ⟨v,os,J,aa,ai⟩:=st.Lf hm Lk
         refine ⟨v,w,lim,os,?_,aa,ai, .refl _ _ _⟩
         simp [execOp,cB,pP aK,Instr.loadAt,Instr.sureAddr,loadVar,r5 hu,zD,J]
       · cases h
     · cases h
   · exact DO (stl:=stl) (by rw [cB];exact h) al st ak
 · split at h
   · split at h<;>cases h
   · cases h
 · cases h
 · split at h<;>cases h
 · split at h
   · split at h<;>cases h
   · cases h
 · split at h<;>cases h
 · next t parts cB=>
   split at h
   · cases h
   · split at h
     · next cL z hu ao=>
       split at h
       · next cells aN=>
         simp only [ja.val.injEq] at h
         obtain ⟨rfl,rfl,rfl,rfl⟩:=h
         obtain ⟨J,aa,ai⟩:=al
         obtain ⟨v,aJ,aY⟩:=zy (P:=P) (w:=w) (lim:=lim) (ca:=ca) hu ao J aa aN (fun p aU=>hQ st (gZ p.2 (by rw [cB];simp [Op.operands];exact ⟨p.1,by simpa using aU⟩))) ai
         exact ⟨v,w,lim,[],by simp [execOp,cB,aJ],st,aY, .refl _ _ _⟩
       · cases h
     · cases h
 · next t len parts cB=>
   split at h
   · cases h
   · split at h
     · next e hu=>
       simp only [ja.val.injEq] at h
       obtain ⟨rfl,rfl,rfl,rfl⟩:=h
       obtain ⟨J,aa,ai,aJ,aY,bG⟩:=al
       obtain ⟨v,w',lim',os,lB,kZ,ux,uy⟩:=Ld (P:=P) st hu aa ai aJ aY (a:=b4 (bd fr)) (fun p aU=>hQ st (gZ p.2 (by rw [cB];simp [Op.operands];exact ⟨p.1,by simpa using aU⟩))) bG
       exact ⟨v,w',lim',os,by simp [execOp,cB,lB],kZ,ux,uy⟩
     · cases h
 · next args cT cB=>
   split at h
   · next s y t u jq zE=>
     split at h
     · next e cD l own bC hu zF j1 o7=>
       simp only [ja.val.injEq] at h
       obtain ⟨rfl,rfl,rfl,rfl⟩:=h
       obtain ⟨rfl,J,aa,ai,aJ,aY,bG,c7⟩:=al
       have jo:∀z∈args.toList,z∈o.op.operands.toList:=fun z ao=>by rw [cB];simpa [Op.operands,Call.operands] using ao
       obtain ⟨os,s1,s2⟩:=st.sk s (aB s (jo _ (by rw [jq];simp)))
       rw [j1] at s2
       have aK:=hQ st (gZ y (jo _ (by rw [jq];simp)))
       rw [o7] at aK
       have o1:aP w lim (ca.eval y) (.slice false bC) []:=by simpa [U.plain] using aK.plain
       obtain ⟨v,w',lim',fN,lB,kZ,ux,uy⟩:=DA (P:=P) (ty:=o.type) s1 hu ai aa s2 o1 aJ aY bG c7
       refine ⟨v,w',lim',fN,?_,kZ,ux,uy⟩
       have aM:args.map ca.eval=#[ca.eval (.tmp s),ca.eval y]:=by apply Array.ext';simp [jq]
       have aC:cT=#[t,t]:=by apply Array.ext';simp [zE]
       simp only [execOp,cB,resolve,invoke,builtin,Sem.run_bind,Sem.run_pure,Result.andThen_ok,aM,aC]
       simp only [Act.eval] at lB ⊢
       rw [lB];rfl
     · cases h
   · next y t u jq zE=>
     split at h
     · next e cD own bC hu zF o7=>
       simp only [ja.val.injEq] at h
       obtain ⟨rfl,rfl,rfl,rfl⟩:=h
       obtain ⟨rfl,J,aa,ai,aJ,aY⟩:=al
       have jo:∀z∈args.toList,z∈o.op.operands.toList:=fun z ao=>by rw [cB];simpa [Op.operands,Call.operands] using ao
       have aK:=hQ st (gZ y (jo _ (by rw [jq];simp)))
       rw [o7] at aK
       have o1:aP w lim (ca.eval y) (.slice false bC) []:=by simpa [U.plain] using aK.plain
       obtain ⟨o2,ke,_,ey⟩:=yY o1
       obtain ⟨v,w',lim',fN,lB,kZ,ux,uy⟩:=DA (P:=P) (ty:=o.type) st hu ai aa (.fL true) o1 (by simpa using aJ) (by simpa using ey) (by simp) aY
       refine ⟨v,w',lim',fN,?_,kZ,by simpa using ux,uy⟩
       have aM:args.map ca.eval=#[.slice none 0 0,ca.eval y]:=by apply Array.ext';simp [jq,Act.eval]
       have aC:cT=#[t,t]:=by apply Array.ext';simp [zE]
       simp only [execOp,cB,resolve,invoke,builtin,Sem.run_bind,Sem.run_pure,Result.andThen_ok,aM,aC]
       rw [lB];rfl
     · cases h
   · cases h
 · cases h
 · split at h<;>cases h
 · exact DO (stl:=stl) h al st ak
end
end Go.ba
end
section
namespace Go.ba
open Go
section
variable {P:Program} {F:Nat→Prop} {lim:Nat→Nat} {w:World} {n:Nat} {fr:Fr} {m:ae} {ca:Act} {bE:List Nat}
def gh (n:Nat) (o:Oper):Bool:=o.op.operands.toList.all fun y=>match y with| .tmp t=>decide (t<n)|_=>true
theorem wT {o:Oper} (aI:gh n o=true) {y:Operand} (aK:y∈o.op.operands.toList):∀t,y= .tmp t→t<n:=by
 intro t aB
 subst aB
 simp only [gh,List.all_eq_true] at aI
 simpa using aI _ aK
set_option maxHeartbeats 2000000 in
theorem Ll {stl:List Nat} {o:Oper} {side:Prop} {ss:List Nat} {m':ae} (h:eD P m (bd fr) stl o.dst o.op= .nH side ss m') (al:side) (st:bc F lim w n fr m ca []) (ak:eQ n o=true) (aI:gh n o=true):
 ∃w' lim',(execOp ca.eval o).run P w= .ok .skip w'∧bc F lim' w' n (fr.strip ss) m' ca []∧dL F w lim w' lim':=by
 have gZ:=kG ak
 unfold eD at h
 split at h
 case h_5 t a x cB=>
  split at h
  · next b off o7=>
    split at h
    · next l hm=>
      simp only [ja.nH.injEq] at h
      obtain ⟨rfl,rfl,rfl⟩:=h
      obtain ⟨J,aa,ai,aJ,aY⟩:=al
      have aX:=hQ st (gZ a (by rw [cB];simp [Op.operands]))
      rw [o7] at aX
      obtain ⟨os,s1,s2⟩:=st.DN x (gZ x (by rw [cB];simp [Op.operands])) (wT aI (by rw [cB];simp [Op.operands]))
      obtain ⟨oss,jd,c2,c3⟩:=zf s2 J
      obtain ⟨fN,gY⟩:=st.se b _ hm
      obtain ⟨cs,e,_,r8,cJ,_⟩:=yX gY
      rw [←ai] at aY
      have Lm:(ca.eval x).cells.toList.length=(eC (bd fr) x).cells.length:=by simpa using jd
      obtain ⟨lB,kZ⟩:=s1.Dl (vs:=(ca.eval x).cells.toList) hm r8 aY Lm (fun i ad=>by
       have:=c2 i ad
       simpa [Array.getD_eq_getD_getElem?,List.getD_eq_getElem?_getD] using this) c3
      have zu:∀v∈(ca.eval x).cells.toList,v.oneCell'=true:=fun v bn=>by
       obtain ⟨k,sl,rfl⟩:=List.mem_iff_getElem.1 bn
       have sj:k<(eC (bd fr) x).cells.length:=by omega
       have:=c2 k sj
       have bl:(ca.eval x).cells.getD k undef=(ca.eval x).cells.toList[k]:=by
        simp [Array.getD_eq_getD_getElem?,show k<(ca.eval x).cells.size from by simpa using sl]
       rw [bl] at this
       exact Dx aa sj this
      have db:=run_storeCells_at P b off e (ca.eval x).cells.toList 0 cs w r8 (by simp [cJ];omega) zu
      simp only [Nat.add_zero] at db
      rw [←ai]
      refine ⟨_,lim,?_,lB,kZ⟩
      simp only [execOp,cB,pP aX,Instr.storeAt,Instr.sureAddr,storeVar,Sem.run_bind,Sem.run_pure,Result.andThen_ok,lA aJ]
      have gg:¬(ca.eval x).cells.size≠P.cellsOf t:=by rw [jd,ai];simp
      simp only [gg,if_false,Sem.run_bind,Sem.run_pure,Result.andThen_ok,db]
    · cases h
  · cases h
 all_goals first
  |cases h
  |(split at h<;>cases h)
  |(split at h<;>(first|cases h|(split at h<;>first|cases h|(split at h<;>cases h))))
theorem Ln (k s:Nat) (z:List U) (ao:z.length=s) (al:0<s):∀i,i<k*s→(List.replicate k z).flatten.getD i .aS=z.getD (i%s) .aS:=by
 induction k with
 |zero=>intro i ad;omega
 |succ k aQ=>
  intro i ad
  rw [List.replicate_succ,List.flatten_cons]
  by_cases h:i<s
  · rw [mO (by omega),Nat.mod_eq_of_lt h]
  · rw [oq (by omega),ao,aQ (i- s) (by rw [Nat.add_mul] at ad;omega)]
    rw [←Nat.mod_eq_sub_mod (by omega:s≤i)]
def DP (P:Program) (F:Nat→Prop) (lim:Nat→Nat) (w:World) (n:Nat) (ca:Act) (o:Oper) (aZ:Fr) (m:ae) (mk:Nat→U) (hG:fB):Prop:=
 ∃v w' b,(execOp ca.eval o).run P w= .ok (.value v) w'∧m b=none∧bc F lim w' n aZ (m.cQ b (some hG)) ca []∧aP w' lim v (mk b) []∧dL F w lim w' lim
theorem uz (st:bc F lim w n fr m ca bE) (o:Obj):dL F w lim (w.alloc o) lim:=by
 have eN:=dL.alloc st o 0
 have ao:=st.pO
 have fb:(fun b=>if b=w.heap.size then 0 else lim b)=lim:=by funext b;by_cases ag:b=w.heap.size<;>simp [ag,ao]
 rwa [fb] at eN
theorem DQ (st:bc F lim w n fr m ca []):m w.heap.size=none∧bc F lim (w.alloc (.map #[] 0)) n fr (m.cQ w.heap.size (some (.map []))) ca []:=by
 have eN:=uz st (.map #[] 0)
 have ao:=st.pO
 have fM:¬F w.heap.size:=fun aN=>absurd (st.pN aN) (Nat.lt_irrefl _)
 have hm:m w.heap.size=none:=by
  cases ag:m w.heap.size with
  |none=>rfl
  |some o=>exact absurd (st.oW (b:=w.heap.size) (by rw [ag];simp)) (Nat.lt_irrefl _)
 have dP:=st.alloc (.map #[] 0) 0
 have fb:(fun b=>if b=w.heap.size then 0 else lim b)=lim:=by funext b;by_cases ag:b=w.heap.size<;>simp [ag,ao]
 rw [fb] at dP
 refine ⟨hm,?_⟩
 obtain ⟨os,cP,bW,h⟩:=st
 have cl:∀c,bW c≠ .none→c<w.heap.size:=fun c ar=>(h.free c ar).2.2
 refine ⟨os,fun b i=>if b=w.heap.size then [] else cP b i,bW,h.size,h.defers,fun t x aq=>⟨(h.ez t x aq).1,(h.ez t x aq).2.gQ eN.mono eN.cell (fun c ar=>⟨kC w _ c (cl c (by rw [(h.fc t x aq).2 c ar];simp)),rfl⟩)⟩,fun b o ag=>?_,h.fc,fun b o ag i=>?_,h.fW,fun c ar=>?_,fun b ag=>?_⟩
 · by_cases mL:b=w.heap.size
   · subst mL
     simp only [ae.cQ,↓reduceIte,Option.some.injEq] at ag ⊢
     subst ag
     exact ⟨.map #[] 0 [] (qD w _) rfl (by simp) (fun i ad=>by simp at ad) (fun i ad=>by simp at ad) (fun i j _ aA=>by simp at aA) (fun i ad=>by simp at ad) _,ao,fM⟩
   · simp only [ae.cQ,if_neg mL] at ag ⊢
     have nL:b<w.heap.size:=by
      rcases Nat.lt_or_ge b w.heap.size with fv|fv
      · exact fv
      · have:=(h.fresh b fv).2.2;rw [ag] at this;cases this
     have Ua:¬b=w.heap.size:=mL
     exact ⟨(h.mem b o ag).1.gQ (kC w _ b nL) eN.mono eN.cell (fun i c ar=>⟨kC w _ c (cl c (by rw [(h.ed b o ag i).2 c ar];simp)),rfl⟩),(h.mem b o ag).2⟩
 · by_cases mL:b=w.heap.size
   · subst mL
     simp
   · simp only [ae.cQ,if_neg mL] at ag ⊢
     exact h.ed b o ag i
 · have:=h.free c ar
   refine ⟨this.1,?_,by simp;omega⟩
   simp only [ae.cQ]
   rw [if_neg (by omega)]
   exact this.2.1
 · simp at ag
   have:=h.fresh b (by omega)
   refine ⟨this.1,this.2.1,?_⟩
   simp only [ae.cQ]
   rw [if_neg (by omega)]
   exact this.2.2
set_option maxHeartbeats 2000000 in
theorem Lo {stl:List Nat} {o:Oper} {side:Prop} {ss:List Nat} {mk:Nat→U} {hG:fB} (h:eD P m (bd fr) stl o.dst o.op= .new side ss mk hG) (al:side) (st:bc F lim w n fr m ca []) (ak:eQ n o=true):
 DP P F lim w n ca o (fr.strip ss) m mk hG:=by
 have gZ:=kG ak
 have zG:∀(cs:Array Value) (e:TypeId) (l:List U),uu w lim cs l→∀v,(execOp ca.eval o).run P w= .ok (.value v) (w.alloc (.cells cs e))→aP (w.alloc (.cells cs e)) lim v (mk w.heap.size) []→hG= .cells l→DP P F lim w n ca o fr m mk hG:=fun cs e l ar v au bn aL=>by
  obtain ⟨J,aa⟩:=st.CZ cs e l ar.1 ar.2
  subst aL
  exact ⟨v,_,w.heap.size,au,J,aa,bn,uz st _⟩
 unfold eD at h
 split at h
 case h_6 t x cB=>
  simp only [ja.new.injEq] at h
  obtain ⟨rfl,rfl,rfl,rfl⟩:=h
  have aq:=hQ st (gZ x (by rw [cB];simp [Op.operands]))
  exact zG _ t _ (qR aq al) (.pointer (some ⟨w.heap.size,0,none⟩)) (by simp [execOp,cB,Instr.box,newVar,newRow]) (.ptr _) rfl
 case h_7 t cB=>
  split at h
  · next z ao=>
    simp only [ja.new.injEq] at h
    obtain ⟨rfl,rfl,rfl,rfl⟩:=h
    obtain ⟨v,J,aa,rfl,aJ⟩:=zx (w:=w) (lim:=lim) ao
    exact zG _ t _ (qR aJ al) (.pointer (some ⟨w.heap.size,0,none⟩)) (by simp [execOp,cB,Instr.alloc,newVar,newRow,J]) (.ptr _) rfl
  · cases h
 case h_8 t x y cB=>
  split at h
  · next e k ea hu aq aK=>
    split at h
    · next z ao=>
      simp only [ja.new.injEq] at h
      obtain ⟨rfl,rfl,rfl,rfl⟩:=h
      obtain ⟨J,aa,ai,aJ,rfl,bG,c7,cV⟩:=al
      obtain ⟨v,g1,g2,rfl,g4⟩:=zx (w:=w) (lim:=lim) ao
      have wU:=hQ st (gZ x (by rw [cB];simp [Op.operands]))
      have sh:=hQ st (gZ y (by rw [cB];simp [Op.operands]))
      rw [aq] at wU;rw [aK] at sh
      obtain ⟨ex,Lp,Lq⟩:=lC wU
      obtain ⟨zH,_,_⟩:=lC sh
      have hw:=C0 .i64 k Lp Lq
      cases ad:P.info? e with
      |none=>simp [dS,Program.underlying,ad] at aa
      |some i=>
       obtain ⟨j0,pV⟩:=wN ad
       rw [j0] at ai aJ;rw [pV] at c7
       have ou:v.cells.size=i.size:=by rw [←wO];exact ai
       obtain ⟨Lr,iw,cM,bI,_,h4⟩:=zk (P:=P) (e:=e) (by rw [ao];rfl)
       rw [ad] at cM
       obtain rfl:i=Lr:=by simpa using cM
       have Ls:iw=v:=by
        have:=g1
        simp [zeroValue,typeInfo,ad,bI] at this
        exact this
       subst Ls
       have hmul:(i.bytes:Int)*k=k*i.bytes:=Int.mul_comm _ _
       have mQ:=run_make (P:=P) w t e i iw hu ad bI .i64 .i64 k k bG (Int.le_refl _) (by omega) (by omega)
       refine zG (madeCells iw.cells (k.toNat*i.size)) e _ ?_ (.slice (some ⟨w.heap.size,0,none⟩) k.toNat k.toNat) ?_ (.ms _ _ _ (Nat.le_refl _) (by simp only [maxLen];omega)) rfl
       · refine ⟨by simp [wO,ou,size_madeCells],fun j aA=>?_⟩
         have jr:j<k.toNat*i.size:=by simpa [wO,ou] using aA
         have DR:=Nat.mod_lt j aJ
         rw [Ln _ i.size _ ai aJ j jr]
         have aM:(madeCells iw.cells (k.toNat*i.size)).getD j undef=iw.cells.getD (j%i.size) undef:=by
          unfold madeCells
          rw [Array.getD_eq_getD_getElem?,Array.getElem?_map,Array.getElem?_range,if_pos jr]
          simp [getElem!_pos,ou,DR,Array.getD]
         rw [aM]
         exact (qR g4 J).2 _ (by rw [ai];exact DR)
       · simp only [execOp,cB,ex,zH,Sem.run_bind,mQ,Result.andThen_ok];rfl
    · cases h
  · cases h
 case h_9 t r cB=>
  split at h
  · next k e hu au=>
    simp only [ja.new.injEq] at h
    obtain ⟨rfl,rfl,rfl,rfl⟩:=h
    obtain ⟨J,aa⟩:=DQ st
    refine ⟨.map (some w.heap.size),_,w.heap.size,?_,J,aa, .map _,uz st _⟩
    cases r with
    |none=>simp [execOp,cB,Instr.makeMap,fi hu]
    |some y=>simp at au
  · next k e fs cm hu au=>
    simp only [ja.new.injEq] at h
    obtain ⟨rfl,rfl,rfl,rfl⟩:=h
    obtain ⟨J,aa⟩:=DQ st
    refine ⟨.map (some w.heap.size),_,w.heap.size,?_,J,aa, .map _,uz st _⟩
    cases r with
    |none=>simp at au
    |some y=>
     simp at au
     have aK:=hQ st (gZ y (by rw [cB];simp [Op.operands]))
     rw [au] at aK
     obtain ⟨zH,_,_⟩:=lC aK
     simp [execOp,cB,Instr.makeMap,fi hu,zH,asInt,asIntOf]
  · cases h
 all_goals first
  |cases h
  |(split at h<;>cases h)
  |(split at h<;>(first|cases h|(split at h<;>first|cases h|(split at h<;>cases h))))
end
end Go.ba
end
section
namespace Go.ba
open Go
section
variable {P:Program} {F:Nat→Prop} {lim:Nat→Nat} {w:World} {n:Nat} {fr:Fr} {m:ae} {ca:Act} {bE:List Nat}
def Place.ix:Place→Bool
 | .slot _=>true
 |_=>false
theorem bc.split (h:bc F lim w n fr m ca []):∃kB:Nat→Prop,(∀b,F b→kB b)∧bc kB lim w 0 [] m k0 []∧
 ∀lim' w' m' os,bc kB lim' w' 0 [] m' k0 os→dL kB w lim w' lim'→bc F lim' w' n fr m' ca os:=by
 obtain ⟨os,cP,bW,h⟩:=h
 refine ⟨fun b=>F b∨(bW b).ix=true,fun b ag=> .inl ag,⟨os,cP,fun c=>if (bW c).ix then .none else bW c,rfl,rfl,fun t x aq=>by simp [Fr.get] at aq,fun b o ag=>?_,fun t x aq=>by simp [Fr.get] at aq,fun b o ag i=>⟨(h.ed b o ag i).1,fun c ar=>by simp [(h.ed b o ag i).2 c ar,Place.ix]⟩,⟨by simp,by simp⟩,fun c ar=>?_,fun b ag=>?_⟩,?_⟩
 · refine ⟨(h.mem b o ag).1,(h.mem b o ag).2.1,fun aN=>?_⟩
   rcases aN with aN|aN
   · exact (h.mem b o ag).2.2 aN
   · have:=(h.free b (by intro e;rw [e] at aN;simp [Place.ix] at aN)).2.1
     rw [ag] at this;cases this
 · by_cases al:(bW c).ix=true
   · simp [al] at ar
   · simp only [al] at ar
     have:=h.free c (by simpa using ar)
     exact ⟨fun aN=>aN.elim this.1 al,this.2⟩
 · have:=h.fresh b ag
   refine ⟨this.1,fun aN=>aN.elim this.2.1 (fun al=>?_),this.2.2⟩
   have:=(h.free b (by intro e;rw [e] at al;simp [Place.ix] at al)).2.2
   omega
 · intro lim' w' m' bE ⟨C4,zI,uA,k⟩ dQ
   have js:∀c,uA c≠ .none→¬(bW c).ix=true:=fun c ar al=>(k.free c ar).1 (.inr al)
   refine ⟨os,zI,fun c=>if (bW c).ix then bW c else uA c,h.size,h.defers,fun t x aq=>⟨(h.ez t x aq).1,(h.ez t x aq).2.gQ dQ.mono dQ.cell (fun c ar=>dQ.res c (.inr ?_))⟩,fun b o ag=>?_,fun t x aq=>⟨(h.fc t x aq).1,fun c ar=>?_⟩,fun b o ag i=>⟨(k.ed b o ag i).1,fun c ar=>?_⟩,⟨k.fW.1,fun c ar=>?_⟩,fun c ar=>?_,fun b ag=>?_⟩
   · rw [(h.fc t x aq).2 c ar];rfl
   · exact ⟨(k.mem b o ag).1,(k.mem b o ag).2.1,fun aN=>(k.mem b o ag).2.2 (.inl aN)⟩
   · have:=(h.fc t x aq).2 c ar
     simp [this,Place.ix]
   · have J:=(k.ed b o ag i).2 c ar
     have:=js c (by rw [J];simp)
     simp [this,J]
   · have J:=k.fW.2 c ar
     have:=js c (by rw [J];simp)
     simp [this,J]
   · by_cases al:(bW c).ix=true
     · have J:=h.free c (by intro e;rw [e] at al;simp [Place.ix] at al)
       refine ⟨J.1,?_,Nat.lt_of_lt_of_le J.2.2 dQ.size⟩
       cases hm:m' c with
       |none=>rfl
       |some o=>exact ((k.mem c o hm).2.2 (.inr al)).elim
     · have J:=k.free c (by simpa [al] using ar)
       exact ⟨fun aN=>J.1 (.inl aN),J.2⟩
   · have:=k.fresh b ag
     exact ⟨this.1,fun aN=>this.2.1 (.inl aN),this.2.2⟩
theorem wV {f:FuncId} {args:List U} {K:U→ae→Prop} (ar:bg P f args m K) (st:bc F lim w n fr m ca []) {cargs:Array Value} (al:cargs.size=args.length) (au:∀i,i<args.length→aP w lim (cargs.getD i undef) (args.getD i .aS) [])
 {o:Oper} {next:Act→World→Prop} {Q:Exit→Act→World→Prop} (he:∀fn,P.funcs[f]?=some fn→fn.body.isSome=true→(fn.name== "runtime.NumGoroutine")=false→(execOp ca.eval o).run P w= .ok (.enter f cargs) w)
 (aI:∀v x lim' w' m' os,K x m'→aP w' lim' v x os→bc F lim' w' n fr m' ca os→dL F w lim w' lim'→next (ca.put o.dst v) w'):o.wp P ca w next Q:=by
 obtain ⟨⟨fn,J,aa,ai⟩,qS⟩:=ar
 obtain ⟨kB,fM,s1,s2⟩:=st.split
 unfold Oper.wp
 rw [he fn J aa ai,Oper.upon_enter]
 refine (qS kB lim w cargs al au s1).mono fun e w' ⟨v,x,lim',m',os,he,ab,fw,gm,eN⟩=>?_
 subst he
 exact aI v x lim' w' m' os ab fw (s2 lim' w' m' os gm eN) (eN.weaken fM)
theorem sn {f:FuncId} {fn:Func} (args:Array Value) (J:P.funcs[f]?=some fn) (aa:fn.body.isSome=true) (ai:(fn.name== "runtime.NumGoroutine")=false):(callFunc f args).run P w= .ok (.enter f args) w:=by
 have DS:fn.body.isNone=false:=by cases h:fn.body<;>simp_all
 have uB:¬fn.name= "runtime.NumGoroutine":=by simpa using ai
 have Lt:¬fn.body=none:=by intro e;rw [e] at aa;cases aa
 simp [callFunc,J,uB,Lt]
theorem Lu {ops:Array Oper} {stl:List Nat} {o:Oper} {K iZ:Fr→ae→Prop} (ab:∀fr m,K fr m→iZ fr m) (h:mN P ops stl o K fr m):mN P ops stl o iZ fr m:=by
 unfold mN at h ⊢
 split at h
 · split at h
   · exact ⟨h.1,ab _ _ h.2⟩
   · exact ⟨h.1,ab _ _ h.2⟩
   · exact ⟨h.1,fun b ag=>ab _ _ (h.2 b ag)⟩
   · refine h.mono fun x m' aq=>?_
     unfold wH at aq ⊢
     split at aq<;>exact ab _ _ aq
   · exact h
 · split at h
   · split at h
     · split at h
       · obtain ⟨x,J,aa⟩:=h
         exact ⟨x,J,ab _ _ aa⟩
       · split at h
         · obtain ⟨x,J,aa⟩:=h
           exact ⟨x,J,ab _ _ aa⟩
         · exact h
       · split at h
         · exact ⟨h.1,ab _ _ h.2⟩
         · exact h
     · exact h
   · exact h
theorem bc.er {d:Option Nat} (h:bc F lim w n fr m ca bE) (bo:∀t,d=some t→t<n) {v:Value} {x:U} (aq:aP w lim v x bE):bc F lim w n (ba.er fr d x) m (ca.put d v) []:=by
 cases d with
 |none=>exact h.drop
 |some d=>exact h.CY (bo d rfl) aq
theorem DT {v:Value} {x:U} {os:List Nat} (h:aP w lim v x os):aP w lim v (wI true x) os:=by
 unfold wI
 split
 · simpa using h
 · exact h
theorem wW {op:Op} (st:bc F lim w n fr m ca bE) {y:Operand} (aK:kD y=true):aP w lim (ca.eval y) (pS (bd fr) true op y) []:=by
 unfold pS
 split
 · exact DT (hQ st aK)
 · exact C8 (DT (hQ st aK))
theorem uC {args:Array Operand} {a:Operand→U} (h:∀y∈args.toList,aP w lim (ca.eval y) (a y) []):(args.map ca.eval).size=(args.toList.map a).length∧∀i,i<(args.toList.map a).length→aP w lim ((args.map ca.eval).getD i undef) ((args.toList.map a).getD i .aS) []:=by
 refine ⟨by simp,fun i ad=>?_⟩
 simp only [List.length_map] at ad
 have eV:i<args.size:=by simpa using ad
 have aM:(args.map ca.eval).getD i undef=ca.eval args[i]:=by simp [Array.getD,eV]
 have aC:(args.toList.map a).getD i .aS=a args[i]:=by simp [List.getD_eq_getElem?_getD,eV]
 rw [aM,aC]
 exact h _ (by simp)
theorem Lv {e:Value} {f:FuncId} {first mg args:List U} {cs:Array Value} (aN:aP w lim e (.func (.func f) first mg) []) (dP:cs.size=args.length∧∀i,i<args.length→aP w lim (cs.getD i undef) (args.getD i .aS) []):
 ∃dU ke:Array Value,e= .func (.func f) dU ke∧(dU++cs++ke).size=(first++args++mg).length∧∀i,i<(first++args++mg).length→aP w lim ((dU++cs++ke).getD i undef) ((first++args++mg).getD i .aS) []:=by
 cases aN with
 |func _ dU ke _ _ J aa ai aJ=>
  refine ⟨dU,ke,rfl,by simp [J,aa,dP.1],fun i ad=>?_⟩
  simp only [List.length_append] at ad
  by_cases i1:i<first.length
  · have aM:(dU++cs++ke).getD i undef=dU.getD i undef:=by
     simp [Array.getD_eq_getD_getElem?,Array.getElem?_append,J,i1,show i<first.length+cs.size from by omega]
    rw [aM,mO (by simp;omega),mO i1];exact ai i i1
  · by_cases i2:i<first.length+cs.size
    · have aM:(dU++cs++ke).getD i undef=cs.getD (i- first.length) undef:=by
       simp [Array.getD_eq_getD_getElem?,Array.getElem?_append,J,i1,i2,show i- first.length<cs.size from by omega]
      rw [aM,mO (by simp;omega),oq (by omega)];exact dP.2 _ (by omega)
    · have aM:(dU++cs++ke).getD i undef=ke.getD (i- (first.length+cs.size)) undef:=by
       simp [Array.getD_eq_getD_getElem?,Array.getElem?_append,J,i1,i2,show ¬i- first.length<cs.size from by omega,Nat.sub_sub]
      have hlen:(first++args).length=first.length+cs.size:=by simp [dP.1]
      rw [aM,oq (by omega),hlen];exact aJ _ (by omega)
theorem Lw {stl:List Nat} {o:Oper} {f:FuncId} {args:List U} (h:eD P m (bd fr) stl o.dst o.op= .call f args) (st:bc F lim w n fr m ca []) (ak:eQ n o=true):
 ∃cargs:Array Value,cargs.size=args.length∧(∀i,i<args.length→aP w lim (cargs.getD i undef) (args.getD i .aS) [])∧
  ∀fn,P.funcs[f]?=some fn→fn.body.isSome=true→(fn.name== "runtime.NumGoroutine")=false→(execOp ca.eval o).run P w= .ok (.enter f cargs) w:=by
 have gZ:=kG ak
 unfold eD at h
 split at h
 case h_13 g kJ cT cB=>
  simp only [ja.call.injEq] at h
  obtain ⟨rfl,rfl⟩:=h
  have dP:=uC (ca:=ca) (a:=b4 (bd fr)) (args:=kJ) (fun y aK=>hQ st (gZ y (by rw [cB];simp [Op.operands,Call.operands];exact .inr (by simpa using aK))))
  refine ⟨kJ.map ca.eval,dP.1,dP.2,fun fn J aa ai=>?_⟩
  simp [execOp,cB,resolve,Deferred.ofValue,Act.eval,invoke,sn _ J aa ai]
 case h_14 t kJ cT cB=>
  split at h
  · next g first mg j1=>
    simp only [ja.call.injEq] at h
    obtain ⟨rfl,rfl⟩:=h
    have dP:=uC (ca:=ca) (a:=b4 (bd fr)) (args:=kJ) (fun y aK=>hQ st (gZ y (by rw [cB];simp [Op.operands,Call.operands];exact .inr (by simpa using aK))))
    have aN:=hQ st (x:= .tmp t) rfl
    simp only [b4,j1,U.plain] at aN
    generalize he:ca.eval (.tmp t)=e at aN
    cases aN with
    |func _ dU ke _ _ J aa ai aJ=>
     refine ⟨dU++kJ.map ca.eval++ke,by simp [J,aa],fun i ad=>?_,fun fn g1 g2 g3=>?_⟩
     · simp only [List.length_append,List.length_map,Array.length_toList] at ad
       by_cases i1:i<first.length
       · have aM:(dU++kJ.map ca.eval++ke).getD i undef=dU.getD i undef:=by
          simp [Array.getD_eq_getD_getElem?,Array.getElem?_append,J,i1,show i<first.length+kJ.size from by omega]
         rw [aM,mO (by simp;omega),mO i1];exact ai i i1
       · by_cases i2:i<first.length+kJ.size
         · have aM:(dU++kJ.map ca.eval++ke).getD i undef=(kJ.map ca.eval).getD (i- first.length) undef:=by
            simp [Array.getD_eq_getD_getElem?,Array.getElem?_append,J,i1,i2,show i- first.length<kJ.size from by omega]
           rw [aM,mO (by simp;omega),oq (by omega)];exact dP.2 _ (by simp;omega)
         · have aM:(dU++kJ.map ca.eval++ke).getD i undef=ke.getD (i- (first.length+kJ.size)) undef:=by
            simp [Array.getD_eq_getD_getElem?,Array.getElem?_append,J,i1,i2,show ¬i- first.length<kJ.size from by omega,Nat.sub_sub]
           have hlen:(first++kJ.toList.map (b4 (bd fr))).length=first.length+kJ.size:=by simp
           rw [aM,oq (by omega),hlen];exact aJ _ (by omega)
     · simp [execOp,cB,resolve,he,Deferred.ofValue,invoke,sn _ g1 g2 g3]
  · cases h
 all_goals first
  |cases h
  |(split at h<;>cases h)
  |(split at h<;>(first|cases h|(split at h<;>first|cases h|(split at h<;>cases h))))
def DU:Value→Option Bool
 | .bool b=>some b
 |_=>none
theorem Lx {v:Value} {x:U} {b z:Bool} {os:List Nat} (ao:sg x b=some z) (au:aP w lim v x os):(DU v==some b)=z:=by
 unfold sg at ao
 split at ao
 · obtain rfl:=Option.some.inj ao
   cases au
   rename_i c
   cases c<;>rfl
 · obtain rfl:=Option.some.inj ao
   cases au
   rename_i c
   cases c<;>rfl
 · obtain rfl:=Option.some.inj ao
   cases au with
   |nC _ _ _ au=>
    cases au
    rename_i c
    cases c<;>rfl
   |lx=>rfl
 · obtain rfl:=Option.some.inj ao
   cases au with
   |nC _ _ _ au=>
    cases au
    rename_i c
    cases c<;>rfl
   |lx=>rfl
 · cases ao
theorem Ly {ops:Array Oper} {o:Oper} {j g:Nat} {b z:Bool} (bl:o.guard=some (j,b)) (aA:(ops[j]?).bind (·.dst)=some g) (st:bc F lim w n fr m ca bE) (ao:sg (bd fr g) b=some z):
 Region.wanted o (yielded ops ca.tmps)=z:=by
 obtain ⟨os,cP,bW,h⟩:=st
 cases aT:fr.get g with
 |none=>simp [bd,aT,sg] at ao
 |some x=>
  simp only [bd,aT,Option.getD_some] at ao
  obtain ⟨cl,au⟩:=h.ez g _ aT
  have nL:g<ca.tmps.size:=by rw [h.size];exact cl
  have so:ca.tmps[g]?=some (ca.tmps.getD g undef):=by
   rw [Array.getElem?_eq_getElem nL]
   simp [Array.getD,nL]
  have:=Lx ao au
  simp only [Region.wanted,bl,yielded,aA,Option.bind_some,so]
  rw [←this]
  generalize ca.tmps.getD g undef=v
  cases v<;>rfl
theorem zJ {ops:Array Oper} {o:Oper} {l:List Oper} {K:Fr→ae→Prop} {j g d:Nat} {b z:Bool} {x:U} (bl:o.guard=some (j,b)) (aA:(ops[j]?).bind (·.dst)=some g) (bo:o.dst=some d) (ib:d<n) (ar:sg (bd fr g) b=some z)
 (mQ:z=true→∀F lim w ca,bc F lim w n fr m ca []→∀(next:Act→World→Prop) Q,(∀v lim' w',bc F lim' w' n fr m ca []→aP w' lim' v x []→dL F w lim w' lim'→next (ca.put o.dst v) w')→o.wp P ca w next Q)
 (ab:bR P n ops l K (fr.put d (.lazy z x)) m):bR P n ops (o::l) K fr m:=by
 intro F lim w ca Q st aO
 have hw:=Ly (ops:=ops) bl aA st ar
 unfold wpList
 by_cases iM:z=true
 · rw [if_pos (by rw [hw];exact iM)]
   refine .inl (mQ iM F lim w ca st _ _ fun v lim' w' s1 s2 mR=>?_)
   refine ab.from aO ?_ mR
   rw [bo,iM]
   exact s1.set ib (.nC _ _ _ s2)
 · have aN:z=false:=by simpa using iM
   rw [if_neg (by rw [hw,aN];simp)]
   refine ab.from aO ?_ (.refl _ _ _)
   rw [bo,aN]
   exact st.set ib (.lx _)
theorem uD {ops:Array Oper} {stl:List Nat} {o:Oper} {l:List Oper} {K:Fr→ae→Prop} (ak:eQ n o=true) (aI:gh n o=true) (h:mN P ops stl o (bR P n ops l K) fr m):bR P n ops (o::l) K fr m:=by
 unfold mN at h
 split at h
 · next bl=>
   refine bR.step bl fun F lim w ca st next Q k4=>?_
   split at h
   · next side ss m' x aX=>
     obtain ⟨v,w',lim',os,J,aa,ai,aJ⟩:=zC (P:=P) aX h.1 st ak aI
     exact nG J (k4 lim' w' _ _ _ h.2 (aa.er (fun t aB=>jZ ak aB) ai) aJ)
   · next side ss m' aX=>
     obtain ⟨w',lim',J,aa,ai⟩:=Ll (P:=P) aX h.1 st ak aI
     exact Di J (k4 lim' w' _ _ _ h.2 (aa.er (fun t aB=>jZ ak aB) (.aS _)) ai)
   · next side ss mk hG aX=>
     obtain ⟨v,w',b,J,aa,ai,aJ,aY⟩:=Lo (P:=P) aX h.1 st ak
     exact nG J (k4 lim w' _ _ _ (h.2 b aa) (ai.er (fun t aB=>jZ ak aB) aJ) aY)
   · next f args aX=>
     obtain ⟨cargs,J,aa,ai⟩:=Lw (P:=P) aX st ak
     refine wV h st J aa ai fun v x lim' w' m' os ab fw gm eN=>k4 lim' w' (er fr o.dst x) m' _ ?_ (gm.er (fun t aB=>jZ ak aB) fw) eN
     unfold wH at ab
     cases bo:o.dst<;>simpa [bo,er] using ab
   · exact h.elim
 · next j b bl=>
   split at h
   · next g d aA bo=>
     split at h
     · next c ar=>
       have ib:=jZ ak bo
       split at h
       · next f args cT cB=>
         obtain ⟨x,J,aa⟩:=h
         refine zJ bl aA bo ib ar (fun iM F lim w ca st next Q k4=>?_) aa
         rw [iM] at J
         have qS:=J rfl (fun bX m'=>bX=x∧m'=m) ⟨rfl,rfl⟩
         have dP:=uC (ca:=ca) (a:=pS (bd fr) true o.op) (args:=args) (fun y aK=>wW st (kG ak y (by rw [cB];simp [Op.operands,Call.operands];exact .inr (by simpa using aK))))
         refine wV qS st dP.1 dP.2 (fun fn g1 g2 g3=>by simp [execOp,cB,resolve,Deferred.ofValue,Act.eval,invoke,sn _ g1 g2 g3]) fun v bX lim' w' m' os ab fw gm eN=>?_
         obtain ⟨rfl,rfl⟩:=ab
         exact k4 v lim' w' gm.drop fw.plain eN
       · next t args cT cB=>
         split at h
         · next f first mg DV=>
           obtain ⟨x,J,aa⟩:=h
           refine zJ bl aA bo ib ar (fun iM F lim w ca st next Q k4=>?_) aa
           rw [iM] at J DV
           have qS:=J rfl (fun bX m'=>bX=x∧m'=m) ⟨rfl,rfl⟩
           have dP:=uC (ca:=ca) (a:=pS (bd fr) true o.op) (args:=args) (fun y aK=>wW st (kG ak y (by rw [cB];simp [Op.operands,Call.operands];exact .inr (by simpa using aK))))
           have fM:=wW (op:=o.op) st (y:= .tmp t) rfl
           rw [DV] at fM
           obtain ⟨dU,ke,he,ia,jX⟩:=Lv fM dP
           refine wV qS st ia jX (fun fn g1 g2 g3=>by simp [execOp,cB,resolve,he,Deferred.ofValue,invoke,sn _ g1 g2 g3]) fun v bX lim' w' m' os ab fw gm eN=>?_
           obtain ⟨rfl,rfl⟩:=ab
           exact k4 v lim' w' gm.drop fw.plain eN
         · exact h.elim
       · split at h
         · next side x aO=>
           refine zJ bl aA bo ib ar (fun iM F lim w ca st next Q k4=>?_) h.2
           rw [iM] at aO h
           obtain ⟨v,J,aa⟩:=wG (P:=P) (w:=w) (lim:=lim) aO (h.1 rfl) (ca:=ca) (fun y aK=>wW st (kG ak y aK)) st.se
           exact nG J (k4 v lim w st aa (.refl _ _ _))
         · exact h.elim
     · exact h.elim
   · exact h.elim
def kf (n:Nat) (ops:Array Oper) (ks:List Nat):Bool:=(ops.toList.all fun o=>eQ n o&&gh n o)&&ks.all fun t=>decide (t<n)
def Fr.init:Nat→List U→Fr
 |_,[]=>[]
 |i,x::r=>(i,x)::Fr.init (i+1) r
theorem Fr.DW:∀(l:List U) (k t:Nat) (x:U),(Fr.init k l).get t=some x→k≤t∧t- k<l.length∧l.getD (t- k) .aS=x:=by
 intro l
 induction l with
 |nil=>intro k t x h;simp [Fr.init,Fr.get] at h
 |cons y l aQ=>
  intro k t x h
  simp only [Fr.init,Fr.get] at h
  by_cases e:k=t
  · subst e
    simp at h
    subst h
    simp
  · rw [if_neg e] at h
    obtain ⟨J,aa,ai⟩:=aQ (k+1) t x h
    refine ⟨by omega,by simp;omega,?_⟩
    rw [show t- k=(t- (k+1))+1 from by omega,List.getD_cons_succ]
    exact ai
def kK (P:Program) (fr:Fr) (m:ae):ResultVar→Option (Prop×U)
 | .tmp t=>some (True,bd fr t)
 | .cell a t=>
   match bd fr a with
   | .ptr ⟨b,off,none⟩=>
     match m b with
     |some (.cells l)=>some (jJ P t l off,(apart P t l off).plain)
     |_=>none
   |_=>none
def qT (P:Program) (fn:Func) (fr:Fr) (m:ae) (K:U→ae→Prop):Prop:=
 match fn.results.toList with
 |[r]=>
  match kK P fr m r with
  |some (side,x)=>side∧∃m',(∀b o,m' b=some o→m b=some o)∧K x m'
  |none=>False
 |[r,s]=>
  match kK P fr m r,kK P fr m s with
  |some (side,x),some (ov,y)=>side∧ov∧∃m',(∀b o,m' b=some o→m b=some o)∧K (.tuple [x,y.plain]) m'
  |_,_=>False
 |[r,s,t]=>
  match kK P fr m r,kK P fr m s,kK P fr m t with
  |some (side,x),some (ov,y),some (uE,z)=>side∧ov∧uE∧∃m',(∀b o,m' b=some o→m b=some o)∧K (.tuple [x,y.plain,z.plain]) m'
  |_,_,_=>False
 |[]=>∃m',(∀b o,m' b=some o→m b=some o)∧K (.tuple []) m'
 |[r,s,t,u]=>
  match kK P fr m r,kK P fr m s,kK P fr m t,kK P fr m u with
  |some (side,x),some (ov,y),some (uE,z),some (DX,a)=>side∧ov∧uE∧DX∧∃m',(∀b o,m' b=some o→m b=some o)∧K (.tuple [x.plain,y.plain,z.plain,a.plain]) m'
  |_,_,_,_=>False
 |_=>False
def DY (P:Program) (fn:Func) (K:U→ae→Prop):Exit→Fr→ae→Prop
 | .ret,fr,m| .normal,fr,m=>qT P fn fr m K
 |_,_,_=>False
end
end Go.ba
end
section
namespace Go.ba
open Go
section
variable {P:Program} {F:Nat→Prop} {lim:Nat→Nat} {w:World} {n:Nat} {fr:Fr} {m:ae} {ca:Act} {bE:List Nat}
theorem bc.toMem (h:bc F lim w n fr m ca bE):bc F lim w 0 [] m k0 bE:=by
 obtain ⟨os,cP,bW,h⟩:=h
 exact ⟨os,cP,bW,rfl,rfl,fun t x aq=>by simp [Fr.get] at aq,h.mem,fun t x aq=>by simp [Fr.get] at aq,h.ed,h.fW,h.free,h.fresh⟩
theorem bc.defers (h:bc F lim w n fr m ca bE):ca.defers=[]:=by
 obtain ⟨os,cP,bW,h⟩:=h
 exact h.defers
theorem bc.DZ (h:bc F lim w n fr m ca []) (s:Nat):∃os,bc F lim w 0 [] m k0 os∧aP w lim (ca.tmps.getD s undef) (bd fr s) os:=by
 cases bl:fr.get s with
 |none=>exact ⟨[],h.toMem,by simp [bd,bl];exact .aS _⟩
 |some x=>
  obtain ⟨os,J,aa⟩:=h.take bl
  exact ⟨os,J.toMem,by simpa [bd,bl] using aa⟩
def mj (P:Program) (tmps:Array Value) (w:World) (v:Value):ResultVar→Prop
 | .tmp t=>v=tmps.getD t undef
 | .cell a t=>∃p,tmps.getD a undef= .pointer (some p)∧(loadVar t p).run P w= .ok v w
theorem ow {r:ResultVar} {side:Prop} {x:U} (h:kK P fr m r=some (side,x)) (al:side) (st:bc F lim w n fr m ca []):∃v os,mj P ca.tmps w v r∧bc F lim w 0 [] m k0 os∧aP w lim v x os:=by
 cases r with
 |tmp t=>
  obtain ⟨rfl,rfl⟩:=some_inj h
  obtain ⟨os,J,aa⟩:=st.DZ t
  exact ⟨_,os,rfl,J,aa⟩
 |cell a t=>
  simp only [kK] at h
  split at h
  · next b off j1=>
    split at h
    · next l hm=>
      obtain ⟨rfl,rfl⟩:=some_inj h
      obtain ⟨os,gY⟩:=st.se b _ hm
      obtain ⟨cs,e,oss,r8,cJ,au⟩:=yX gY
      have aU:ca.tmps.getD a undef= .pointer (some ⟨b,off,none⟩):=by
       obtain ⟨fN,_,aa⟩:=st.DZ a
       rw [j1] at aa
       exact pP aa
      obtain ⟨v,J,aa⟩:=ua (P:=P) (w:=w) (lim:=lim) (t:=t) (b:=b) (off:=0) (l:=U.eU l) (f:=fun i=>cs.getD i undef) (k:=off) (by simpa [jJ,U.h0] using al)
       (fun i ad=>by
         have eV:i<cs.size:=by simpa [U.h0,cJ] using ad
         simp [World.cell?,r8,Array.getD,eV])
       (fun i ad=>by rw [mI];exact (au i (by simpa [U.h0] using ad)).plain)
      simp only [Nat.zero_add] at J
      have:apart P t (U.eU l) off=(apart P t l off).plain:=by
       unfold apart
       split
       · simp [U.plain,U.h0,List.map_drop,List.map_take]
       · rw [mI]
      exact ⟨v,[],⟨_,aU,J⟩,st.toMem,by rw [←this];exact aa⟩
    · cases h
  · cases h
def zK (tmps:Array Value):ResultVar→Sem Value
 | .tmp t=>pure (tmps.getD t undef)
 | .cell a t=>do loadVar t (←asAddr (tmps.getD a undef))
theorem wX (fn:Func) (tmps:Array Value):results fn tmps=(do let vs ←fn.results.mapM (zK tmps);pure (if h:vs.size=1 then vs[0] else .tuple vs):Sem Value):=by
 unfold results
 congr 1
theorem ox {tmps:Array Value} {v:Value} {r:ResultVar} (h:mj P tmps w v r):(zK tmps r).run P w= .ok v w:=by
 cases r with
 |tmp t=>simp only [mj] at h;subst h;rfl
 |cell a t=>
  obtain ⟨p,J,aa⟩:=h
  simp [zK,J,asAddr,aa]
theorem Lz {fn:Func} {tmps:Array Value} {r:ResultVar} {v:Value} (aN:fn.results.toList=[r]) (h:mj P tmps w v r):(results fn tmps).run P w= .ok v w:=by
 have e:fn.results=#[r]:=by apply Array.ext';simpa using aN
 rw [wX,e]
 simp [ox h]
theorem LA {fn:Func} {tmps:Array Value} {r s:ResultVar} {v u:Value} (aN:fn.results.toList=[r,s]) (h:mj P tmps w v r) (k:mj P tmps w u s):(results fn tmps).run P w= .ok (.tuple #[v,u]) w:=by
 have e:fn.results=#[r,s]:=by apply Array.ext';simpa using aN
 rw [wX,e]
 simp [ox h,ox k]
theorem LB {fn:Func} {tmps:Array Value} {r s t:ResultVar} {v u x:Value} (aN:fn.results.toList=[r,s,t]) (h:mj P tmps w v r) (k:mj P tmps w u s) (j:mj P tmps w x t):(results fn tmps).run P w= .ok (.tuple #[v,u,x]) w:=by
 have e:fn.results=#[r,s,t]:=by apply Array.ext';simpa using aN
 rw [wX,e]
 simp [ox h,ox k,ox j]
theorem LC {fn:Func} {tmps:Array Value} {r s t q:ResultVar} {v u x y:Value} (aN:fn.results.toList=[r,s,t,q]) (h:mj P tmps w v r) (k:mj P tmps w u s) (j:mj P tmps w x t) (i:mj P tmps w y q):(results fn tmps).run P w= .ok (.tuple #[v,u,x,y]) w:=by
 have e:fn.results=#[r,s,t,q]:=by apply Array.ext';simpa using aN
 rw [wX,e]
 simp [ox h,ox k,ox j,ox i]
theorem LD {v u s t:Value} {x y z a:U} (h:aP w lim v x []) (k:aP w lim u y []) (j:aP w lim s z []) (l:aP w lim t a []):aP w lim (.tuple #[v,u,s,t]) (.tuple [x,y,z,a]) []:=by
 have:=aP.tuple (w:=w) (lim:=lim) #[v,u,s,t] [x,y,z,a] (fun _=>[]) (by simp) (fun i ad=>by
  have:i=0∨i=1∨i=2∨i=3:=by simp at ad;omega
  rcases this with rfl|rfl|rfl|rfl
  · exact h
  · exact k
  · exact j
  · exact l)
 rw [flatMap_nil] at this
 exact this
theorem LF {v u:Value} {x y:U} {os:List Nat} (h:aP w lim v x os) (k:aP w lim u y []):aP w lim (.tuple #[v,u]) (.tuple [x,y]) os:=by
 have:=aP.tuple (w:=w) (lim:=lim) #[v,u] [x,y] (fun i=>if i=0 then os else []) (by simp) (fun i ad=>by
  have:i=0∨i=1:=by simp at ad;omega
  rcases this with rfl|rfl
  · exact h
  · exact k)
 simpa [List.range_succ] using this
theorem LG {v u s:Value} {x y z:U} {os:List Nat} (h:aP w lim v x os) (k:aP w lim u y []) (j:aP w lim s z []):aP w lim (.tuple #[v,u,s]) (.tuple [x,y,z]) os:=by
 have:=aP.tuple (w:=w) (lim:=lim) #[v,u,s] [x,y,z] (fun i=>if i=0 then os else []) (by simp) (fun i ad=>by
  have:i=0∨i=1∨i=2:=by simp at ad;omega
  rcases this with rfl|rfl|rfl
  · exact h
  · exact k
  · exact j)
 simpa [List.range_succ] using this
theorem D0 {fn:Func} {K:U→ae→Prop} (h:qT P fn fr m K) (st:bc F lim w n fr m ca []):
 ∃v x m' os,(results fn ca.tmps).run P w= .ok v w∧K x m'∧aP w lim v x os∧bc F lim w 0 [] m' k0 os:=by
 unfold qT at h
 split at h
 · next r au=>
   split at h
   · next side x he=>
     obtain ⟨al,m',hm,ab⟩:=h
     obtain ⟨v,os,J,aa,ai⟩:=ow (P:=P) he al st
     exact ⟨v,x,m',os,Lz au J,ab,ai,aa.qF hm⟩
   · exact h.elim
 · next r s au=>
   split at h
   · next side x ov y he uF=>
     obtain ⟨al,uG,m',hm,ab⟩:=h
     obtain ⟨v,os,J,aa,ai⟩:=ow (P:=P) he al st
     obtain ⟨u,fN,fj,ej,ic⟩:=ow (P:=P) uF uG st
     exact ⟨_,_,m',os,LA au J fj,ab,LF ai ic.plain,aa.qF hm⟩
   · exact h.elim
 · next r s t au=>
   split at h
   · next side x ov y uE z he uF zL=>
     obtain ⟨al,uG,zM,m',hm,ab⟩:=h
     obtain ⟨v,os,J,aa,ai⟩:=ow (P:=P) he al st
     obtain ⟨u,fN,fj,ej,ic⟩:=ow (P:=P) uF uG st
     obtain ⟨s,LH,zN,LI,zO⟩:=ow (P:=P) zL zM st
     exact ⟨_,_,m',os,LB au J fj zN,ab,LG ai ic.plain zO.plain,aa.qF hm⟩
   · exact h.elim
 · next au=>
   obtain ⟨m',hm,ab⟩:=h
   have e:fn.results=#[]:=by apply Array.ext';simpa using au
   refine ⟨.tuple #[],_,m',[],?_,ab,?_,st.toMem.qF hm⟩
   · simp [results,e]
   · have:=aP.tuple (w:=w) (lim:=lim) #[] [] (fun _=>[]) rfl (fun i ad=>by simp at ad)
     simpa using this
 · next r s t q au=>
   split at h
   · next side x ov y uE z DX a he uF zL LJ=>
     obtain ⟨al,uG,zM,LK,m',hm,ab⟩:=h
     obtain ⟨v,os,J,aa,ai⟩:=ow (P:=P) he al st
     obtain ⟨u,fN,fj,ej,ic⟩:=ow (P:=P) uF uG st
     obtain ⟨s,LH,zN,LI,zO⟩:=ow (P:=P) zL zM st
     obtain ⟨t,Ub,i1,i2,i3⟩:=ow (P:=P) LJ LK st
     exact ⟨_,_,m',[],LC au J fj zN i1,ab,LD ai.plain ic.plain zO.plain i3.plain,st.toMem.qF hm⟩
   · exact h.elim
 · exact h.elim
theorem D1 {f:FuncId} {fn:Func} {c:Code} {args:List U} {K:U→ae→Prop} (aN:P.funcs[f]?=some fn) (ag:fn.body=some c) (uH:(fn.name== "runtime.NumGoroutine")=false) (jq:args.length≤fn.ntmps)
 (h:de P fn.ntmps c (DY P fn K) (Fr.init 0 args) m):bg P f args m K:=by
 refine ⟨⟨fn,aN,by rw [ag];rfl,uH⟩,fun F lim w cargs al au st=>calls_of_wp aN ag ?_⟩
 have fq:bc F lim w fn.ntmps (Fr.init 0 args) m {tmps:=cargs++Array.replicate (fn.ntmps- cargs.size) undef,defers:=[]} []:=by
  obtain ⟨os,cP,bW,k⟩:=st
  refine ⟨fun _=>[],cP,bW,by simp;omega,rfl,fun t x aq=>?_,k.mem,fun t x aq=>by simp,k.ed,k.fW,k.free,k.fresh⟩
  obtain ⟨_,J,aa⟩:=Fr.DW args 0 t x aq
  simp only [Nat.sub_zero] at J aa
  refine ⟨by omega,?_⟩
  have e:(cargs++Array.replicate (fn.ntmps- cargs.size) undef).getD t undef=cargs.getD t undef:=by
   simp [Array.getD_eq_getD_getElem?,Array.getElem?_append,show t<cargs.size from by omega]
  rw [e,←aa]
  exact au t J
 refine wp_mono (h F lim w _ fq) fun e a w' ⟨lim',aZ,m',q,s1,dQ⟩=>?_
 have uI:qT P fn aZ m' K→a.defers=[]∧∃v,(results fn a.tmps).run P w'= .ok v w'∧∃iw x lim' m' os,Ending.returned v= .returned iw∧K x m'∧aP w' lim' iw x os∧bc F lim' w' 0 [] m' k0 os∧dL F w lim w' lim':=fun q=>by
  obtain ⟨v,x,mf,os,J,aa,ai,aJ⟩:=D0 q s1
  exact ⟨s1.defers,v,J,v,x,lim',mf,os,rfl,aa,ai,aJ,dQ⟩
 cases e with
 |ret=>exact uI q
 |normal=>exact uI q
 |_=>exact q.elim
end
end Go.ba
end
section
namespace Go.ba
open Go
section
variable {P:Program}
theorem LL {m:ae} {a cR:Operand→U}:∀(op:Op),(∀y∈op.operands.toList,a y=cR y)→bO P m a op=bO P m cR op:=by
 intro op h
 cases op with
 |call c=>
  obtain ⟨y3,args,cT⟩:=c
  cases y3 with
  |builtin b=>
   have cp:∀y∈args.toList,a y=cR y:=fun y aK=>h y (by simpa [Op.operands,Call.operands] using aK)
   cases b with
   |len=>
    simp only [bO]
    cases aq:args[0]? with
    |none=>rfl
    |some x=>
     have:=cp x (by rw [Array.mem_toList_iff];exact Array.mem_of_getElem? aq)
     cases cT[0]?<;>simp only [this]
   |max=>
    simp only [bO]
    split
    · next x y oy=>rw [cp x (by rw [oy];simp),cp y (by rw [oy];simp)]
    · rfl
   |min=>
    simp only [bO]
    split
    · next x y oy=>rw [cp x (by rw [oy];simp),cp y (by rw [oy];simp)]
    · rfl
   |_=>rfl
  |_=>rfl
 |slice t x bw ad y2=>
  cases y2 with
  |some z=>rfl
  |none=>
   have aM:bw.map a=bw.map cR:=by cases bw with
    |none=>rfl
    |some y=>simp [h y (by simp [Op.operands])]
   have aC:ad.map a=ad.map cR:=by cases ad with
    |none=>rfl
    |some y=>simp [h y (by simp [Op.operands])]
   simp only [bO,aM,aC,h x (by simp [Op.operands])]
 |typeAssert x t u ok=>cases ok<;>simp [bO,h x (by simp [Op.operands])]
 |pick c x y=>simp only [bO,h c (by simp [Op.operands]),h x (by simp [Op.operands]),h y (by simp [Op.operands])]
 |binOp op t x y t2=>simp only [bO,h x (by simp [Op.operands]),h y (by simp [Op.operands])]
 |indexAddr t x y=>simp only [bO,h x (by simp [Op.operands]),h y (by simp [Op.operands])]
 |index t x y=>simp only [bO,h x (by simp [Op.operands]),h y (by simp [Op.operands])]
 |move x=>simp only [bO,h x (by simp [Op.operands])]
 |assign x=>simp only [bO,h x (by simp [Op.operands])]
 |load t x=>simp only [bO,h x (by simp [Op.operands])]
 |nilCheck x=>simp only [bO,h x (by simp [Op.operands])]
 |unOp op t x=>simp only [bO,h x (by simp [Op.operands])]
 |convert s d x=>simp only [bO,h x (by simp [Op.operands])]
 |makeInterface t x=>simp only [bO,h x (by simp [Op.operands])]
 |fieldAddr t x f=>simp only [bO,h x (by simp [Op.operands])]
 |field t x f=>simp only [bO,h x (by simp [Op.operands])]
 |extract x i=>simp only [bO,h x (by simp [Op.operands])]
 |_=>rfl
def tmpsOf (op:Op):List Nat:=op.operands.toList.flatMap kd
def slotsOf (ops:Array Oper) (o:Oper):List Nat:=
 (match o.guard with
 |some (j,_)=>(match (ops[j]?).bind (·.dst) with|some g=>[g]|none=>[])
 |none=>[])++tmpsOf o.op
theorem uJ {raw je:Nat→U} {op:Op} (h:∀t∈tmpsOf op,raw t=je t):∀y∈op.operands.toList,b4 raw y=b4 je y:=by
 intro y aK
 cases y with
 |tmp t=>simp only [b4,h t (List.mem_flatMap.2 ⟨_,aK,by simp [kd]⟩)]
 |_=>rfl
def pY:U→Bool→Option Bool
 | .bool c,true=>some c
 | .bool c,false=>some (!c)
 | .lazy false _,_=>some false
 |_,_=>none
def hI (ops:Array Oper) (fr:Fr):Option (Nat×Bool)→Option Bool
 |none=>some true
 |some (j,b)=>
  match (ops[j]?).bind (·.dst) with
  |some g=>pY (bd fr g) b
  |none=>none
def j2 (P:Program) (m:ae) (c:U) (raw:Nat→U) (o:Oper):Option (Prop×U):=
 match o.op with
 | .call ⟨.value (.func f),args,_⟩=>some (sf P f (args.toList.map (b4 raw)) m c,c.plain)
 | .buildSlice t len parts=>
   match eD P m raw [] o.dst (.buildSlice t len parts) with
   | .val side [] _ x=>some (side,x.plain)
   |_=>none
 | .build t parts=>
   match eD P m raw [] o.dst (.build t parts) with
   | .val side [] _ x=>some (side,x.plain)
   |_=>none
 | .pick b x y=>
   match b4 raw b with
   | .bool true=>some (True,b4 raw x)
   | .bool false=>some (True,b4 raw y)
   |_=>none
 |op=>bO P m (b4 raw) op
def pv (P:Program) (ops:Array Oper) (m:ae) (c:U) (raw:Nat→U) (o:Oper):Option (Prop×U):=
 match o.guard with
 |none=>j2 P m c raw o
 |some (j,b)=>
  match (ops[j]?).bind (·.dst) with
  |some g=>
   match pY (raw g) b with
   |some true=>j2 P m c raw o
   |some false=>some (True, .lazy false .aS)
   |none=>none
  |none=>none
theorem D2 {m:ae} {c:U} {raw je:Nat→U} {o:Oper} (aB:∀t∈tmpsOf o.op,raw t=je t):j2 P m c raw o=j2 P m c je o:=by
 unfold j2
 split
 · next f args cT cB=>
   have:args.toList.map (b4 raw)=args.toList.map (b4 je):=List.map_congr_left fun y aK=>uJ aB y (by rw [cB];simp [Op.operands,Call.operands];exact .inr (by simpa using aK))
   rw [this]
 · next t len parts cB=>
   have aU:∀q∈parts.toList,b4 raw q.2=b4 je q.2:=fun q aO=>uJ aB q.2 (by rw [cB];simp [Op.operands];exact ⟨q.1,by simpa using aO⟩)
   have:eD P m raw [] o.dst (.buildSlice t len parts)=eD P m je [] o.dst (.buildSlice t len parts):=by
    simp only [eD]
    split
    · rfl
    split
    · have aM:(parts.toList.map fun p=>b4 raw p.2)=parts.toList.map fun p=>b4 je p.2:=List.map_congr_left aU
      have aC:(∀q∈parts.toList,(b4 raw q.2).dy=true∧(b4 raw q.2).cells.length=P.cellsOf ‹TypeId›)=(∀q∈parts.toList,(b4 je q.2).dy=true∧(b4 je q.2).cells.length=P.cellsOf ‹TypeId›):=by
       apply propext
       constructor
       · intro h q aO;rw [←aU q aO];exact h q aO
       · intro h q aO;rw [aU q aO];exact h q aO
      rw [aM,aC]
    · rfl
   rw [this]
 · next t parts cB=>
   have aU:∀q∈parts.toList,b4 raw q.2=b4 je q.2:=fun q aO=>uJ aB q.2 (by rw [cB];simp [Op.operands];exact ⟨q.1,by simpa using aO⟩)
   have:eD P m raw [] o.dst (.build t parts)=eD P m je [] o.dst (.build t parts):=by
    simp only [eD]
    split
    · rfl
    split
    · have aM:(parts.toList.map fun p=>(p.1,b4 raw p.2))=parts.toList.map fun p=>(p.1,b4 je p.2):=List.map_congr_left fun q aO=>by rw [aU q aO]
      have aC:(∀q∈parts.toList,(b4 raw q.2).dy=true)=(∀q∈parts.toList,(b4 je q.2).dy=true):=by
       apply propext
       constructor
       · intro h q aO;rw [←aU q aO];exact h q aO
       · intro h q aO;rw [aU q aO];exact h q aO
      rw [aM,aC]
    · rfl
   rw [this]
 · next b x y cB=>
   have e:∀q∈[b,x,y],b4 raw q=b4 je q:=fun q aO=>uJ aB q (by rw [cB];simpa [Op.operands] using aO)
   rw [e b (by simp),e x (by simp),e y (by simp)]
 · exact LL _ (uJ aB)
theorem LM {ops:Array Oper} {m:ae} {c:U} {raw je:Nat→U} {o:Oper} (h:∀t∈slotsOf ops o,raw t=je t):pv P ops m c raw o=pv P ops m c je o:=by
 have aB:∀t∈tmpsOf o.op,raw t=je t:=fun t aB=>h t (List.mem_append.2 (.inr aB))
 unfold pv
 cases bl:o.guard with
 |none=>exact D2 aB
 |some zP=>
  obtain ⟨j,b⟩:=zP
  simp only
  cases aA:(ops[j]?).bind (·.dst) with
  |none=>rfl
  |some g=>
   have LN:raw g=je g:=h g (by simp [slotsOf,bl,aA])
   simp only [LN,D2 aB]
def ml (P:Program) (ops:Array Oper) (m:ae):List U→List Oper→Fr→(Fr→Prop)→Prop
 |_,[],fr,K=>K fr
 |cs,o::r,fr,K=>
  match pv P ops m (cs.headD .aS) (bd fr) o with
  |some (side,x)=>side∧ml P ops m (match o.op with| .call ⟨.value (.func _),_,_⟩=>cs.tail|_=>cs) r (er fr o.dst x) K
  |none=>False
theorem LO {ops:Array Oper} {m:ae}:∀(l:List Oper) (cs:List U) (fr:Fr) (K:Fr→Prop),ml P ops m cs l fr K→∃(T:Nat→Fr) (c:Nat→U) (val:Nat→U),T 0=fr∧K (T l.length)∧
 ∀i o,l[i]?=some o→(∃side,pv P ops m (c i) (bd (T i)) o=some (side,val i)∧side)∧T (i+1)=er (T i) o.dst (val i):=by
 intro l
 induction l with
 |nil=>intro cs fr K h;exact ⟨fun _=>fr,fun _=> .aS,fun _=> .aS,rfl,h,fun i o ad=>by simp at ad⟩
 |cons o l aQ=>
  intro cs fr K h
  simp only [ml] at h
  split at h
  · next side x aU=>
    obtain ⟨al,h⟩:=h
    obtain ⟨T,c,val,J,aa,ai⟩:=aQ _ _ K h
    refine ⟨fun i=>match i with|0=>fr|i+1=>T i,fun i=>match i with|0=>cs.headD .aS|i+1=>c i,fun i=>match i with|0=>x|i+1=>val i,rfl,aa,fun i ei ad=>?_⟩
    cases i with
    |zero=>simp at ad;subst ad;exact ⟨⟨side,aU,al⟩,J⟩
    |succ i=>exact ai i ei (by simpa using ad)
  · exact h.elim
def wY (o:Oper) (j:Nat):Bool:=o.after.toList.any fun e=>e.on==j&&Region.binds .any e
variable {F:Nat→Prop} {lim:Nat→Nat} {w:World} {n:Nat} {fr:Fr} {m:ae} {ca:Act} {bE:List Nat}
theorem LP {f:FuncId} {args:List U} {x:U} (ar:sf P f args m x) (st:bc F lim w n fr m ca []) {cargs:Array Value} (al:cargs.size=args.length) (au:∀i,i<args.length→aP w lim (cargs.getD i undef) (args.getD i .aS) [])
 {o:Oper} {next:Act→World→Prop} {Q:Exit→Act→World→Prop} (he:∀fn,P.funcs[f]?=some fn→fn.body.isSome=true→(fn.name== "runtime.NumGoroutine")=false→(execOp ca.eval o).run P w= .ok (.enter f cargs) w)
 (aI:∀v lim' w',bc F lim' w' n fr m ca []→aP w' lim' v x.plain []→dL F w lim w' lim'→next (ca.put o.dst v) w'):o.wp P ca w next Q:=
 wV (ar (fun bX m'=>bX=x∧m'=m) ⟨rfl,rfl⟩) st al au he fun v bX lim' w' m' os ab fw gm eN=>by
  obtain ⟨rfl,rfl⟩:=ab
  exact aI v lim' w' gm.drop fw.plain eN
theorem D3 {v:Value} {x:U} {b z:Bool} {os:List Nat} (ao:pY x b=some z) (au:aP w lim v x os):(DU v==some b)=z:=by
 unfold pY at ao
 split at ao
 · obtain rfl:=Option.some.inj ao
   cases au
   rename_i c
   cases c<;>rfl
 · obtain rfl:=Option.some.inj ao
   cases au
   rename_i c
   cases c<;>rfl
 · obtain rfl:=Option.some.inj ao
   cases au with
   |lx=>rfl
 · cases ao
theorem D4 {ops:Array Oper} {o:Oper} {j g:Nat} {b z:Bool} (bl:o.guard=some (j,b)) (aA:(ops[j]?).bind (·.dst)=some g) (st:bc F lim w n fr m ca bE) (ao:pY (bd fr g) b=some z):
 Region.wanted o (yielded ops ca.tmps)=z:=by
 obtain ⟨os,cP,bW,h⟩:=st
 cases aT:fr.get g with
 |none=>simp [bd,aT,pY] at ao
 |some x=>
  simp only [bd,aT,Option.getD_some] at ao
  obtain ⟨cl,au⟩:=h.ez g _ aT
  have nL:g<ca.tmps.size:=by rw [h.size];exact cl
  have so:ca.tmps[g]?=some (ca.tmps.getD g undef):=by
   rw [Array.getElem?_eq_getElem nL]
   simp [Array.getD,nL]
  have:=D3 ao au
  simp only [Region.wanted,bl,yielded,aA,Option.bind_some,so]
  rw [←this]
  generalize ca.tmps.getD g undef=v
  cases v<;>rfl
theorem LQ {o:Oper} {c:U} {side:Prop} {x:U} (ak:eQ n o=true) (aI:gh n o=true) (h:j2 P m c (bd fr) o=some (side,x)) (al:side) (st:bc F lim w n fr m ca [])
 {next:Act→World→Prop} {Q:Exit→Act→World→Prop} (kg:∀v lim' w',bc F lim' w' n fr m ca []→aP w' lim' v x []→dL F w lim w' lim'→(∀s,o.op= .move (.tmp s)→v=ca.tmps.getD s undef)→next (ca.put o.dst v) w'):o.wp P ca w next Q:=by
 have gZ:=kG ak
 unfold j2 at h
 split at h
 · next f args cT cB=>
   replace kg:∀v lim' w',bc F lim' w' n fr m ca []→aP w' lim' v x []→dL F w lim w' lim'→next (ca.put o.dst v) w':=fun v lim' w' J aa ai=>kg v lim' w' J aa ai fun s al=>by rw [cB] at al;cases al
   obtain ⟨rfl,rfl⟩:=some_inj h
   have dP:=uC (ca:=ca) (a:=b4 (bd fr)) (args:=args) (fun y aK=>hQ st (gZ y (by rw [cB];simp [Op.operands,Call.operands];exact .inr (by simpa using aK))))
   exact LP al st dP.1 dP.2 (fun fn g1 g2 g3=>by simp [execOp,cB,resolve,Deferred.ofValue,Act.eval,invoke,sn _ g1 g2 g3]) kg
 · next t len parts cB=>
   split at h
   · next ov m' bX aX=>
     obtain ⟨rfl,rfl⟩:=some_inj h
     rw [←cB] at aX
     have uK:m'=m:=by
      rw [cB] at aX
      simp only [eD] at aX
      split at aX
      · cases aX
      split at aX
      · injection aX with _ _ e;exact e.symm
      · cases aX
     subst uK
     obtain ⟨v,w',lim',os,J,aa,ai,aJ⟩:=zC (P:=P) aX al st ak aI
     exact nG J (kg v lim' w' aa.drop ai.plain aJ fun s al=>by rw [cB] at al;cases al)
   · cases h
 · next t parts cB=>
   split at h
   · next ov m' bX aX=>
     obtain ⟨rfl,rfl⟩:=some_inj h
     rw [←cB] at aX
     have uK:m'=m:=by
      rw [cB] at aX
      simp only [eD] at aX
      split at aX
      · cases aX
      split at aX
      · split at aX
        · injection aX with _ _ e;exact e.symm
        · cases aX
      · cases aX
     subst uK
     obtain ⟨v,w',lim',os,J,aa,ai,aJ⟩:=zC (P:=P) aX al st ak aI
     exact nG J (kg v lim' w' aa.drop ai.plain aJ fun s al=>by rw [cB] at al;cases al)
   · cases h
 · next gG bX om cB=>
   have D5:∀(pZ:Bool),b4 (bd fr) gG= .bool pZ→x=b4 (bd fr) (if pZ then bX else om)→o.wp P ca w next Q:=by
    intro pZ ag aq
    have zQ:=hQ st (gZ gG (by rw [cB];simp [Op.operands]))
    rw [ag] at zQ
    have LR:ca.eval gG= .bool pZ:=by
     generalize ca.eval gG=v at zQ
     cases zQ
     rfl
    have uL:=hQ st (gZ (if pZ then bX else om) (by rw [cB];cases pZ<;>simp [Op.operands]))
    rw [←aq] at uL
    refine nG (v:=ca.eval (if pZ then bX else om)) ?_ (kg _ lim w st uL (.refl _ _ _) fun s al=>by rw [cB] at al;cases al)
    cases pZ<;>simp [execOp,cB,LR,asBool]
   split at h
   · next ag=>obtain ⟨rfl,rfl⟩:=some_inj h;exact D5 true ag rfl
   · next ag=>obtain ⟨rfl,rfl⟩:=some_inj h;exact D5 false ag rfl
   · cases h
 · obtain ⟨v,J,aa⟩:=wG (P:=P) (w:=w) (lim:=lim) h al (ca:=ca) (fun y aK=>hQ st (gZ y aK)) st.se
   exact nG J (kg v lim w st aa (.refl _ _ _) fun s al=>by
    rw [execOp,al] at J
    simp only [Sem.run_pure,Result.ok.injEq] at J
    have:=J.1
    injection this with this
    rw [←this];rfl)
theorem LS {ops:Array Oper} {o:Oper} {c:U} {side:Prop} {x:U} {d:Nat} (ak:eQ n o=true) (aI:gh n o=true) (h:pv P ops m c (bd fr) o=some (side,x)) (al:side) (bo:o.dst=some d) (st:bc F lim w n fr m ca [])
 {next:Act→World→Prop} {Q:Exit→Act→World→Prop} (aO:∀lim' w' v,bc F lim' w' n (fr.put d x) m (ca.put o.dst v) []→dL F w lim w' lim'→(∀s,o.op= .move (.tmp s)→o.guard=none→v=ca.tmps.getD s undef)→next (ca.put o.dst v) w'):
 if Region.wanted o (yielded ops ca.tmps) then o.wp P ca w next Q∨(o.asks P ca w∧LetsOut Q) else next (ca.put o.dst undef) w:=by
 have ib:=jZ ak bo
 have run:j2 P m c (bd fr) o=some (side,x)→o.wp P ca w next Q:=fun h=>LQ ak aI h al st fun v lim' w' J aa ai aJ=>aO lim' w' _ (by rw [bo];exact J.set ib aa) ai fun s al _=>aJ s al
 unfold pv at h
 split at h
 · next bl=>
   rw [if_pos (by simp [Region.wanted,bl])]
   exact .inl (run h)
 · next j b bl=>
   split at h
   · next g aA=>
     split at h
     · next ao=>
       rw [if_pos (D4 bl aA st ao)]
       exact .inl (run h)
     · next ao=>
       rw [D4 bl aA st ao,if_neg (by simp)]
       obtain ⟨rfl,rfl⟩:=some_inj h
       refine aO lim w _ ?_ (.refl _ _ _) fun s _ D6=>by rw [bl] at D6;cases D6
       rw [bo];exact st.set ib (.lx _)
     · cases h
   · cases h
end
end Go.ba
end
section
namespace Go.ba
open Go
theorem filter_lt {α:Type} (p oj:α→Bool) (wZ:∀x,oj x=true→p x=true):∀(l:List α) (i:α),i∈l→p i=true→oj i=false→(l.filter oj).length<(l.filter p).length:=by
 have hle:∀l:List α,(l.filter oj).length≤(l.filter p).length:=fun l=>by
  induction l with
  |nil=>simp
  |cons x l aQ=>
   simp only [List.filter_cons]
   cases J:oj x with
   |true=>simp [wZ x J];exact aQ
   |false=>cases aa:p x<;>simp<;>omega
 intro l
 induction l with
 |nil=>intro i ad;cases ad
 |cons x l aQ=>
  intro i ad J aa
  simp only [List.filter_cons]
  rcases List.mem_cons.1 ad with rfl|ad
  · simp [J,aa]
    have:=hle l;omega
  · have:=aQ i ad J aa
    cases ai:oj x with
    |true=>simp [wZ x ai];exact this
    |false=>cases aJ:p x<;>simp<;>omega
section
variable {P:Program} {n:Nat} {fr:Fr} {m:ae}
structure Uc (ops:Array Oper):Prop where
 dst:∀(i:Nat) (o:Oper),ops[i]?=some o→∃d,o.dst=some d
 back:∀(i:Nat) (o:Oper) (e:Edge),ops[i]?=some o→e∈o.after→Region.binds .any e=true→e.on<i
 apart:∀(i j:Nat) (o p:Oper),ops[i]?=some o→ops[j]?=some p→o.dst=p.dst→i=j
 looks:∀(i j:Nat) (o p:Oper) (d:Nat),ops[i]?=some o→ops[j]?=some p→p.dst=some d→d∈slotsOf ops o→(j<i→∃e∈o.after,e.on=j∧Region.binds .any e=true)∧(i<j→∃e∈p.after,e.on=i∧Region.binds .any e=true)
theorem D7 {o:Oper} {j:Nat} (h:wY o j=true):∃e∈o.after,e.on=j∧Region.binds .any e=true:=by
 simp only [wY,List.any_eq_true] at h
 obtain ⟨e,J,aa⟩:=h
 simp only [Bool.and_eq_true,beq_iff_eq] at aa
 exact ⟨e,by simpa using J,aa.1,aa.2⟩
theorem D8 (fr:Fr) (d t:Nat) (x:U):bd (fr.put d x) t=if d=t then x else bd fr t:=by
 simp only [bd,Fr.oT]
 split<;>rfl
def Fr.D9 (t:Nat) (x:U):Fr→Fr
 |[]=>[]
 |(s,y)::r=>if s=t then (s,x)::r else (s,y)::Fr.D9 t x r
def Fr.over (fr:Fr):List (Nat×U)→Fr
 |[]=>fr
 |(t,x)::r=>Fr.over (Fr.D9 t x fr) r
end
end Go.ba
end
section
namespace Go.ba
open Go Go.RowKit Go.WideShapes Go.ChangeShapes
def lE (W:World) (b:Nat):Nat:=match W.heap[b]? with
 |some (.cells cs _ _)=>cs.size
 |_=>0
section
variable {P:Program}
theorem LU {W:World} {b o:Nat} {v:Value} (h:W.cell? ⟨b,o,none⟩=some v):o<lE W b:=by
 unfold World.cell? at h
 unfold lE
 split at h
 · next cs e Ea ag=>
   rw [ag]
   simp only at h ⊢
   exact (Array.getElem?_eq_some_iff.1 h).1
 · cases h
end
section
variable {H:Type} {enc:TypeId×Value→H} {P:Program}
theorem LV {f:Func} {s:ChangeSpec} {apart fresh handsOn again:Bool} {W kL:World} {args:Array Value} {v:Value} {fx gs:List (DataW H)} {before pa pv:List MemPlace}
 (gH:DataW.Whole enc P f.params.toList s.vars apart W args.toList fx gs before)
 (uM:∀(b:Nat) (sp:Nat→Bool) (bo:Bool),DataW.TrodAll enc P kL b sp bo f.resultTypes.toList (v.resultList f.resultTypes.size) (s.fn H (fx++gs)).results [])
 (jq:∀sp:Nat→Bool,(∀p∈before,sp p.block=true)→DataW.TrodAll enc P kL 0 sp true f.params.toList args.toList (s.fn H (fx++gs)).args pa)
 (uN:∀sp:Nat→Bool,(∀p∈before,sp p.block=true)→DataW.TrodVars enc P kL sp s.vars (s.fn H (fx++gs)).vars pv)
 (mS:before=pa++pv) (ag:Below W.heap.size W kL)
 (bL:∀(j:Nat) (t:TypeId) (r:Value),f.resultTypes[j]?=some t→(v.resultList f.resultTypes.size)[j]?=some r→Value.okWide P kL .any 0 t r):
 s.post enc P f apart fresh handsOn again W args v kL:=by
 have cl:∀p∈before,p.block<W.heap.size:=fun p aU=>gH.lt p aU
 have hold:∀p∈before,(fun b=>decide (b<W.heap.size)) p.block=true:=fun p aU=>by simpa using cl p aU
 refine ⟨fx,gs,before,[],pa,pv,gH,uM _ _ _,jq _ hold,uN _ hold,World.keptBut_mono (fun p aU=>⟨aU,?_⟩) (ag.frame (· ∈before)),fun _=>?_⟩
 · rw [mS,List.mem_append] at aU
   exact Or.inr aU
 · obtain ⟨_,_,_,_,_,ao,aI⟩:=gH
   refine ⟨bL,_,_,([]++pa)++pv,⟨[]++pa,pv,trodAll_append (jq _ (fun _ _=>rfl)) (uM _ _ _),uN _ (fun _ _=>rfl),rfl,?_,?_⟩,?_⟩
   · intro b off aU
     have jb:MemPlace.cell b off∈before:=by rw [mS];simpa using aU
     rw [ag.frozen (cl _ jb)]
     exact ao b off jb
   · intro aX
     have:=aI aX
     rw [mS] at this
     simpa using this
   · intro p aU _
     rw [mS]
     simpa using aU
def w0 (P:Program) (cT:List TypeId):Bool:=cT.all fun t=>P.readableRec t&&decide (t<P.types.size)
theorem Eb (av:laidOutB P=true) {W kL:World} (ag:Below W.heap.size W kL) {sp:Nat→Bool}:∀{cT:List TypeId} {vs:List Value} {fx:List (DataW H)} {ps:List MemPlace},w0 P cT=true→
 DataW.TrodAll enc P W 0 (fun _=>true) true cT vs fx ps→(∀p∈ps,p.block<W.heap.size)→(∀p∈ps,sp p.block=true)→DataW.TrodAll enc P kL 0 sp true cT vs fx ps
 |[],[],[],_,_,h,_,_=>h
 |t::cT,v::vs,d::fx,ps,aU,h,cl,mT=>by
  obtain ⟨p,q,J,aa,rfl⟩:=h
  simp only [w0,List.all_cons,Bool.and_eq_true,decide_eq_true_eq] at aU
  exact ⟨p,q,WideElems.Trod_stays av aU.1.1 aU.1.2 J (fun x aq=>ag.same (cl x (by simp [aq]))) (fun x aq=>mT x (by simp [aq])),
   Eb av ag (by simpa [w0] using aU.2) aa (fun x aq=>cl x (by simp [aq])) (fun x aq=>mT x (by simp [aq])),rfl⟩
 |[],_::_,_,_,_,h,_,_=>h.elim
 |[],[],_::_,_,_,h,_,_=>h.elim
 |_::_,[],_,_,_,h,_,_=>h.elim
 |_::_,_::_,[],_,_,h,_,_=>h.elim
theorem LW {f:Func} {s:ChangeSpec} {tb:TypeId} {apart fresh handsOn again:Bool} (uN:s.vars=[]) (uM:f.resultTypes=#[tb]) (Ec:P.underlying tb=some .bool) (av:laidOutB P=true)
 (LX:w0 P f.params.toList=true) {W kL:World} {args:Array Value} {fx gs:List (DataW H)} {before:List MemPlace}
 (gH:DataW.Whole enc P f.params.toList s.vars apart W args.toList fx gs before) (uO:s.fn H (fx++gs)={results:=[.lit (.bool true)],args:=fx}) (ag:Below W.heap.size W kL):
 s.post enc P f apart fresh handsOn again W args (.bool true) kL:=by
 have cl:∀p∈before,p.block<W.heap.size:=fun p aU=>gH.lt p aU
 have w1:=gH
 obtain ⟨p,q,dP,mU,rfl,LY,hi⟩:=w1
 rw [uN] at mU
 have LZ:gs=[]∧q=[]:=by
  cases gs with
  |nil=>exact ⟨rfl,mU⟩
  |cons g gs=>exact mU.elim
 obtain ⟨rfl,rfl⟩:=LZ
 refine LV (pa:=p) (pv:=[]) gH (fun b sp bo=>?_) (fun sp mT=>?_) (fun sp mT=>?_) rfl ag (ok_one uM rfl (okWide_bool_mk Ec true))
 · rw [uO,uM]
   exact trodAll_mk1 (shut_bool Ec true)
 · rw [uO]
   exact Eb av ag LX dP (fun x aq=>cl x (by simp [aq])) (fun x aq=>mT x (by simp [aq]))
 · rw [uO,uN]
   rfl
end
end Go.ba
end
