/-
  The abstract layer, part 9: what keeps frames and memory where a step takes, makes and writes.
-/
import Derived.Test.YtnahenbiipdlkaaGreatDoorWwH
import Derived.Great.BuildSlice
import Derived.ProofKit
import Derived.Below
import Derived.ChangeSame
import Derived.Carry
section
namespace Go.ba
open Go
section
variable {P:Program} {F:Nat→Prop} {lim lim':Nat→Nat} {w w':World} {n:Nat} {fr:Fr} {m:ae} {ca:Act} {bE:List Nat}
theorem bc.KL (h:bc F lim w n fr m ca bE) {zd:List Nat} (aI:zd.Nodup) (al:∀c∈zd,c∈bE):bc F lim w n fr m ca zd:=by
 obtain ⟨os,cP,bW,h⟩:=h
 exact ⟨os,cP,bW,h.size,h.defers,h.ey,h.mem,h.fc,h.ed,⟨aI,fun c ar=>h.fW.2 c (al c ar)⟩,h.free,h.fresh⟩
theorem bc.KM (h:bc F lim w n fr m ca bE):bE.Nodup:=by
 obtain ⟨os,cP,bW,h⟩:=h
 exact h.fW.1
theorem bc.KN (h:bc F lim w n fr m ca bE):∀c∈bE,¬F c∧m c=none∧c<w.heap.size:=by
 obtain ⟨os,cP,bW,h⟩:=h
 exact fun c ar=>h.free c (by rw [h.fW.2 c ar];simp)
theorem Dk {os:Nat→List Nat} {n:Nat} (h:((List.range n).flatMap os).Nodup):(∀i,i<n→(os i).Nodup)∧∀i j c,i<n→j<n→c∈os i→c∈os j→i=j:=by
 induction n with
 |zero=>exact ⟨fun i ad=>absurd ad (Nat.not_lt_zero _),fun i j c ad=>absurd ad (Nat.not_lt_zero _)⟩
 |succ n aQ=>
  rw [List.range_succ,List.flatMap_append,List.nodup_append] at h
  obtain ⟨J,aa,ai⟩:=h
  obtain ⟨i1,i2⟩:=aQ J
  simp only [List.flatMap_cons,List.flatMap_nil,List.append_nil] at aa ai
  have aq:∀i c,i<n→c∈os i→c∈os n→False:=fun i c ad ar aI=>ai c (List.mem_flatMap.2 ⟨i,by simpa using ad,ar⟩) c aI rfl
  refine ⟨fun i ad=>?_,fun i j c ad aA ze zf=>?_⟩
  · by_cases e:i=n
    · subst e;exact aa
    · exact i1 i (by omega)
  · by_cases e:i=n<;>by_cases cD:j=n
    · omega
    · subst e;exact (aq j c (by omega) zf ze).elim
    · subst cD;exact (aq i c (by omega) ze zf).elim
    · exact i2 i j c (by omega) (by omega) ze zf
theorem Dl {os:Nat→List Nat} {n c:Nat}:c∈(List.range n).flatMap os↔∃i,i<n∧c∈os i:=by
 simp [List.mem_flatMap]
theorem zg {v:Value} {x:U} {os:List Nat} (h:aP w lim v x os) (aq:x.dy=true):∃oss:Nat→List Nat,v.cells.size=x.cells.length∧(∀i,i<x.cells.length→aP w lim (v.cells.getD i undef) (x.cells.getD i .aS) (oss i))∧
 os=(List.range x.cells.length).flatMap oss:=by
 have single:∀(v:Value) (x:U) (os:List Nat),aP w lim v x os→v.cells=#[v]→x.cells=[x]→∃oss:Nat→List Nat,v.cells.size=x.cells.length∧(∀i,i<x.cells.length→aP w lim (v.cells.getD i undef) (x.cells.getD i .aS) (oss i))∧
  os=(List.range x.cells.length).flatMap oss:=fun v x os h bn ar=>by
  refine ⟨fun _=>os,by simp [bn,ar],fun i ad=>?_,by simp [ar,List.range_succ]⟩
  have:i=0:=by simp [ar] at ad;exact ad
  subst this
  simpa [bn,ar] using h
 cases h with
 |agg cs xs oss al au=>exact ⟨oss,al,au,rfl⟩
 |tuple cs xs oss al au=>simp [U.dy] at aq
 |nD v x os h=>simp [U.dy] at aq
 |ly x=>simp [U.dy] at aq
 |aS v=>simp [U.dy] at aq
 |bool b=>exact single _ _ _ (.bool b) rfl rfl
 |int k n bw ad=>exact single _ _ _ (.int k n bw ad) rfl rfl
 |str s h=>exact single _ _ _ (.str s h) rfl rfl
 |ptr a=>exact single _ _ _ (.ptr a) rfl rfl
 |eM=>exact single _ _ _ .eM rfl rfl
 |ref b off l cv J aa ai=>exact single _ _ _ (.ref b off l cv J aa ai) rfl rfl
 |fL own=>exact single _ _ _ (.fL own) rfl rfl
 |empty a cap hm=>exact single _ _ _ (.empty a cap hm) rfl rfl
 |slice b off n cap sz l cv J aa ai aJ aY bG c7 cV=>exact single _ _ _ (.slice b off n cap sz l cv J aa ai aJ aY bG c7 cV) rfl rfl
 |own b n cap sz l cv cur e J aa ai aJ aY bG c7 cV cU eH fF=>exact single _ _ _ (.own b n cap sz l cv cur e J aa ai aJ aY bG c7 cV cU eH fF) rfl rfl
 |ms a len cap J aa=>exact single _ _ _ (.ms a len cap J aa) rfl rfl
 |map b=>exact single _ _ _ (.map b) rfl rfl
 |iW=>exact single _ _ _ .iW rfl rfl
 |func fn f c bE dK J aa ai aJ=>exact single _ _ _ (.func fn f c bE dK J aa ai aJ) rfl rfl
 |jF=>exact single _ _ _ .jF rfl rfl
 |nA a=>exact single _ _ _ (.nA a) rfl rfl
 |iface t v x h=>exact single _ _ _ (.iface t v x h) rfl rfl
 |nilIface=>exact single _ _ _ .nilIface rfl rfl
 |lx t=>exact single _ _ _ (.lx t) rfl rfl
 |iX t e h bw ad=>exact single _ _ _ (.iX t e h bw ad) rfl rfl
 |nB=>exact single _ _ _ .nB rfl rfl
 |nC t v=>exact single _ _ _ (.nC t v) rfl rfl
theorem KO {v:Value} {x:U} {os:List Nat} (h:aP w lim v x os) (aq:x.one=true):v.oneCell'=true:=by
 cases h<;>first|rfl|simp [U.one] at aq
theorem bc.Dm (h:bc F lim w n fr m ca bE) {b off:Nat} {l xs:List U} {vs:List Value} {cs:Array Value} {e:TypeId} {oss:Nat→List Nat} (hm:m b=some (.cells l)) (ag:w.heap[b]?=some (.cells cs e (0,0)))
 (av:off+xs.length≤l.length) (bn:vs.length=xs.length) (au:∀i,i<xs.length→aP w lim (vs.getD i undef) (xs.getD i .aS) (oss i)) (wK:bE=(List.range xs.length).flatMap oss):
 bc F lim (w.setRow b (cs.toList.take off++vs++cs.toList.drop (off+vs.length)).toArray) n fr (m.cQ b (some (.cells (l.take off++xs++l.drop (off+xs.length))))) ca []∧
 dL F w lim (w.setRow b (cs.toList.take off++vs++cs.toList.drop (off+vs.length)).toArray) lim:=by
 obtain ⟨os,cP,bW,h⟩:=h
 have gY:=h.mem b _ hm
 obtain ⟨wL,fb,fM⟩:=gY
 have mi:cs.size=l.length:=by
  cases wL with
  |cells kH cD bC _ fv al kc=>rw [ag] at fv;cases fv;exact al
 have KP:∀i,i<l.length→aP w lim (cs.getD i undef) (l.getD i .aS) (cP b i):=by
  cases wL with
  |cells kH cD bC _ fv al kc=>rw [ag] at fv;cases fv;exact kc
 have hi:bE.Nodup:=h.fW.1
 rw [wK] at hi
 obtain ⟨KQ,KR⟩:=Dk hi
 have Dn:∀c,c∈bE↔∃i,i<xs.length∧c∈oss i:=fun c=>by rw [wK];exact Dl
 generalize hw:w.setRow b (cs.toList.take off++vs++cs.toList.drop (off+vs.length)).toArray=fD
 have oq:∀k,k≠b→fD.heap[k]?=w.heap[k]?:=fun k ak=>by rw [←hw];exact setRow_other w b k _ ak
 have wM:fD.heap[b]?=some (.cells (cs.toList.take off++vs++cs.toList.drop (off+vs.length)).toArray e (0,0)):=by rw [←hw];exact setRow_heap w b cs _ e (0,0) ag
 have uj:fD.heap.size=w.heap.size:=by rw [←hw];simp
 have jH:∀k o,o<lim k→fD.cell? ⟨k,o,none⟩=w.cell? ⟨k,o,none⟩:=fun k o aL=>by
  have:k≠b:=fun e=>by subst e;omega
  simp [World.cell?,oq k this]
 have KS:dL F w lim fD lim:=⟨by rw [←hw];rfl,by rw [←hw];rfl,by rw [←hw];rfl,by rw [uj];exact Nat.le_refl _,fun k ak=>⟨oq k (fun e=>by subst e;exact fM ak),rfl⟩,fun _=>Nat.le_refl _,jH⟩
 refine ⟨?_,KS⟩
 have oi:∀c,m c=none→c≠b:=fun c ar e=>by subst e;rw [hm] at ar;cases ar
 have db:∀{v x fN},aP w lim v x fN→(∀c∈fN,bW c≠ .none)→aP fD lim v x fN:=fun fw aL=>fw.gQ (fun _=>Nat.le_refl _) jH (fun c ar=>⟨oq c (oi c (h.free c (aL c ar)).2.1),rfl⟩)
 classical
 refine ⟨os,fun k i=>if k=b then (if off≤i∧i<off+xs.length then oss (i- off) else cP b i) else cP k i,
  fun c=>if c∈bE then (if ar:∃i,i<xs.length∧c∈oss i then .r4 b (off+Classical.choose ar) else .none) else
   match bW c with
   | .kA=> .none
   | .r4 k i=>if k=b∧off≤i∧i<off+xs.length then .none else .r4 k i
   |p=>p,h.size,h.defers,fun t x aq=>⟨(h.ey t x aq).1,db (h.ey t x aq).2 (fun c ar=>by rw [(h.fc t x aq).2 c ar];simp)⟩,fun k o ak=>?_,fun t x aq=>⟨(h.fc t x aq).1,fun c ar=>?_⟩,fun k o ak i=>?_,⟨by simp,by simp⟩,fun c ar=>?_,fun k ak=>?_⟩
 · by_cases h3:k=b
   · subst h3
     simp only [ae.cQ,↓reduceIte,Option.some.injEq] at ak ⊢
     subst ak
     refine ⟨?_,fb,fM⟩
     refine .cells _ e _ _ wM (by simp [bn];omega) (fun i ad=>?_)
     have hlen:(l.take off++xs++l.drop (off+xs.length)).length=l.length:=by simp;omega
     rw [hlen] at ad
     have qO:∀{α:Type} (A B:List α) (pU:α),off+B.length≤A.length→(A.take off++B++A.drop (off+B.length)).getD i pU=if off≤i∧i<off+B.length then B.getD (i- off) pU else A.getD i pU:=by
      intro α A B pU KT
      simp only [List.getD_eq_getElem?_getD]
      by_cases J:i<off
      · rw [if_neg (by omega),List.append_assoc,List.getElem?_append_left (by simp;omega),List.getElem?_take,if_pos J]
      · by_cases aa:i<off+B.length
        · rw [if_pos ⟨by omega,aa⟩,List.append_assoc,List.getElem?_append_right (by simp;omega),List.getElem?_append_left (by simp;omega)]
          simp [show min off A.length=off from by omega]
        · rw [if_neg (by omega),List.getElem?_append_right (by simp;omega),List.getElem?_drop]
          congr 2
          simp;omega
     have aM:(cs.toList.take off++vs++cs.toList.drop (off+vs.length)).toArray.getD i undef=if off≤i∧i<off+xs.length then vs.getD (i- off) undef else cs.getD i undef:=by
      have:=qO cs.toList vs undef (by simp [mi];omega)
      rw [bn] at this ⊢
      simp only [Array.getD_eq_getD_getElem?,List.getElem?_toArray,List.getD_eq_getElem?_getD,Array.getElem?_toList] at this ⊢
      exact this
     rw [aM,qO l xs .aS av]
     by_cases jb:off≤i∧i<off+xs.length
     · rw [if_pos jb,if_pos jb,if_pos jb]
       exact db (au _ (by omega)) (fun c ar=>by rw [h.fW.2 c ((Dn c).2 ⟨i- off,by omega,ar⟩)];simp)
     · rw [if_neg jb,if_neg jb,if_neg jb]
       exact db (KP i ad) (fun c ar=>by rw [(h.ed k _ hm i).2 c ar];simp)
   · simp only [ae.cQ,if_neg h3] at ak ⊢
     exact ⟨(h.mem k o ak).1.gQ (oq k h3) (fun _=>Nat.le_refl _) jH (fun i c ar=>⟨oq c (oi c (h.free c (by rw [(h.ed k o ak i).2 c ar];simp)).2.1),rfl⟩),(h.mem k o ak).2⟩
 · have J:=(h.fc t x aq).2 c ar
   have aa:c∉bE:=fun aN=>by rw [h.fW.2 c aN] at J;cases J
   simp [J,aa]
 · by_cases h3:k=b
   · subst h3
     simp only [↓reduceIte]
     by_cases jb:off≤i∧i<off+xs.length
     · simp only [if_pos jb]
       refine ⟨KQ _ (by omega),fun c ar=>?_⟩
       have KU:c∈bE:=(Dn c).2 ⟨i- off,by omega,ar⟩
       have hex:∃j,j<xs.length∧c∈oss j:=⟨i- off,by omega,ar⟩
       have Dp:=Classical.choose_spec hex
       have:Classical.choose hex=i- off:=KR _ _ c Dp.1 (by omega) Dp.2 ar
       simp only [if_pos KU,dif_pos hex,this]
       congr 1;omega
     · simp only [if_neg jb]
       refine ⟨(h.ed k _ hm i).1,fun c ar=>?_⟩
       have J:=(h.ed k _ hm i).2 c ar
       have aa:c∉bE:=fun aN=>by rw [h.fW.2 c aN] at J;cases J
       simp [J,aa,jb]
   · simp only [ae.cQ,if_neg h3] at ak ⊢
     refine ⟨(h.ed k o ak i).1,fun c ar=>?_⟩
     have J:=(h.ed k o ak i).2 c ar
     have aa:c∉bE:=fun aN=>by rw [h.fW.2 c aN] at J;cases J
     simp [J,aa,h3]
 · have gg:bW c≠ .none:=by
    by_cases aa:c∈bE
    · rw [h.fW.2 c aa];simp
    · intro J;simp [J,aa] at ar
   have:=h.free c gg
   refine ⟨this.1,?_,by rw [uj];exact this.2.2⟩
   simp only [ae.cQ,if_neg (oi c this.2.1)]
   exact this.2.1
 · rw [uj] at ak
   have:=h.fresh k ak
   refine ⟨this.1,this.2.1,?_⟩
   simp only [ae.cQ,if_neg (oi k this.2.2)]
   exact this.2.2
end
end Go.ba
end
section
namespace Go.ba
open Go
def nJ (lim:Nat→Nat) (b k:Nat):Nat→Nat:=fun c=>if c=b then k else lim c
section
variable {P:Program} {F:Nat→Prop} {lim lim':Nat→Nat} {w w':World} {n:Nat} {fr:Fr} {m:ae} {ca:Act} {bE:List Nat} {os:Nat→List Nat} {cP:Nat→Nat→List Nat} {bW:Nat→Place}
theorem oV.world (h:oV F lim w n fr m ca bE os cP bW) (cJ:w.heap.size≤w'.heap.size) (av:∀b,lim b≤lim' b) (ar:∀b o,o<lim b→w'.cell? ⟨b,o,none⟩=w.cell? ⟨b,o,none⟩)
 (lz:∀c,bW c≠ .none→w'.heap[c]?=w.heap[c]?∧lim' c=lim c) (hm:∀b,m b≠none→w'.heap[b]?=w.heap[b]?∧lim' b=lim b)
 (yQ:∀b,w'.heap.size≤b→lim' b=0):oV F lim' w' n fr m ca bE os cP bW:=by
 refine ⟨h.size,h.defers,fun t x aq=>⟨(h.ey t x aq).1,(h.ey t x aq).2.gQ av ar (fun c l9=>lz c (by rw [(h.fc t x aq).2 c l9];simp))⟩,fun b o ag=>?_,h.fc,h.ed,h.fW,
  fun c oW=>⟨(h.free c oW).1,(h.free c oW).2.1,Nat.lt_of_lt_of_le (h.free c oW).2.2 cJ⟩,fun b ag=>⟨yQ b ag,(h.fresh b (Nat.le_trans cJ ag)).2⟩⟩
 have oi:=hm b (by rw [ag];simp)
 exact ⟨(h.mem b o ag).1.gQ oi.1 av ar (fun i c l9=>lz c (by rw [(h.ed b o ag i).2 c l9];simp)),oi.2.trans (h.mem b o ag).2.1,(h.mem b o ag).2.2⟩
theorem oV.Dq (h:oV F lim w n fr m ca bE os cP bW):oV F lim w n fr m ca [] os cP (fun c=>if bW c= .kA then .none else bW c):=by
 refine ⟨h.size,h.defers,h.ey,h.mem,fun t x aq=>⟨(h.fc t x aq).1,fun c ar=>by simp [(h.fc t x aq).2 c ar]⟩,fun b o ag i=>⟨(h.ed b o ag i).1,fun c ar=>by simp [(h.ed b o ag i).2 c ar]⟩,⟨by simp,by simp⟩,fun c ar=>?_,h.fresh⟩
 by_cases J:bW c= .kA
 · simp [J] at ar
 · exact h.free c (by simpa [J] using ar)
theorem oV.Dr (h:oV F lim w n fr m ca [] os cP bW) {c:Nat} (ar:bW c= .none) (fM:¬F c) (hm:m c=none) (cl:c<w.heap.size):bc F lim w n fr m ca [c]:=by
 refine ⟨os,cP,fun d=>if d=c then .kA else bW d,h.size,h.defers,h.ey,h.mem,fun t x aq=>⟨(h.fc t x aq).1,fun d bo=>?_⟩,fun b o ag i=>⟨(h.ed b o ag i).1,fun d bo=>?_⟩,by simp,fun d bo=>?_,h.fresh⟩
 · have:=(h.fc t x aq).2 d bo
   have gg:d≠c:=fun e=>by subst e;rw [ar] at this;cases this
   simpa [gg] using this
 · have:=(h.ed b o ag i).2 d bo
   have gg:d≠c:=fun e=>by subst e;rw [ar] at this;cases this
   simpa [gg] using this
 · by_cases gg:d=c
   · subst gg;exact ⟨fM,hm,cl⟩
   · exact h.free d (by simpa [gg] using bo)
theorem uk (lim:Nat→Nat) (b k:Nat):nJ lim b k b=k:=by simp [nJ]
theorem nK (lim:Nat→Nat) {b c:Nat} (k:Nat) (h:c≠b):nJ lim b k c=lim c:=by simp [nJ,h]
theorem bc.zh (h:bc F lim w n fr m ca bE) (hw:w'.heap=w.heap) (o:Obj) (k:Nat):bc F (nJ lim w.heap.size k) (w'.alloc o) n fr m ca [w.heap.size]:=by
 have cl:=fun {b o} (ag:o<lim b)=>h.qF ag
 have Ds:=fun {b} (ag:m b≠none)=>h.oX ag
 obtain ⟨os,cP,bW,h⟩:=h
 have cJ:(w'.alloc o).heap.size=w.heap.size+1:=by simp [hw]
 have hold:∀c,c<w.heap.size→(w'.alloc o).heap[c]?=w.heap[c]?:=fun c ar=>by rw [kC w' o c (by rw [hw];exact ar),hw]
 have zi:=h.fresh _ (Nat.le_refl _)
 have aa:=(h.Dq).world (w':=w'.alloc o) (lim':=nJ lim w.heap.size k) (by omega) (fun b=>?_) (fun b i ad=>?_) (fun c ar=>?_) (fun b ag=>?_) (fun b ag=>?_)
 · refine aa.Dr (c:=w.heap.size) ?_ zi.2.1 zi.2.2 (by omega)
   have:bW w.heap.size= .none:=by
    cases e:bW w.heap.size with
    |none=>rfl
    |_=>exact absurd (h.free w.heap.size (by rw [e];simp)).2.2 (Nat.lt_irrefl _)
   simp [this]
 · by_cases ag:b=w.heap.size
   · subst ag;rw [zi.1];exact Nat.zero_le _
   · rw [nK _ _ ag];exact Nat.le_refl _
 · simp [World.cell?,hold b (cl ad)]
 · have mi:c<w.heap.size:=(h.free c (by by_cases e:bW c= .kA<;>simp_all)).2.2
   exact ⟨hold c mi,nK _ _ (by omega)⟩
 · exact ⟨hold b (Ds ag),nK _ _ (by have:=Ds ag;omega)⟩
 · rw [cJ] at ag
   rw [nK _ _ (by omega)]
   exact (h.fresh b (by omega)).1
theorem dL.zj (h:bc F lim w n fr m ca bE) (hw:w'.heap=w.heap) (aL:w'.os=w.os) (aB:w'.tape=w.tape) (zk:w'.output=w.output) (o:Obj) (k:Nat):dL F w lim (w'.alloc o) (nJ lim w.heap.size k):=by
 have hold:∀c,c<w.heap.size→(w'.alloc o).heap[c]?=w.heap[c]?:=fun c ar=>by rw [kC w' o c (by rw [hw];exact ar),hw]
 refine ⟨aL,aB,zk,by simp [hw],fun b ag=>⟨hold b (h.pO ag),nK _ _ (by have:=h.pO ag;omega)⟩,fun b=>?_,fun b i ad=>by simp [World.cell?,hold b (h.qF ad)]⟩
 by_cases ag:b=w.heap.size
 · subst ag;rw [h.pP];exact Nat.zero_le _
 · rw [nK _ _ ag];exact Nat.le_refl _
theorem bc.KV {b:Nat} (h:bc F lim w n fr m ca [b]) (cJ:w'.heap.size=w.heap.size) (oq:∀c,c≠b→w'.heap[c]?=w.heap[c]?) (k:Nat) (ak:lim b≤k) (jH:∀o,o<lim b→w'.cell? ⟨b,o,none⟩=w.cell? ⟨b,o,none⟩)
 (aL:w'.os=w.os) (aB:w'.tape=w.tape) (zk:w'.output=w.output):bc F (nJ lim b k) w' n fr m ca [b]∧dL F w lim w' (nJ lim b k):=by
 have ag:=h.KN b (by simp)
 have av:∀c,lim c≤nJ lim b k c:=fun c=>by
  by_cases e:c=b
  · subst e;rw [uk];exact ak
  · rw [nK _ _ e];exact Nat.le_refl _
 have ar:∀c o,o<lim c→w'.cell? ⟨c,o,none⟩=w.cell? ⟨c,o,none⟩:=fun c o cl=>by
  by_cases e:c=b
  · subst e;exact jH o cl
  · simp [World.cell?,oq c e]
 refine ⟨?_,⟨aL,aB,zk,by omega,fun c ar=>⟨oq c (fun e=>by subst e;exact ag.1 ar),nK _ _ (fun e=>by subst e;exact ag.1 ar)⟩,av,ar⟩⟩
 obtain ⟨os,cP,bW,h⟩:=h
 have Dt:bW b= .kA:=h.fW.2 b (by simp)
 have aa:=(h.Dq).world (w':=w') (lim':=nJ lim b k) (by omega) av ar (fun c ar=>?_) (fun c ar=>?_) (fun c ar=>?_)
 · exact aa.Dr (c:=b) (by simp [Dt]) ag.1 ag.2.1 (by omega)
 · have e:c≠b:=fun e=>by subst e;simp [Dt] at ar
   exact ⟨oq c e,nK _ _ e⟩
 · have e:c≠b:=fun e=>by subst e;exact ar ag.2.1
   exact ⟨oq c e,nK _ _ e⟩
 · rw [nK _ _ (by omega)]
   exact (h.fresh c (by omega)).1
def jc (cv:Nat→Nat→Value) (n sz:Nat):List Value:=(List.range (n*sz)).map fun i=>cv (i/sz) (i%sz)
theorem Du {cv:Nat→Nat→Value} {n sz i j:Nat} (ad:i<n) (aA:j<sz):(jc cv n sz)[i*sz+j]?=some (cv i j):=by
 have cl:i*sz+j<n*sz:=by
  have:i*sz+sz≤n*sz:=by rw [←Nat.succ_mul];exact Nat.mul_le_mul_right _ ad
  omega
 have J:(i*sz+j)/sz=i:=by rw [Nat.mul_comm,Nat.mul_add_div (by omega),Nat.div_eq_of_lt aA,Nat.add_zero]
 have aa:(i*sz+j)%sz=j:=by rw [Nat.mul_comm,Nat.mul_add_mod,Nat.mod_eq_of_lt aA]
 simp [jc,cl,J,aa]
theorem Dv {cv:Nat→Nat→Value} {n sz b off:Nat} (cJ:0<sz) (ar:∀i j,i<n→j<sz→w.cell? ⟨b,off+i*sz+j,none⟩=some (cv i j)):
 ∀k u,(jc cv n sz)[k]?=some u→w.cell? ((⟨b,off,none⟩:Addr).add k)=some u:=by
 intro k u hu
 rw [addr_add]
 have ak:k<n*sz:=by
  rcases Nat.lt_or_ge k (n*sz) with h|h
  · exact h
  · simp [jc,h] at hu
 simp [jc,ak] at hu
 have ad:k/sz<n:=Nat.div_lt_of_lt_mul (by rw [Nat.mul_comm];exact ak)
 have:=ar (k/sz) (k%sz) ad (Nat.mod_lt _ cJ)
 rw [show off+k/sz*sz+k%sz=off+k from by rw [Nat.add_assoc,Nat.mul_comm,Nat.div_add_mod]] at this
 rw [this,hu]
theorem wN {b iL cap sz:Nat} {l:List U} {cv:Nat→Nat→Value} {cur:Array Value} {e:TypeId} (av:l.length=iL) (fu:iL≤cap) (hm:cap≤maxLen) (ew:iL≤140737488355328) (aG:0<iL∨cap=0)
 (ag:w.heap[b]?=some (.cells cur e (0,0))) (mK:cur.size=cap*sz) (cJ:∀i,i<iL→(l.getD i .aS).cells.length=sz) (fb:iL*sz=lim b)
 (qO:∀i j,i<iL→j<sz→cur[i*sz+j]?=some (cv i j)) (au:∀i j,i<iL→j<sz→aP w lim (cv i j) ((l.getD i .aS).cells.getD j .aS) []):
 aP w lim (.slice (some ⟨b,0,none⟩) iL cap) (.slice true l) [b]:=
 .own b iL cap sz l cv cur e av fu hm ew aG ag mK cJ fb (fun i j ad aA=>by simp [World.cell?,ag,qO i j ad aA]) au
theorem wO {e:TypeId} {i:TypeInfo} (h:P.info? e=some i):P.cellsOf e=i.size∧P.bytesOf e=i.bytes:=by simp [Program.cellsOf,Program.bytesOf,h]
theorem zl {e:TypeId} (h:(hy P e).isSome=true):∃i z,P.info? e=some i∧i.zero=some z∧oj z=true∧hy P e=some (jI z):=by
 unfold hy at h ⊢
 cases ad:P.info? e with
 |none=>simp [ad] at h
 |some i=>
  cases ao:i.zero with
  |none=>simp [ad,ao] at h
  |some z=>
   simp only [ad,ao,Option.bind_some] at h ⊢
   by_cases ar:oj z=true
   · exact ⟨i,z,rfl,ao,ar,by simp [ar]⟩
   · simp [ar] at h
theorem wP (v:Value):(jI v).cells.length=v.cells.size:=by
 cases v with
 |agg cs=>simp [jI,U.cells,Value.cells]
 |iface t v=>rfl
 |pointer a=>cases a<;>rfl
 |slice a n c=>cases a<;>rfl
 |map r=>cases r<;>rfl
 |_=>rfl
theorem Dw {e:TypeId} (h:k2 P e=true):∃i z,P.info? e=some i∧i.zero=some z∧oj z=true∧hy P e=some (jI z)∧z.cells.size=i.size:=by
 have al:(hy P e).isSome=true:=by
  unfold k2 at h
  cases ao:hy P e with
  |none=>simp [ao] at h
  |some z=>rfl
 obtain ⟨i,z,ad,ao,ar,dP⟩:=zl al
 refine ⟨i,z,ad,ao,ar,dP,?_⟩
 simp only [k2,dP,beq_iff_eq,wP] at h
 rw [h,(wO ad).1]
theorem Dx (t e ty:TypeId) (i:TypeInfo) (aB:P.underlying t=some (.slice e)) (ad:P.info? e=some i) (base:Option Addr) (bT cap:Nat) (um:bT≤cap) (a:Option Addr) (c:Nat):
 (Builtin.append_ #[t,t] ty #[.slice base bT cap, .slice a 0 c]).run P w= .ok (.slice base bT cap) w:=by
 cases a with
 |none=>cases base<;>simp [Builtin.append_,run_underlying aB,sizeOf,typeInfo,ad,Builtin.lenOf,Builtin.firstCells,um,storeCells]
 |some a=>cases base<;>simp [Builtin.append_,run_underlying aB,sizeOf,typeInfo,ad,Builtin.lenOf,Builtin.firstCells,um,storeCells,loadCells,loadCellsFrom]
theorem KW (t e ty:TypeId) (i:TypeInfo) (aB:P.underlying t=some (.slice e)) (ad:P.info? e=some i) (g qP zm:Nat) (cur:Array Value) (cD:TypeId) (bl:w.heap[g]?=some (.cells cur cD (0,0)))
 (a:Addr) (k c:Nat) (news:List Value) (av:news.length=k*i.size) (uo:∀j u,news[j]?=some u→w.cell? (a.add j)=some u) (J:∀u∈news,u.oneCell'=true)
 (uq:qP+k≤zm) (zn:qP*i.size+news.length≤cur.size):
 (Builtin.append_ #[t,t] ty #[.slice (some ⟨g,0,none⟩) qP zm, .slice (some a) k c]).run P w=
   .ok (.slice (some ⟨g,0,none⟩) (qP+k) zm) (w.setRow g (cur.toList.take (qP*i.size)++news++cur.toList.drop (qP*i.size+news.length)).toArray):=by
 have aN:=run_firstCells_some (P:=P) w i.size k a k c news av uo
 have db:=run_storeCells_at P g (qP*i.size) cD news 0 cur w bl (by simpa using zn) J
 simp only [Nat.add_zero] at db
 simp [Builtin.append_,run_underlying aB,sizeOf,typeInfo,ad,Builtin.lenOf,uq,aN,Addr.add_lit,db]
end
end Go.ba
end
section
namespace Go.ba
open Go
section
variable {P:Program} {F:Nat→Prop} {lim:Nat→Nat} {w:World} {n:Nat} {fr:Fr} {m:ae} {ca:Act} {bE:List Nat}
theorem Dy {v:Value} {x:U} {os:List Nat} {k:Nat} (aq:(x.cells.all U.one)=true) (ak:k<x.cells.length) (h:aP w lim v (x.cells.getD k .aS) os):v.oneCell'=true:=by
 refine KO h ?_
 rw [List.all_eq_true] at aq
 exact aq _ (by simp [List.getD_eq_getElem?_getD,ak])
theorem mP {l bC:List U} {i:Nat} (h:i<l.length):(l++bC).getD i .aS=l.getD i .aS:=by
 simp [List.getD_eq_getElem?_getD,List.getElem?_append_left h]
theorem ot {l bC:List U} {i:Nat} (h:l.length≤i):(l++bC).getD i .aS=bC.getD (i- l.length) .aS:=by
 simp [List.getD_eq_getElem?_getD,List.getElem?_append_right h]
theorem zo (i j k s:Nat) (ad:i<k) (aA:j<s):i*s+j<k*s:=by
 have:i*s+s≤k*s:=by rw [←Nat.succ_mul];exact Nat.mul_le_mul_right _ ad
 omega
theorem Dz {a b:Nat} {sz:Nat} {A B C:List Value} {dU DA:Nat→Nat→Value} (dP:A.length=a*sz) (cd:B.length=b*sz) (zp:∀i j,i<a→j<sz→A[i*sz+j]?=some (dU i j)) (KX:∀i j,i<b→j<sz→B[i*sz+j]?=some (DA i j)):
 ∀i j,i<a+b→j<sz→(A++B++C)[i*sz+j]?=some (if i<a then dU i j else DA (i- a) j):=by
 intro i j ad aA
 by_cases h:i<a
 · rw [if_pos h,List.append_assoc,List.getElem?_append_left (by rw [dP];exact zo _ _ _ _ h aA)]
   exact zp i j h aA
 · have ur:a*sz≤i*sz:=Nat.mul_le_mul_right _ (by omega)
   have o6:i*sz+j- a*sz=(i- a)*sz+j:=by rw [Nat.sub_mul];omega
   have cl:(i- a)*sz+j<b*sz:=zo _ _ _ _ (by omega) aA
   rw [if_neg h,List.getElem?_append_left (by simp [dP,cd];omega),List.getElem?_append_right (by omega),dP,o6]
   exact KX (i- a) j (by omega) aA
set_option maxHeartbeats 1000000 in
theorem DB (st:bc F lim w n fr m ca bE) {t e ty:TypeId} (aB:P.underlying t=some (.slice e)) (ao:k2 P e=true) (jN:0<P.cellsOf e) {zq jm:Value} {l bC:List U} (ag:aP w lim zq (.slice true l) bE) (aK:aP w lim jm (.slice false bC) [])
 (DC:(l.length+bC.length)*P.bytesOf e≤140737488355328) (ew:l.length+bC.length≤140737488355328) (av:∀x∈l,x.cells.length=P.cellsOf e) (l8:∀x∈bC,x.cells.length=P.cellsOf e∧x.cells.all U.one=true):
 ∃iw w' lim' fN,(Builtin.append_ #[t,t] ty #[zq,jm]).run P w= .ok iw w'∧bc F lim' w' n fr m ca fN∧aP w' lim' iw (.slice true (l++bC)) fN∧dL F w lim w' lim':=by
 obtain ⟨i,z,ad,pV,KY,KZ,DD⟩:=Dw ao
 obtain ⟨j0,pW⟩:=wO ad
 have DE:∀k:Nat,k≤140737488355328→k≤maxLen:=fun k ak=>by simp only [maxLen];omega
 have qQ:∀(l:List U) i,i<l.length→l.getD i .aS∈l:=fun l i ad=>by simp [List.getD_eq_getElem?_getD,ad]
 by_cases qR:bC=[]
 · subst qR
   have K0:∃a c,jm= .slice a 0 c:=by
    obtain ⟨a,c,rfl,_⟩:=yZ aK
    exact ⟨a,c,rfl⟩
   obtain ⟨a,c,rfl⟩:=K0
   refine ⟨zq,w,lim,bE,?_,st,by simpa using ag, .refl _ _ _⟩
   cases ag with
   |fL own=>exact Dx t e ty i aB ad none 0 0 (Nat.le_refl _) a c
   |own b iL cap sz l cv cur cD J aa ai aJ aY bG c7 cV cU eH fF=>exact Dx t e ty i aB ad _ iL cap aa a c
 have zr:0<bC.length:=List.length_pos_iff.2 qR
 rcases uc aK with ⟨rfl,_⟩|⟨rfl,_⟩|⟨zs,zt,zu,K1,k3,rfl,T6,T7,T8,wQ,T9,K2,si⟩
 · exact (qR rfl).elim
 · exact (qR rfl).elim
 have K3:K1=i.size:=by rw [←wQ 0 zr,(l8 _ (qQ bC 0 zr)).1,j0]
 subst K3
 rw [j0] at jN
 have uo:=Dv (w:=w) jN K2
 have mj:(jc k3 bC.length i.size).length=bC.length*i.size:=by simp [jc]
 have DF:∀a b,a<bC.length→b<i.size→(jc k3 bC.length i.size)[a*i.size+b]?=some (k3 a b):=fun a b aX ag=>Du aX ag
 have zv:∀u∈jc k3 bC.length i.size,u.oneCell'=true:=fun u hu=>by
  obtain ⟨k,ak,rfl⟩:=List.mem_map.1 hu
  have er:k<bC.length*i.size:=by simpa using ak
  have zw:k/i.size<bC.length:=Nat.div_lt_of_lt_mul (by rw [Nat.mul_comm];exact er)
  have DG:=Nat.mod_lt k jN
  exact Dy (l8 _ (qQ bC _ zw)).2 (by rw [wQ _ zw];exact DG) (si _ _ zw DG)
 rw [pW] at DC
 have DH:∀(mQ:List Value) (k kI:Nat) (dU:Nat→Nat→Value),mQ.length=k*i.size→k=l.length→l.length+bC.length≤kI→kI≤maxLen→
  (∀a b,a<k→b<i.size→mQ[a*i.size+b]?=some (dU a b))→(∀a b,a<k→b<i.size→aP w lim (dU a b) ((l.getD a .aS).cells.getD b .aS) [])→
  (mQ.toArray++(jc k3 bC.length i.size).toArray++Builtin.zeroCells z.cells (kI- (l.length+bC.length))).size=kI*i.size→
  ∃lim' fN,bc F lim' (w.drew.alloc (.cells (mQ.toArray++(jc k3 bC.length i.size).toArray++Builtin.zeroCells z.cells (kI- (l.length+bC.length))) e)) n fr m ca fN∧
   aP (w.drew.alloc (.cells (mQ.toArray++(jc k3 bC.length i.size).toArray++Builtin.zeroCells z.cells (kI- (l.length+bC.length))) e)) lim' (.slice (some ⟨w.heap.size,0,none⟩) (l.length+bC.length) kI) (.slice true (l++bC)) fN∧
   dL F w lim (w.drew.alloc (.cells (mQ.toArray++(jc k3 bC.length i.size).toArray++Builtin.zeroCells z.cells (kI- (l.length+bC.length))) e)) lim':=by
  intro mQ k kI dU aL ak fu hm zp K4 uj
  subst ak
  have eN:=dL.zj (w':=w.drew) st rfl rfl rfl rfl (.cells (mQ.toArray++(jc k3 bC.length i.size).toArray++Builtin.zeroCells z.cells (kI- (l.length+bC.length))) e) ((l.length+bC.length)*i.size)
  refine ⟨_,_,st.zh (w':=w.drew) rfl _ ((l.length+bC.length)*i.size),?_,eN⟩
  have wR:=Dz (C:=(Builtin.zeroCells z.cells (kI- (l.length+bC.length))).toList) aL mj zp DF
  refine wN (sz:=i.size) (cv:=fun a b=>if a<l.length then dU a b else k3 (a- l.length) b) (by simp) fu hm ew (.inl (by omega)) (qE w.drew _) uj (fun a aX=>?_) (by rw [uk]) (fun a b aX ag=>?_) (fun a b aX ag=>?_)
  · by_cases h:a<l.length
    · rw [mP h,av _ (qQ l a h),j0]
    · rw [ot (by omega),wQ _ (by omega)]
  · rw [←Array.getElem?_toList]
    simp only [Array.toList_append]
    exact wR a b aX ag
  · by_cases h:a<l.length
    · simp only [if_pos h]
      rw [mP h]
      exact (K4 a b h ag).gQ eN.mono eN.cell (by simp)
    · simp only [if_neg h]
      rw [ot (by omega)]
      exact (si _ b (by omega) ag).gQ eN.mono eN.cell (by simp)
 have DI:∀kI,l.length+bC.length≤kI→∀mQ:List Value,mQ.length=l.length*i.size→(mQ.toArray++(jc k3 bC.length i.size).toArray++Builtin.zeroCells z.cells (kI- (l.length+bC.length))).size=kI*i.size:=fun kI ar mQ aL=>by
  simp only [Array.size_append,List.size_toArray,size_zeroCells,DD,aL,mj,←Nat.add_mul]
  congr 1;omega
 have DJ:((l.length+bC.length:Nat):Int)≤9223372036854775807:=by omega
 cases ag with
 |fL own=>
  simp only [List.length_nil,Nat.zero_add] at*
  have mR:=run_append_nil (P:=P) w t ty e i z aB ad pV ⟨zs,zt,none⟩ bC.length zu _ mj uo zr DJ (by omega)
  have fu:=grownCap_ge w bC.length 0 e
  have zx:=grownCap_le_maxLen w bC.length 0 e (DE _ ew)
  obtain ⟨lim',fN,J,aa,ai⟩:=DH [] 0 (grownCap w bC.length 0 e) (fun _ _=>undef) (by simp) rfl fu zx (fun a b aX=>absurd aX (Nat.not_lt_zero _)) (fun a b aX=>absurd aX (Nat.not_lt_zero _)) (DI _ fu [] (by simp))
  simp only [List.nil_append] at J aa ai
  exact ⟨_,_,lim',fN,mR,by simpa using J,by simpa using aa,by simpa using ai⟩
 |own b iL cap sz l cv cur cD J aa ai aJ aY bG c7 cV cU eH fF=>
  subst J
  have ug:l.length=0∨sz=i.size:=by
   rcases Nat.eq_zero_or_pos l.length with h|h
   · exact .inl h
   · exact .inr (by rw [←cV 0 h,av _ (qQ l 0 h),j0])
  have iK:∀a gG,a<l.length→gG<i.size→w.cell? ⟨b,a*i.size+gG,none⟩=some (cv a gG):=fun a gG aX ag=>by
   rcases ug with h|h
   · omega
   · subst h;exact eH a gG aX ag
  have kc:∀a gG,a<l.length→gG<i.size→aP w lim (cv a gG) ((l.getD a .aS).cells.getD gG .aS) []:=fun a gG aX ag=>by
   rcases ug with h|h
   · omega
   · subst h;exact fF a gG aX ag
  by_cases uq:l.length+bC.length≤cap
  · have cJ:sz=i.size:=by
     rcases ug with h|h
     · rcases aY with aY|aY<;>omega
     · exact h
    subst cJ
    have zn:l.length*i.size+(jc k3 bC.length i.size).length≤cur.size:=by
     rw [mj,c7,←Nat.add_mul];exact Nat.mul_le_mul_right _ uq
    have mR:=KW (P:=P) (w:=w) t e ty i aB ad b l.length cap cur cD bG ⟨zs,zt,none⟩ bC.length zu _ mj uo zv uq zn
    generalize dP:(cur.toList.take (l.length*i.size)++jc k3 bC.length i.size++cur.toList.drop (l.length*i.size+(jc k3 bC.length i.size).length)).toArray=A at mR
    have wM:(w.setRow b A).heap[b]?=some (.cells A cD (0,0)):=setRow_heap w b cur A cD (0,0) bG
    have mK:∀k,k<l.length*i.size→A[k]?=cur[k]?:=fun k ak=>by
     rw [←dP]
     have hle:l.length*i.size≤cur.size:=by omega
     rw [List.getElem?_toArray,List.append_assoc,List.getElem?_append_left (by simp;omega),List.getElem?_take,if_pos ak,Array.getElem?_toList]
    obtain ⟨s1,s2⟩:=st.KV (w':=w.setRow b A) (by simp) (fun c ar=>setRow_other w b c A ar) ((l.length+bC.length)*i.size) (by rw [←cU,Nat.add_mul];omega) (fun o aL=>by
     rw [←cU] at aL
     simp [World.cell?,wM,bG,mK o aL]) rfl rfl rfl
    refine ⟨_,_,_,[b],mR,s1,?_,s2⟩
    refine wN (sz:=i.size) (cv:=fun a b=>if a<l.length then cv a b else k3 (a- l.length) b) (by simp) uq ai ew (.inl (by omega)) wM (by rw [←dP];simp;omega) (fun a aX=>?_) (by rw [uk]) (fun a gG aX ag=>?_) (fun a gG aX ag=>?_)
    · by_cases h:a<l.length
      · rw [mP h];exact cV a h
      · rw [ot (by omega),wQ _ (by omega)]
    · rw [←dP,List.getElem?_toArray]
      refine Dz (by simp;omega) mj (fun a gG aX ag=>?_) DF a gG aX ag
      have:=iK a gG aX ag
      simp only [World.cell?,bG] at this
      rw [List.getElem?_take,if_pos (zo _ _ _ _ aX ag),Array.getElem?_toList]
      exact this
    · by_cases h:a<l.length
      · simp only [if_pos h]
        rw [mP h]
        exact (kc a gG h ag).gQ s2.mono s2.cell (by simp)
      · simp only [if_neg h]
        rw [ot (by omega)]
        exact (si _ gG (by omega) ag).gQ s2.mono s2.cell (by simp)
  · have holds:=Dv (w:=w) (cv:=cv) (n:=l.length) (sz:=i.size) (b:=b) (off:=0) jN (fun a gG aX ag=>by rw [Nat.zero_add];exact iK a gG aX ag)
    have uu:(jc cv l.length i.size).length=l.length*i.size:=by simp [jc]
    have K5:=growslice_fits (need:=l.length+bC.length) (old:=cap) (bytes:=i.bytes) (by omega) DC
    have mR:=run_append_grow (P:=P) w t ty e i z aB ad pV ⟨b,0,none⟩ l.length cap _ uu holds ⟨zs,zt,none⟩ bC.length zu _ mj uo (by omega) DJ K5
    have fu:=grownCap_ge w (l.length+bC.length) cap e
    have zx:=grownCap_le_maxLen w (l.length+bC.length) cap e (DE _ ew)
    obtain ⟨lim',fN,s1,s2,mS⟩:=DH (jc cv l.length i.size) l.length (grownCap w (l.length+bC.length) cap e) cv uu rfl fu zx (fun a gG aX ag=>Du aX ag) kc (DI _ fu _ uu)
    exact ⟨_,_,lim',fN,mR,s1,s2,mS⟩
end
end Go.ba
end
section
namespace Go.ba
open Go
section
variable {P:Program} {F:Nat→Prop} {lim:Nat→Nat} {w:World} {n:Nat} {fr:Fr} {m:ae} {ca:Act} {bE:List Nat}
def uv (w:World) (lim:Nat→Nat) (cs:Array Value) (xs:List U):Prop:=cs.size=xs.length∧∀i,i<xs.length→aP w lim (cs.getD i undef) (xs.getD i .aS) []
theorem DK {oss:Nat→List Nat} {k:Nat} (h:[]=(List.range k).flatMap oss):∀i,i<k→oss i=[]:=fun i ad=>yX h.symm i ad
theorem qS {v:Value} {x:U} (h:aP w lim v x []) (aq:x.dy=true):uv w lim v.cells x.cells:=by
 obtain ⟨oss,J,aa,ai⟩:=zg h aq
 exact ⟨J,fun i ad=>by have:=aa i ad;rwa [DK ai i ad] at this⟩
theorem K6 {α:Type} (A B:List α) (pU:α) (off i:Nat) (KT:off+B.length≤A.length):(A.take off++B++A.drop (off+B.length)).getD i pU=if off≤i∧i<off+B.length then B.getD (i- off) pU else A.getD i pU:=by
 simp only [List.getD_eq_getElem?_getD]
 by_cases J:i<off
 · rw [if_neg (by omega),List.append_assoc,List.getElem?_append_left (by simp;omega),List.getElem?_take,if_pos J]
 · by_cases aa:i<off+B.length
   · rw [if_pos ⟨by omega,aa⟩,List.append_assoc,List.getElem?_append_right (by simp;omega),List.getElem?_append_left (by simp;omega)]
     simp [show min off A.length=off from by omega]
   · rw [if_neg (by omega),List.getElem?_append_right (by simp;omega),List.getElem?_drop]
     congr 2
     simp;omega
theorem K7 (place:Nat→Option (Nat×Nat)):∀(ps:List (Nat×U)) (o7:List (Nat×Value)) (cs:Array Value) (xs cA:List U),lE place xs ps=some cA→uv w lim cs xs→o7.map (·.1)=ps.map (·.1)→
 (∀i (ad:i<ps.length),uv w lim (o7.getD i (0,undef)).2.cells (ps[i]).2.cells)→∃fx,Instr.fill place cs o7=some fx∧uv w lim fx cA:=by
 intro ps
 induction ps with
 |nil=>
  intro o7 cs xs cA h ar hm aU
  have:o7=[]:=by simpa using hm
  subst this
  simp only [lE,Option.some.injEq] at h
  subst h
  exact ⟨cs,rfl,ar⟩
 |cons p ps aQ=>
  intro o7 cs xs cA h ar hm aU
  cases o7 with
  |nil=>simp at hm
  |cons q o7=>
   obtain ⟨i,x⟩:=p
   obtain ⟨j,v⟩:=q
   simp only [List.map_cons,List.cons.injEq] at hm
   obtain ⟨rfl,hm⟩:=hm
   have aq:=aU 0 (by simp)
   simp only [List.getD_cons_zero,List.getElem_cons_zero] at aq
   simp only [lE] at h
   cases ou:place j with
   |none=>simp [ou] at h
   |some os=>
    obtain ⟨off,size⟩:=os
    simp only [ou] at h
    split at h
    · next K8=>
      obtain ⟨al,hle⟩:=K8
      have ov:v.cells.size=size:=aq.1.trans al
      simp only [Instr.fill,ou]
      rw [if_neg (by simp [ov,ar.1];omega)]
      refine aQ o7 _ _ cA h ?_ hm (fun k ak=>by have:=aU (k+1) (by simp;omega);simpa using this)
      obtain ⟨f1,f2⟩:=Great.foldl_set off v.cells.toList 0 cs
      have K9:(v.cells.zipIdx.foldl (fun cs (c,j)=>cs.setIfInBounds (off+j) c) cs)=((v.cells.toList.zipIdx 0).foldl (fun cs (x:Value×Nat)=>cs.setIfInBounds (off+x.2) x.1) cs):=by
       rw [←Array.foldl_toList];simp
      rw [K9]
      refine ⟨by rw [f1,ar.1];simp;omega,fun k ak=>?_⟩
      have hlen:(xs.take off++x.cells++xs.drop (off+size)).length=xs.length:=by simp;omega
      rw [hlen] at ak
      rw [←al,K6 xs x.cells .aS off k (by omega)]
      have aM:((v.cells.toList.zipIdx 0).foldl (fun cs (x:Value×Nat)=>cs.setIfInBounds (off+x.2) x.1) cs).getD k undef=if off≤k∧k<off+x.cells.length then v.cells.getD (k- off) undef else cs.getD k undef:=by
       rw [Array.getD_eq_getD_getElem?,f2 k]
       by_cases jb:off≤k∧k<off+x.cells.length
       · rw [if_pos (by simp [ov,ar.1];omega),if_pos jb]
         simp [Array.getD_eq_getD_getElem?]
       · rw [if_neg (by simp [ov];omega),if_neg jb,Array.getD_eq_getD_getElem?]
      rw [aM]
      by_cases jb:off≤k∧k<off+x.cells.length
      · rw [if_pos jb,if_pos jb];exact aq.2 _ (by omega)
      · rw [if_neg jb,if_neg jb];exact ar.2 k ak
    · cases h
theorem zy {t:TypeId} {z:U} (h:hy P t=some z):∃v,(zeroValue t).run P w= .ok v w∧oj v=true∧z=jI v∧aP w lim v z []:=by
 obtain ⟨i,v,J,aa,ai,aJ⟩:=zl (P:=P) (e:=t) (by rw [h];rfl)
 rw [h] at aJ
 have ao:z=jI v:=by simpa using aJ
 exact ⟨v,by simp [zeroValue,typeInfo,J,aa],ai,ao,by rw [ao];exact yS ai⟩
theorem run_places (cL:List Field) (h:∀f∈cL,dS P f.type=true):(cL.mapM fun f=>do pure (f.offset,←sizeOf f.type):Sem (List (Nat×Nat))).run P w= .ok (cL.map fun f=>(f.offset,P.cellsOf f.type)) w:=by
 induction cL with
 |nil=>rfl
 |cons f cL aQ=>
  rw [List.mapM_cons]
  have La:=aQ (fun g bl=>h g (by simp [bl]))
  simp only [Sem.run_bind,lB (h f (by simp)),Result.andThen_ok,Sem.run_pure,La,List.map_cons]
theorem zz {t:TypeId} {cL:Array Field} {z:U} {cells:List U} (hu:P.underlying t=some (.struct cL)) (ao:hy P t=some z) (pX:z.dy=true) (jn:∀f∈cL.toList,dS P f.type=true)
 {parts:Array (Nat×Operand)} {a:Operand→U} (aN:lE (fun i=>(cL[i]?).map fun f=>(f.offset,P.cellsOf f.type)) z.cells (parts.toList.map fun p=>(p.1,a p.2))=some cells)
 (au:∀p∈parts.toList,aP w lim (ca.eval p.2) (a p.2) []) (aB:∀p∈parts.toList,(a p.2).dy=true):
 ∃v,(Instr.build t (parts.map fun (i,x)=>(i,ca.eval x))).run P w= .ok v w∧aP w lim v (.agg cells) []:=by
 obtain ⟨Lb,pY,DL,rfl,nL⟩:=zy (w:=w) (lim:=lim) ao
 have Lc:((cL.mapM fun f=>do pure (f.offset,←sizeOf f.type):Sem (Array (Nat×Nat)))).run P w= .ok (cL.map fun f=>(f.offset,P.cellsOf f.type)) w:=by
  have:=run_places (P:=P) (w:=w) cL.toList jn
  rw [←Array.toList_mapM] at this
  simp only [Sem.run_map] at this
  cases aT:(cL.mapM fun f=>do pure (f.offset,←sizeOf f.type):Sem (Array (Nat×Nat))).run P w with
  |ok a w'=>
   rw [aT] at this
   simp only [Result.andThen_ok,Result.ok.injEq] at this
   obtain ⟨J,rfl⟩:=this
   congr 1
   apply Array.ext'
   simpa using J
  |halt e w'=>rw [aT] at this;simp at this
 obtain ⟨fx,J,aa⟩:=K7 (w:=w) (lim:=lim) _ _ (parts.toList.map fun p=>(p.1,ca.eval p.2)) Lb.cells _ _ aN (qS nL pX) (by simp) (fun i ad=>by
  simp only [List.length_map] at ad
  have jo:parts.toList[i]∈parts.toList:=List.getElem_mem ad
  have:=qS (au _ jo) (aB _ jo)
  have aM:(parts.toList.map fun p=>(p.1,ca.eval p.2)).getD i (0,undef)=(parts.toList[i].1,ca.eval parts.toList[i].2):=by
   rw [List.getD_eq_getElem?_getD,List.getElem?_map,List.getElem?_eq_getElem ad];rfl
  have aC:(parts.toList.map fun p=>(p.1,a p.2))[i]=(parts.toList[i].1,a parts.toList[i].2):=by rw [List.getElem_map]
  rw [aM,aC];exact this)
 refine ⟨.agg fx,?_,?_⟩
 · have ou:(fun (i:Nat)=>(cL.map fun (f:Field)=>(f.offset,P.cellsOf f.type))[i]?)=fun (i:Nat)=>(cL[i]?).map fun (f:Field)=>(f.offset,P.cellsOf f.type):=by funext i;simp
   have zA:(parts.map fun (i,x)=>(i,ca.eval x)).toList=parts.toList.map fun p=>(p.1,ca.eval p.2):=by simp
   simp only [Instr.build,Sem.run_bind,pY,Result.andThen_ok,fi hu,Lc,ou,zA,J]
   rfl
 · have:=aP.agg (w:=w) (lim:=lim) fx cells (fun _=>[]) aa.1 aa.2
   rw [flatMap_nil] at this
   exact this
theorem Ld {β:Type} (l:List (Nat×β)) (h:l.map (·.1)=List.range l.length):l=((l.map (·.2)).zipIdx 0).map fun x=>(x.2,x.1):=by
 apply List.ext_getElem?
 intro i
 have ad:=congrArg (·[i]?) h
 simp only [List.getElem?_map] at ad
 by_cases cl:i<l.length
 · simp [cl] at ad ⊢
   exact Prod.ext ad rfl
 · simp [cl]
set_option maxHeartbeats 1000000 in
theorem Le (st:bc F lim w n fr m ca bE) {t e:TypeId} {len:Nat} {parts:Array (Nat×Operand)} {a:Operand→U} (hu:P.underlying t=some (.slice e)) (jN:0<P.cellsOf e) (ao:k2 P e=true) (Lf:len*P.cellsOf e≤16777216)
 (DM:parts.toList.map (·.1)=List.range len) (au:∀p∈parts.toList,aP w lim (ca.eval p.2) (a p.2) []) (aB:∀p∈parts.toList,(a p.2).dy=true∧(a p.2).cells.length=P.cellsOf e):
 ∃v w' lim' os,(Instr.buildSlice t len (parts.map fun (i,x)=>(i,ca.eval x))).run P w= .ok v w'∧bc F lim' w' n fr m ca os∧aP w' lim' v (.slice true (parts.toList.map fun p=>a p.2)) os∧dL F w lim w' lim':=by
 obtain ⟨i,z,ad,pV,KY,KZ,DD⟩:=Dw ao
 obtain ⟨j0,pW⟩:=wO ad
 rw [j0] at jN Lf aB
 have hlen:parts.toList.length=len:=by have:=congrArg List.length DM;simpa using this
 have cJ:∀p∈parts.toList,(ca.eval p.2).cells.size=i.size:=fun p aU=>by rw [(qS (au p aU) (aB p aU).1).1];exact (aB p aU).2
 by_cases aG:len=0
 · subst aG
   have sj:parts=#[]:=by simpa using hlen
   subst sj
   have eN:=dL.zj (w':=w) st rfl rfl rfl rfl (.cells #[] e) 0
   refine ⟨.slice (some ⟨w.heap.size,0,none⟩) 0 0,w.alloc (.cells #[] e),_,_,by
    have zB:Array.range 0=#[]:=by apply Array.ext';simp
    simp [Instr.buildSlice,fi hu,sizeOf,typeInfo,ad,Instr.fill,newRow,zB],st.zh (w':=w) rfl _ 0,?_,eN⟩
   exact wN (sz:=i.size) (cv:=fun _ _=>undef) (by simp) (Nat.le_refl _) (by simp [maxLen]) (by omega) (.inr rfl) (qE w _) (by simp) (fun _ h=>by omega) (by rw [uk];simp) (fun _ _ h=>by omega) (fun _ _ h=>by omega)
 · have zA:(parts.map fun (i,x)=>(i,ca.eval x)).toList=(((parts.toList.map fun p=>ca.eval p.2)).zipIdx 0).map fun x=>(x.2,x.1):=by
    have J:(parts.toList.map fun p=>(p.1,ca.eval p.2)).map (·.1)=List.range (parts.toList.map fun p=>(p.1,ca.eval p.2)).length:=by
     simp only [List.map_map,List.length_map,hlen]
     exact DM
    have aa:=Ld _ J
    simp only [List.map_map] at aa
    have e:(parts.map fun (i,x)=>(i,ca.eval x)).toList=parts.toList.map fun p=>(p.1,ca.eval p.2):=by simp
    rw [e];exact aa
   have DN:=Great.fill_whole (s:=i.size) jN (parts.toList.map fun p=>ca.eval p.2) ((Array.range (len*i.size)).map (z.cells[· %z.cells.size]!)) (fun v bn=>by
    obtain ⟨p,aU,rfl⟩:=List.mem_map.1 bn;exact cJ p aU) (by simp [hlen])
   rw [←zA] at DN
   have gg:¬len*i.size=0:=by
    have:=Nat.mul_pos (Nat.pos_of_ne_zero aG) jN;omega
   have mR:=run_buildSlice (P:=P) w t e len (parts.map fun (i,x)=>(i,ca.eval x)) _ i z hu ad pV (by omega) gg DN
   have eN:=dL.zj (w':=w) st rfl rfl rfl rfl (.cells ((parts.toList.map fun p=>ca.eval p.2).flatMap fun v=>v.cells.toList).toArray e) (len*i.size)
   refine ⟨_,_,_,_,mR,st.zh (w':=w) rfl _ (len*i.size),?_,eN⟩
   have nF:∀k,k<len→(parts.toList.map fun p=>a p.2).getD k .aS=a (parts.toList.getD k (0, .tmp 0)).2∧(parts.toList.map fun p=>ca.eval p.2)[k]?=some (ca.eval (parts.toList.getD k (0, .tmp 0)).2)∧parts.toList.getD k (0, .tmp 0)∈parts.toList:=fun k ak=>by
    have er:k<parts.toList.length:=by omega
    have sk:k<parts.size:=by simpa using er
    simp [List.getD_eq_getElem?_getD,sk]
   have Ua:len≤len*i.size:=Nat.le_mul_of_pos_right _ jN
   refine wN (sz:=i.size) (cv:=fun k j=>(ca.eval (parts.toList.getD k (0, .tmp 0)).2).cells.getD j undef) (by simp only [List.length_map];exact hlen) (Nat.le_refl _) (by simp only [maxLen];omega) (by omega) (.inl (by omega)) (qE w _) ?_ (fun k ak=>?_) (by rw [uk]) (fun k j ak aA=>?_) (fun k j ak aA=>?_)
   · have:∀(l:List Value),(∀v∈l,v.cells.size=i.size)→(l.flatMap fun v=>v.cells.toList).length=l.length*i.size:=fun l av=>by
      induction l with
      |nil=>simp
      |cons v l aQ=>rw [List.flatMap_cons,List.length_append,aQ (fun u hu=>av u (by simp [hu]))];simp [av v (by simp),Nat.add_mul,Nat.add_comm]
     rw [List.size_toArray,this _ (fun v bn=>by obtain ⟨p,aU,rfl⟩:=List.mem_map.1 bn;exact cJ p aU),List.length_map,hlen]
   · obtain ⟨J,aa,ai⟩:=nF k ak
     rw [J];exact (aB _ ai).2
   · obtain ⟨J,aa,ai⟩:=nF k ak
     rw [List.getElem?_toArray,Great.flat_get jN _ (fun v bn=>by obtain ⟨p,aU,rfl⟩:=List.mem_map.1 bn;exact cJ p aU)]
     have aM:(k*i.size+j)/i.size=k:=by rw [Nat.mul_comm,Nat.mul_add_div jN,Nat.div_eq_of_lt aA,Nat.add_zero]
     have aC:(k*i.size+j)%i.size=j:=by rw [Nat.mul_comm,Nat.mul_add_mod,Nat.mod_eq_of_lt aA]
     rw [aM,aC,aa,Option.bind_some]
     have:j<(ca.eval (parts.toList.getD k (0, .tmp 0)).2).cells.size:=by rw [cJ _ ai];exact aA
     simp only [Array.getD_eq_getD_getElem?,Array.getElem?_eq_getElem this,Option.getD_some]
   · obtain ⟨J,aa,ai⟩:=nF k ak
     rw [J]
     exact ((qS (au _ ai) (aB _ ai).1).2 j (by rw [(aB _ ai).2];exact aA)).gQ eN.mono eN.cell (by simp)
theorem bc.Lg (h:bc F lim w n fr m ca []) {b off:Nat} {l:List U} (hm:m b=some (.cells l)) (aL:off<l.length):
 ∃v os,w.cell? ⟨b,off,none⟩=some v∧bc F lim w n fr (m.cQ b (some (.cells (l.set off (l.getD off .aS).plain)))) ca os∧aP w lim v (l.getD off .aS) os:=by
 obtain ⟨os,cP,bW,h⟩:=h
 have gY:=h.mem b _ hm
 obtain ⟨wL,fb,fM⟩:=gY
 cases wL with
 |cells cs e _ _ ag al au=>
  have Lh:off<cs.size:=by omega
  refine ⟨cs.getD off undef,cP b off,by simp [World.cell?,ag,Array.getD,Lh],⟨os,fun k i=>if k=b∧i=off then [] else cP k i,fun c=>if bW c= .r4 b off then .kA else if bW c= .kA then .none else bW c,h.size,h.defers,h.ey,fun k o ak=>?_,fun t x aq=>⟨(h.fc t x aq).1,fun c ar=>?_⟩,fun k o ak i=>?_,?_,fun c ar=>?_,fun k ak=>?_⟩,au off aL⟩
  · by_cases h3:k=b
    · subst h3
      simp only [ae.cQ,↓reduceIte,Option.some.injEq] at ak ⊢
      subst ak
      refine ⟨.cells cs e _ _ ag (by simp [al]) (fun i ad=>?_),fb,fM⟩
      simp only [List.length_set] at ad
      by_cases k4:i=off
      · subst k4
        simp only [List.getD_eq_getElem?_getD,List.getElem?_set,aL,if_true,Option.getD_some,and_self]
        have:=(au i ad).plain
        simpa [List.getD_eq_getElem?_getD] using this
      · have:¬off=i:=fun e=>k4 e.symm
        simp only [List.getD_eq_getElem?_getD,List.getElem?_set,this,if_false,k4,and_false]
        have:=au i ad
        simpa [List.getD_eq_getElem?_getD] using this
    · simp only [ae.cQ,if_neg h3] at ak ⊢
      simpa [h3] using h.mem k o ak
  · have:=(h.fc t x aq).2 c ar
    simp [this]
  · by_cases h3:k=b
    · subst h3
      by_cases k4:i=off
      · simp [k4]
      · refine ⟨by simpa [k4] using (h.ed k _ hm i).1,fun c ar=>?_⟩
        have:=(h.ed k _ hm i).2 c (by simpa [k4] using ar)
        simp [this,k4]
    · simp only [ae.cQ,if_neg h3] at ak
      refine ⟨by simpa [h3] using (h.ed k o ak i).1,fun c ar=>?_⟩
      have:=(h.ed k o ak i).2 c (by simpa [h3] using ar)
      simp [this,h3]
  · exact ⟨(h.ed b _ hm off).1,fun c ar=>by simp [(h.ed b _ hm off).2 c ar]⟩
  · have gg:bW c≠ .none:=by
     intro e;simp [e] at ar
    have:=h.free c gg
    refine ⟨this.1,?_,this.2.2⟩
    have iM:c≠b:=fun e=>by subst e;rw [hm] at this;cases this.2.1
    simp only [ae.cQ,if_neg iM]
    exact this.2.1
  · have:=h.fresh k ak
    refine ⟨this.1,this.2.1,?_⟩
    have iM:k≠b:=fun e=>by subst e;rw [hm] at this;cases this.2.2
    simp only [ae.cQ,if_neg iM]
    exact this.2.2
end
end Go.ba
end
section
namespace Go.ba
open Go
section
variable {P:Program} {F:Nat→Prop} {lim:Nat→Nat} {w:World} {n:Nat} {fr:Fr} {m:ae} {ca:Act} {bE:List Nat}
theorem wS (s:Nat):fr.strip [s]=fr.put s (bd fr s).plain:=rfl
theorem bc.sl (h:bc F lim w n fr m ca []) (s:Nat) (al:s<n):∃os,bc F lim w n (fr.strip [s]) m ca os∧aP w lim (ca.tmps.getD s undef) (bd fr s) os:=by
 cases bl:fr.get s with
 |some x=>
  obtain ⟨os,J,aa⟩:=h.take bl
  refine ⟨os,?_,?_⟩
  · rw [wS];simpa [bd,bl] using J
  · simpa [bd,bl] using aa
 |none=>
  refine ⟨[],?_,by simp [bd,bl];exact .aS _⟩
  rw [wS]
  refine h.sub fun t x aq=>?_
  rw [Fr.oU] at aq
  by_cases e:s=t
  · subst e
    simp [bd,bl,U.plain] at aq
    exact .inr ⟨aq.symm,al⟩
  · rw [if_neg e] at aq;exact .inl aq
theorem bc.DO (h:bc F lim w n fr m ca []) (y:Operand) (aK:kD y=true) (al:∀t,y= .tmp t→t<n):∃os,bc F lim w n (fr.strip (kd y)) m ca os∧aP w lim (ca.eval y) (eB (bd fr) y) os:=by
 cases y with
 |tmp t=>exact h.sl t (al t rfl)
 |const v=>exact ⟨[],h,yS aK⟩
 |global g=>exact ⟨[],h, .ptr _⟩
 |func f=>exact ⟨[],h, .func _ #[] #[] [] [] rfl rfl (by simp) (by simp)⟩
theorem hQ (h:bc F lim w n fr m ca bE) {x:Operand} (aq:kD x=true):aP w lim (ca.eval x) (b4 (bd fr) x) []:=by
 rw [ui]
 obtain ⟨_,au,rfl⟩:=tY h aq
 exact au
def uw (P:Program) (F:Nat→Prop) (lim:Nat→Nat) (w:World) (n:Nat) (ca:Act) (o:Oper) (aZ:Fr) (m':ae) (x:U):Prop:=
 ∃v w' lim' os,(execOp ca.eval o).run P w= .ok (.value v) w'∧bc F lim' w' n aZ m' ca os∧aP w' lim' v x os∧dL F w lim w' lim'
theorem zC {o:Oper} {side:Prop} {x:U} (h:bO P m (b4 (bd fr)) o.op=some (side,x)) (al:side) (st:bc F lim w n fr m ca []) (ak:eQ n o=true):uw P F lim w n ca o fr m x:=by
 obtain ⟨v,J,aa⟩:=wH (P:=P) (w:=w) (lim:=lim) h al (ca:=ca) (fun y aK=>hQ st (kG ak y aK)) st.sf
 exact ⟨v,w,lim,[],J,st,aa, .refl _ _ _⟩
theorem DP {stl:List Nat} {o:Oper} {side:Prop} {ss:List Nat} {m':ae} {x:U} (h:(match bO P m (b4 (bd fr)) o.op with|some (side,x)=>ja.val side [] m x|none=> .stuck)= .val side ss m' x) (al:side)
 (st:bc F lim w n fr m ca []) (ak:eQ n o=true):uw P F lim w n ca o (fr.strip ss) m' x:=by
 cases aO:bO P m (b4 (bd fr)) o.op with
 |none=>simp [aO] at h
 |some p=>
  obtain ⟨wT,y⟩:=p
  simp only [aO,ja.val.injEq] at h
  obtain ⟨rfl,rfl,rfl,rfl⟩:=h
  exact zC aO al st ak
theorem Li {v:Value} {l:List U} {os:List Nat} (h:aP w lim v (.tuple l) os) {i:Nat} (ad:i<l.length):∃cs:Array Value,∃ux:List Nat,v= .tuple cs∧i<cs.size∧aP w lim (cs.getD i undef) (l.getD i .aS) ux∧(∀c∈ux,c∈os)∧(os.Nodup→ux.Nodup):=by
 cases h with
 |tuple cs _ oss h au=>exact ⟨cs,oss i,rfl,by omega,au i ad,fun c ar=>Dl.2 ⟨i,ad,ar⟩,fun aI=>(Dk aI).1 i ad⟩
theorem Lj {o:Oper} {t:Nat} (ak:eQ n o=true) (aI:(o.op.operands.toList.all fun y=>match y with| .tmp t=>decide (t<n)|_=>true)=true) (aB:Operand.tmp t∈o.op.operands.toList):t<n:=by
 rw [List.all_eq_true] at aI
 simpa using aI _ aB
set_option maxHeartbeats 2000000 in
theorem zD {stl:List Nat} {o:Oper} {side:Prop} {ss:List Nat} {m':ae} {x:U} (h:eC P m (bd fr) stl o.dst o.op= .val side ss m' x) (al:side) (st:bc F lim w n fr m ca []) (ak:eQ n o=true)
 (aI:(o.op.operands.toList.all fun y=>match y with| .tmp t=>decide (t<n)|_=>true)=true):uw P F lim w n ca o (fr.strip ss) m' x:=by
 have aB:∀t,Operand.tmp t∈o.op.operands.toList→t<n:=fun t=>Lj ak aI
 have gZ:=kG ak
 have taken:∀s,s<n→(∀a:Act,execOp a.eval o=pure (.value (a.eval (.tmp s))))→uw P F lim w n ca o (fr.strip [s]) m (bd fr s):=fun s r5 he=>by
  obtain ⟨os,J,aa⟩:=st.sl s r5
  exact ⟨ca.eval (.tmp s),w,lim,os,by rw [he ca];rfl,J,aa, .refl _ _ _⟩
 unfold eC at h
 split at h
 · next s cB=>
   simp only [ja.val.injEq] at h
   obtain ⟨rfl,rfl,rfl,rfl⟩:=h
   exact taken s (aB s (by rw [cB];simp [Op.operands])) (fun a=>by simp [execOp,cB])
 · next s cB=>
   split at h
   · simp only [ja.val.injEq] at h
     obtain ⟨rfl,rfl,rfl,rfl⟩:=h
     exact taken s (aB s (by rw [cB];simp [Op.operands])) (fun a=>by simp [execOp,cB])
   · simp only [ja.val.injEq] at h
     obtain ⟨rfl,rfl,rfl,rfl⟩:=h
     exact zC (by rw [cB];rfl) trivial st ak
 · next s i cB=>
   split at h
   · next l av=>
     split at h
     · simp only [ja.val.injEq] at h
       obtain ⟨rfl,rfl,rfl,rfl⟩:=h
       obtain ⟨os,J,aa⟩:=st.sl s (aB s (by rw [cB];simp [Op.operands]))
       rw [av] at aa
       obtain ⟨cs,ux,he,Lk,au,o6,hi⟩:=Li aa al
       refine ⟨cs.getD i undef,w,lim,ux,?_,J.KL (hi J.KM) o6,au, .refl _ _ _⟩
       simp [execOp,cB,Act.eval,he,Instr.extract,Lk]
     · simp only [ja.val.injEq] at h
       obtain ⟨rfl,rfl,rfl,rfl⟩:=h
       show uw P F lim w n ca o fr m _
       refine zC (fr:=fr) (side:=i<(U.eU l).length) ?_ (by simpa [U.h0] using al) st ak
       rw [cB]
       have bl:=mJ l i
       simp only [bO,b4,av,U.plain,bl]
   · cases h
 · next t y cB=>
   split at h
   · split at h
     · next b off o8=>
       split at h
       · next l hm=>
         simp only [ja.val.injEq] at h
         obtain ⟨rfl,rfl,rfl,rfl⟩:=h
         obtain ⟨hu,zE,Ll⟩:=al
         have aK:=hQ st (gZ y (by rw [cB];simp [Op.operands]))
         rw [o8] at aK
         obtain ⟨v,os,J,aa,ai⟩:=st.Lg hm Ll
         refine ⟨v,w,lim,os,?_,aa,ai, .refl _ _ _⟩
         simp [execOp,cB,pQ aK,Instr.loadAt,Instr.sureAddr,loadVar,r6 hu,zE,J]
       · cases h
     · cases h
   · exact DP (stl:=stl) (by rw [cB];exact h) al st ak
 · split at h
   · split at h<;>cases h
   · cases h
 · cases h
 · split at h<;>cases h
 · split at h
   · split at h<;>cases h
   · cases h
 · split at h<;>cases h
 · next t parts cB=>
   split at h
   · cases h
   · split at h
     · next cL z hu ao=>
       split at h
       · next cells aN=>
         simp only [ja.val.injEq] at h
         obtain ⟨rfl,rfl,rfl,rfl⟩:=h
         obtain ⟨J,aa,ai⟩:=al
         obtain ⟨v,aJ,aY⟩:=zz (P:=P) (w:=w) (lim:=lim) (ca:=ca) hu ao J aa aN (fun p aU=>hQ st (gZ p.2 (by rw [cB];simp [Op.operands];exact ⟨p.1,by simpa using aU⟩))) ai
         exact ⟨v,w,lim,[],by simp [execOp,cB,aJ],st,aY, .refl _ _ _⟩
       · cases h
     · cases h
 · next t len parts cB=>
   split at h
   · cases h
   · split at h
     · next e hu=>
       simp only [ja.val.injEq] at h
       obtain ⟨rfl,rfl,rfl,rfl⟩:=h
       obtain ⟨J,aa,ai,aJ,aY,bG⟩:=al
       obtain ⟨v,w',lim',os,lC,k0,uy,uz⟩:=Le (P:=P) st hu aa ai aJ aY (a:=b4 (bd fr)) (fun p aU=>hQ st (gZ p.2 (by rw [cB];simp [Op.operands];exact ⟨p.1,by simpa using aU⟩))) bG
       exact ⟨v,w',lim',os,by simp [execOp,cB,lC],k0,uy,uz⟩
     · cases h
 · next args cT cB=>
   split at h
   · next s y t u jq zF=>
     split at h
     · next e cD l own bC hu zG j1 o8=>
       simp only [ja.val.injEq] at h
       obtain ⟨rfl,rfl,rfl,rfl⟩:=h
       obtain ⟨rfl,J,aa,ai,aJ,aY,bG,c7⟩:=al
       have jo:∀z∈args.toList,z∈o.op.operands.toList:=fun z ao=>by rw [cB];simpa [Op.operands,Call.operands] using ao
       obtain ⟨os,s1,s2⟩:=st.sl s (aB s (jo _ (by rw [jq];simp)))
       rw [j1] at s2
       have aK:=hQ st (gZ y (jo _ (by rw [jq];simp)))
       rw [o8] at aK
       have o2:aP w lim (ca.eval y) (.slice false bC) []:=by simpa [U.plain] using aK.plain
       obtain ⟨v,w',lim',fN,lC,k0,uy,uz⟩:=DB (P:=P) (ty:=o.type) s1 hu ai aa s2 o2 aJ aY bG c7
       refine ⟨v,w',lim',fN,?_,k0,uy,uz⟩
       have aM:args.map ca.eval=#[ca.eval (.tmp s),ca.eval y]:=by apply Array.ext';simp [jq]
       have aC:cT=#[t,t]:=by apply Array.ext';simp [zF]
       simp only [execOp,cB,resolve,invoke,builtin,Sem.run_bind,Sem.run_pure,Result.andThen_ok,aM,aC]
       simp only [Act.eval] at lC ⊢
       rw [lC];rfl
     · cases h
   · next y t u jq zF=>
     split at h
     · next e cD own bC hu zG o8=>
       simp only [ja.val.injEq] at h
       obtain ⟨rfl,rfl,rfl,rfl⟩:=h
       obtain ⟨rfl,J,aa,ai,aJ,aY⟩:=al
       have jo:∀z∈args.toList,z∈o.op.operands.toList:=fun z ao=>by rw [cB];simpa [Op.operands,Call.operands] using ao
       have aK:=hQ st (gZ y (jo _ (by rw [jq];simp)))
       rw [o8] at aK
       have o2:aP w lim (ca.eval y) (.slice false bC) []:=by simpa [U.plain] using aK.plain
       obtain ⟨o3,ke,_,ew⟩:=yZ o2
       obtain ⟨v,w',lim',fN,lC,k0,uy,uz⟩:=DB (P:=P) (ty:=o.type) st hu ai aa (.fL true) o2 (by simpa using aJ) (by simpa using ew) (by simp) aY
       refine ⟨v,w',lim',fN,?_,k0,by simpa using uy,uz⟩
       have aM:args.map ca.eval=#[.slice none 0 0,ca.eval y]:=by apply Array.ext';simp [jq,Act.eval]
       have aC:cT=#[t,t]:=by apply Array.ext';simp [zF]
       simp only [execOp,cB,resolve,invoke,builtin,Sem.run_bind,Sem.run_pure,Result.andThen_ok,aM,aC]
       rw [lC];rfl
     · cases h
   · cases h
 · cases h
 · split at h<;>cases h
 · exact DP (stl:=stl) h al st ak
end
end Go.ba
end
section
namespace Go.ba
open Go
section
variable {P:Program} {F:Nat→Prop} {lim:Nat→Nat} {w:World} {n:Nat} {fr:Fr} {m:ae} {ca:Act} {bE:List Nat}
def gh (n:Nat) (o:Oper):Bool:=o.op.operands.toList.all fun y=>match y with| .tmp t=>decide (t<n)|_=>true
theorem wU {o:Oper} (aI:gh n o=true) {y:Operand} (aK:y∈o.op.operands.toList):∀t,y= .tmp t→t<n:=by
 intro t aB
 subst aB
 simp only [gh,List.all_eq_true] at aI
 simpa using aI _ aK
set_option maxHeartbeats 2000000 in
theorem Lm {stl:List Nat} {o:Oper} {side:Prop} {ss:List Nat} {m':ae} (h:eC P m (bd fr) stl o.dst o.op= .nI side ss m') (al:side) (st:bc F lim w n fr m ca []) (ak:eQ n o=true) (aI:gh n o=true):
 ∃w' lim',(execOp ca.eval o).run P w= .ok .skip w'∧bc F lim' w' n (fr.strip ss) m' ca []∧dL F w lim w' lim':=by
 have gZ:=kG ak
 unfold eC at h
 split at h
 case h_5 t a x cB=>
  split at h
  · next b off o8=>
    split at h
    · next l hm=>
      simp only [ja.nI.injEq] at h
      obtain ⟨rfl,rfl,rfl⟩:=h
      obtain ⟨J,aa,ai,aJ,aY⟩:=al
      have aX:=hQ st (gZ a (by rw [cB];simp [Op.operands]))
      rw [o8] at aX
      obtain ⟨os,s1,s2⟩:=st.DO x (gZ x (by rw [cB];simp [Op.operands])) (wU aI (by rw [cB];simp [Op.operands]))
      obtain ⟨oss,jd,c2,c3⟩:=zg s2 J
      obtain ⟨fN,gY⟩:=st.sf b _ hm
      obtain ⟨cs,e,_,r9,cJ,_⟩:=yY gY
      rw [←ai] at aY
      have Ln:(ca.eval x).cells.toList.length=(eB (bd fr) x).cells.length:=by simpa using jd
      obtain ⟨lC,k0⟩:=s1.Dm (vs:=(ca.eval x).cells.toList) hm r9 aY Ln (fun i ad=>by
       have:=c2 i ad
       simpa [Array.getD_eq_getD_getElem?,List.getD_eq_getElem?_getD] using this) c3
      have zv:∀v∈(ca.eval x).cells.toList,v.oneCell'=true:=fun v bn=>by
       obtain ⟨k,sn,rfl⟩:=List.mem_iff_getElem.1 bn
       have sk:k<(eB (bd fr) x).cells.length:=by omega
       have:=c2 k sk
       have bl:(ca.eval x).cells.getD k undef=(ca.eval x).cells.toList[k]:=by
        simp [Array.getD_eq_getD_getElem?,show k<(ca.eval x).cells.size from by simpa using sn]
       rw [bl] at this
       exact Dy aa sk this
      have db:=run_storeCells_at P b off e (ca.eval x).cells.toList 0 cs w r9 (by simp [cJ];omega) zv
      simp only [Nat.add_zero] at db
      rw [←ai]
      refine ⟨_,lim,?_,lC,k0⟩
      simp only [execOp,cB,pQ aX,Instr.storeAt,Instr.sureAddr,storeVar,Sem.run_bind,Sem.run_pure,Result.andThen_ok,lB aJ]
      have gg:¬(ca.eval x).cells.size≠P.cellsOf t:=by rw [jd,ai];simp
      simp only [gg,if_false,Sem.run_bind,Sem.run_pure,Result.andThen_ok,db]
    · cases h
  · cases h
 all_goals first
  |cases h
  |(split at h<;>cases h)
  |(split at h<;>(first|cases h|(split at h<;>first|cases h|(split at h<;>cases h))))
theorem Lo (k s:Nat) (z:List U) (ao:z.length=s) (al:0<s):∀i,i<k*s→(List.replicate k z).flatten.getD i .aS=z.getD (i%s) .aS:=by
 induction k with
 |zero=>intro i ad;omega
 |succ k aQ=>
  intro i ad
  rw [List.replicate_succ,List.flatten_cons]
  by_cases h:i<s
  · rw [mP (by omega),Nat.mod_eq_of_lt h]
  · rw [ot (by omega),ao,aQ (i- s) (by rw [Nat.add_mul] at ad;omega)]
    rw [←Nat.mod_eq_sub_mod (by omega:s≤i)]
def DQ (P:Program) (F:Nat→Prop) (lim:Nat→Nat) (w:World) (n:Nat) (ca:Act) (o:Oper) (aZ:Fr) (m:ae) (mk:Nat→U) (hG:fB):Prop:=
 ∃v w' b,(execOp ca.eval o).run P w= .ok (.value v) w'∧m b=none∧bc F lim w' n aZ (m.cQ b (some hG)) ca []∧aP w' lim v (mk b) []∧dL F w lim w' lim
theorem uA (st:bc F lim w n fr m ca bE) (o:Obj):dL F w lim (w.alloc o) lim:=by
 have eN:=dL.alloc st o 0
 have ao:=st.pP
 have fb:(fun b=>if b=w.heap.size then 0 else lim b)=lim:=by funext b;by_cases ag:b=w.heap.size<;>simp [ag,ao]
 rwa [fb] at eN
theorem DR (st:bc F lim w n fr m ca []):m w.heap.size=none∧bc F lim (w.alloc (.map #[] 0)) n fr (m.cQ w.heap.size (some (.map []))) ca []:=by
 have eN:=uA st (.map #[] 0)
 have ao:=st.pP
 have fM:¬F w.heap.size:=fun aN=>absurd (st.pO aN) (Nat.lt_irrefl _)
 have hm:m w.heap.size=none:=by
  cases ag:m w.heap.size with
  |none=>rfl
  |some o=>exact absurd (st.oX (b:=w.heap.size) (by rw [ag];simp)) (Nat.lt_irrefl _)
 have dP:=st.alloc (.map #[] 0) 0
 have fb:(fun b=>if b=w.heap.size then 0 else lim b)=lim:=by funext b;by_cases ag:b=w.heap.size<;>simp [ag,ao]
 rw [fb] at dP
 refine ⟨hm,?_⟩
 obtain ⟨os,cP,bW,h⟩:=st
 have cl:∀c,bW c≠ .none→c<w.heap.size:=fun c ar=>(h.free c ar).2.2
 refine ⟨os,fun b i=>if b=w.heap.size then [] else cP b i,bW,h.size,h.defers,fun t x aq=>⟨(h.ey t x aq).1,(h.ey t x aq).2.gQ eN.mono eN.cell (fun c ar=>⟨kC w _ c (cl c (by rw [(h.fc t x aq).2 c ar];simp)),rfl⟩)⟩,fun b o ag=>?_,h.fc,fun b o ag i=>?_,h.fW,fun c ar=>?_,fun b ag=>?_⟩
 · by_cases mM:b=w.heap.size
   · subst mM
     simp only [ae.cQ,↓reduceIte,Option.some.injEq] at ag ⊢
     subst ag
     exact ⟨.map #[] 0 [] (qE w _) rfl (by simp) (fun i ad=>by simp at ad) (fun i ad=>by simp at ad) (fun i j _ aA=>by simp at aA) (fun i ad=>by simp at ad) _,ao,fM⟩
   · simp only [ae.cQ,if_neg mM] at ag ⊢
     have nM:b<w.heap.size:=by
      rcases Nat.lt_or_ge b w.heap.size with fv|fv
      · exact fv
      · have:=(h.fresh b fv).2.2;rw [ag] at this;cases this
     have Ub:¬b=w.heap.size:=mM
     exact ⟨(h.mem b o ag).1.gQ (kC w _ b nM) eN.mono eN.cell (fun i c ar=>⟨kC w _ c (cl c (by rw [(h.ed b o ag i).2 c ar];simp)),rfl⟩),(h.mem b o ag).2⟩
 · by_cases mM:b=w.heap.size
   · subst mM
     simp
   · simp only [ae.cQ,if_neg mM] at ag ⊢
     exact h.ed b o ag i
 · have:=h.free c ar
   refine ⟨this.1,?_,by simp;omega⟩
   simp only [ae.cQ]
   rw [if_neg (by omega)]
   exact this.2.1
 · simp at ag
   have:=h.fresh b (by omega)
   refine ⟨this.1,this.2.1,?_⟩
   simp only [ae.cQ]
   rw [if_neg (by omega)]
   exact this.2.2
set_option maxHeartbeats 2000000 in
theorem Lp {stl:List Nat} {o:Oper} {side:Prop} {ss:List Nat} {mk:Nat→U} {hG:fB} (h:eC P m (bd fr) stl o.dst o.op= .new side ss mk hG) (al:side) (st:bc F lim w n fr m ca []) (ak:eQ n o=true):
 DQ P F lim w n ca o (fr.strip ss) m mk hG:=by
 have gZ:=kG ak
 have zH:∀(cs:Array Value) (e:TypeId) (l:List U),uv w lim cs l→∀v,(execOp ca.eval o).run P w= .ok (.value v) (w.alloc (.cells cs e))→aP (w.alloc (.cells cs e)) lim v (mk w.heap.size) []→hG= .cells l→DQ P F lim w n ca o fr m mk hG:=fun cs e l ar v au bn aL=>by
  obtain ⟨J,aa⟩:=st.C0 cs e l ar.1 ar.2
  subst aL
  exact ⟨v,_,w.heap.size,au,J,aa,bn,uA st _⟩
 unfold eC at h
 split at h
 case h_6 t x cB=>
  simp only [ja.new.injEq] at h
  obtain ⟨rfl,rfl,rfl,rfl⟩:=h
  have aq:=hQ st (gZ x (by rw [cB];simp [Op.operands]))
  exact zH _ t _ (qS aq al) (.pointer (some ⟨w.heap.size,0,none⟩)) (by simp [execOp,cB,Instr.box,newVar,newRow]) (.ptr _) rfl
 case h_7 t cB=>
  split at h
  · next z ao=>
    simp only [ja.new.injEq] at h
    obtain ⟨rfl,rfl,rfl,rfl⟩:=h
    obtain ⟨v,J,aa,rfl,aJ⟩:=zy (w:=w) (lim:=lim) ao
    exact zH _ t _ (qS aJ al) (.pointer (some ⟨w.heap.size,0,none⟩)) (by simp [execOp,cB,Instr.alloc,newVar,newRow,J]) (.ptr _) rfl
  · cases h
 case h_8 t x y cB=>
  split at h
  · next e k ea hu aq aK=>
    split at h
    · next z ao=>
      simp only [ja.new.injEq] at h
      obtain ⟨rfl,rfl,rfl,rfl⟩:=h
      obtain ⟨J,aa,ai,aJ,rfl,bG,c7,cV⟩:=al
      obtain ⟨v,g1,g2,rfl,g4⟩:=zy (w:=w) (lim:=lim) ao
      have wV:=hQ st (gZ x (by rw [cB];simp [Op.operands]))
      have si:=hQ st (gZ y (by rw [cB];simp [Op.operands]))
      rw [aq] at wV;rw [aK] at si
      obtain ⟨ex,Lq,Lr⟩:=lD wV
      obtain ⟨zI,_,_⟩:=lD si
      have hw:=C1 .i64 k Lq Lr
      cases ad:P.info? e with
      |none=>simp [dS,Program.underlying,ad] at aa
      |some i=>
       obtain ⟨j0,pW⟩:=wO ad
       rw [j0] at ai aJ;rw [pW] at c7
       have ov:v.cells.size=i.size:=by rw [←wP];exact ai
       obtain ⟨Ls,iw,cM,bI,_,h4⟩:=zl (P:=P) (e:=e) (by rw [ao];rfl)
       rw [ad] at cM
       obtain rfl:i=Ls:=by simpa using cM
       have Lt:iw=v:=by
        have:=g1
        simp [zeroValue,typeInfo,ad,bI] at this
        exact this
       subst Lt
       have hmul:(i.bytes:Int)*k=k*i.bytes:=Int.mul_comm _ _
       have mR:=run_make (P:=P) w t e i iw hu ad bI .i64 .i64 k k bG (Int.le_refl _) (by omega) (by omega)
       refine zH (madeCells iw.cells (k.toNat*i.size)) e _ ?_ (.slice (some ⟨w.heap.size,0,none⟩) k.toNat k.toNat) ?_ (.ms _ _ _ (Nat.le_refl _) (by simp only [maxLen];omega)) rfl
       · refine ⟨by simp [wP,ov,size_madeCells],fun j aA=>?_⟩
         have jr:j<k.toNat*i.size:=by simpa [wP,ov] using aA
         have DS:=Nat.mod_lt j aJ
         rw [Lo _ i.size _ ai aJ j jr]
         have aM:(madeCells iw.cells (k.toNat*i.size)).getD j undef=iw.cells.getD (j%i.size) undef:=by
          unfold madeCells
          rw [Array.getD_eq_getD_getElem?,Array.getElem?_map,Array.getElem?_range,if_pos jr]
          simp [getElem!_pos,ov,DS,Array.getD]
         rw [aM]
         exact (qS g4 J).2 _ (by rw [ai];exact DS)
       · simp only [execOp,cB,ex,zI,Sem.run_bind,mR,Result.andThen_ok];rfl
    · cases h
  · cases h
 case h_9 t r cB=>
  split at h
  · next k e hu au=>
    simp only [ja.new.injEq] at h
    obtain ⟨rfl,rfl,rfl,rfl⟩:=h
    obtain ⟨J,aa⟩:=DR st
    refine ⟨.map (some w.heap.size),_,w.heap.size,?_,J,aa, .map _,uA st _⟩
    cases r with
    |none=>simp [execOp,cB,Instr.makeMap,fi hu]
    |some y=>simp at au
  · next k e fs cm hu au=>
    simp only [ja.new.injEq] at h
    obtain ⟨rfl,rfl,rfl,rfl⟩:=h
    obtain ⟨J,aa⟩:=DR st
    refine ⟨.map (some w.heap.size),_,w.heap.size,?_,J,aa, .map _,uA st _⟩
    cases r with
    |none=>simp at au
    |some y=>
     simp at au
     have aK:=hQ st (gZ y (by rw [cB];simp [Op.operands]))
     rw [au] at aK
     obtain ⟨zI,_,_⟩:=lD aK
     simp [execOp,cB,Instr.makeMap,fi hu,zI,asInt,asIntOf]
  · cases h
 all_goals first
  |cases h
  |(split at h<;>cases h)
  |(split at h<;>(first|cases h|(split at h<;>first|cases h|(split at h<;>cases h))))
end
end Go.ba
end
section
namespace Go.ba
open Go
section
variable {P:Program} {F:Nat→Prop} {lim:Nat→Nat} {w:World} {n:Nat} {fr:Fr} {m:ae} {ca:Act} {bE:List Nat}
def Place.ix:Place→Bool
 | .slot _=>true
 |_=>false
theorem bc.split (h:bc F lim w n fr m ca []):∃kB:Nat→Prop,(∀b,F b→kB b)∧bc kB lim w 0 [] m k1 []∧
 ∀lim' w' m' os,bc kB lim' w' 0 [] m' k1 os→dL kB w lim w' lim'→bc F lim' w' n fr m' ca os:=by
 obtain ⟨os,cP,bW,h⟩:=h
 refine ⟨fun b=>F b∨(bW b).ix=true,fun b ag=> .inl ag,⟨os,cP,fun c=>if (bW c).ix then .none else bW c,rfl,rfl,fun t x aq=>by simp [Fr.get] at aq,fun b o ag=>?_,fun t x aq=>by simp [Fr.get] at aq,fun b o ag i=>⟨(h.ed b o ag i).1,fun c ar=>by simp [(h.ed b o ag i).2 c ar,Place.ix]⟩,⟨by simp,by simp⟩,fun c ar=>?_,fun b ag=>?_⟩,?_⟩
 · refine ⟨(h.mem b o ag).1,(h.mem b o ag).2.1,fun aN=>?_⟩
   rcases aN with aN|aN
   · exact (h.mem b o ag).2.2 aN
   · have:=(h.free b (by intro e;rw [e] at aN;simp [Place.ix] at aN)).2.1
     rw [ag] at this;cases this
 · by_cases al:(bW c).ix=true
   · simp [al] at ar
   · simp only [al] at ar
     have:=h.free c (by simpa using ar)
     exact ⟨fun aN=>aN.elim this.1 al,this.2⟩
 · have:=h.fresh b ag
   refine ⟨this.1,fun aN=>aN.elim this.2.1 (fun al=>?_),this.2.2⟩
   have:=(h.free b (by intro e;rw [e] at al;simp [Place.ix] at al)).2.2
   omega
 · intro lim' w' m' bE ⟨C5,zJ,uB,k⟩ dQ
   have js:∀c,uB c≠ .none→¬(bW c).ix=true:=fun c ar al=>(k.free c ar).1 (.inr al)
   refine ⟨os,zJ,fun c=>if (bW c).ix then bW c else uB c,h.size,h.defers,fun t x aq=>⟨(h.ey t x aq).1,(h.ey t x aq).2.gQ dQ.mono dQ.cell (fun c ar=>dQ.res c (.inr ?_))⟩,fun b o ag=>?_,fun t x aq=>⟨(h.fc t x aq).1,fun c ar=>?_⟩,fun b o ag i=>⟨(k.ed b o ag i).1,fun c ar=>?_⟩,⟨k.fW.1,fun c ar=>?_⟩,fun c ar=>?_,fun b ag=>?_⟩
   · rw [(h.fc t x aq).2 c ar];rfl
   · exact ⟨(k.mem b o ag).1,(k.mem b o ag).2.1,fun aN=>(k.mem b o ag).2.2 (.inl aN)⟩
   · have:=(h.fc t x aq).2 c ar
     simp [this,Place.ix]
   · have J:=(k.ed b o ag i).2 c ar
     have:=js c (by rw [J];simp)
     simp [this,J]
   · have J:=k.fW.2 c ar
     have:=js c (by rw [J];simp)
     simp [this,J]
   · by_cases al:(bW c).ix=true
     · have J:=h.free c (by intro e;rw [e] at al;simp [Place.ix] at al)
       refine ⟨J.1,?_,Nat.lt_of_lt_of_le J.2.2 dQ.size⟩
       cases hm:m' c with
       |none=>rfl
       |some o=>exact ((k.mem c o hm).2.2 (.inr al)).elim
     · have J:=k.free c (by simpa [al] using ar)
       exact ⟨fun aN=>J.1 (.inl aN),J.2⟩
   · have:=k.fresh b ag
     exact ⟨this.1,fun aN=>this.2.1 (.inl aN),this.2.2⟩
theorem wW {f:FuncId} {args:List U} {K:U→ae→Prop} (ar:bg P f args m K) (st:bc F lim w n fr m ca []) {cargs:Array Value} (al:cargs.size=args.length) (au:∀i,i<args.length→aP w lim (cargs.getD i undef) (args.getD i .aS) [])
 {o:Oper} {next:Act→World→Prop} {Q:Exit→Act→World→Prop} (he:∀fn,P.funcs[f]?=some fn→fn.body.isSome=true→(fn.name== "runtime.NumGoroutine")=false→(execOp ca.eval o).run P w= .ok (.enter f cargs) w)
 (aI:∀v x lim' w' m' os,K x m'→aP w' lim' v x os→bc F lim' w' n fr m' ca os→dL F w lim w' lim'→next (ca.put o.dst v) w'):o.wp P ca w next Q:=by
 obtain ⟨⟨fn,J,aa,ai⟩,qT⟩:=ar
 obtain ⟨kB,fM,s1,s2⟩:=st.split
 unfold Oper.wp
 rw [he fn J aa ai,Oper.upon_enter]
 refine (qT kB lim w cargs al au s1).mono fun e w' ⟨v,x,lim',m',os,he,ab,fw,gm,eN⟩=>?_
 subst he
 exact aI v x lim' w' m' os ab fw (s2 lim' w' m' os gm eN) (eN.weaken fM)
theorem so {f:FuncId} {fn:Func} (args:Array Value) (J:P.funcs[f]?=some fn) (aa:fn.body.isSome=true) (ai:(fn.name== "runtime.NumGoroutine")=false):(callFunc f args).run P w= .ok (.enter f args) w:=by
 have DT:fn.body.isNone=false:=by cases h:fn.body<;>simp_all
 have uC:¬fn.name= "runtime.NumGoroutine":=by simpa using ai
 have Lu:¬fn.body=none:=by intro e;rw [e] at aa;cases aa
 simp [callFunc,J,uC,Lu]
theorem Lv {ops:Array Oper} {stl:List Nat} {o:Oper} {K iZ:Fr→ae→Prop} (ab:∀fr m,K fr m→iZ fr m) (h:mO P ops stl o K fr m):mO P ops stl o iZ fr m:=by
 unfold mO at h ⊢
 split at h
 · split at h
   · exact ⟨h.1,ab _ _ h.2⟩
   · exact ⟨h.1,ab _ _ h.2⟩
   · exact ⟨h.1,fun b ag=>ab _ _ (h.2 b ag)⟩
   · refine h.mono fun x m' aq=>?_
     unfold wI at aq ⊢
     split at aq<;>exact ab _ _ aq
   · exact h
 · split at h
   · split at h
     · split at h
       · obtain ⟨x,J,aa⟩:=h
         exact ⟨x,J,ab _ _ aa⟩
       · split at h
         · obtain ⟨x,J,aa⟩:=h
           exact ⟨x,J,ab _ _ aa⟩
         · exact h
       · split at h
         · exact ⟨h.1,ab _ _ h.2⟩
         · exact h
     · exact h
   · exact h
theorem bc.ep {d:Option Nat} (h:bc F lim w n fr m ca bE) (bo:∀t,d=some t→t<n) {v:Value} {x:U} (aq:aP w lim v x bE):bc F lim w n (ba.ep fr d x) m (ca.put d v) []:=by
 cases d with
 |none=>exact h.drop
 |some d=>exact h.CZ (bo d rfl) aq
theorem DU {v:Value} {x:U} {os:List Nat} (h:aP w lim v x os):aP w lim v (wJ true x) os:=by
 unfold wJ
 split
 · simpa using h
 · exact h
theorem wX {op:Op} (st:bc F lim w n fr m ca bE) {y:Operand} (aK:kD y=true):aP w lim (ca.eval y) (pT (bd fr) true op y) []:=by
 unfold pT
 split
 · exact DU (hQ st aK)
 · exact C9 (DU (hQ st aK))
theorem uD {args:Array Operand} {a:Operand→U} (h:∀y∈args.toList,aP w lim (ca.eval y) (a y) []):(args.map ca.eval).size=(args.toList.map a).length∧∀i,i<(args.toList.map a).length→aP w lim ((args.map ca.eval).getD i undef) ((args.toList.map a).getD i .aS) []:=by
 refine ⟨by simp,fun i ad=>?_⟩
 simp only [List.length_map] at ad
 have eV:i<args.size:=by simpa using ad
 have aM:(args.map ca.eval).getD i undef=ca.eval args[i]:=by simp [Array.getD,eV]
 have aC:(args.toList.map a).getD i .aS=a args[i]:=by simp [List.getD_eq_getElem?_getD,eV]
 rw [aM,aC]
 exact h _ (by simp)
theorem Lw {e:Value} {f:FuncId} {first mh args:List U} {cs:Array Value} (aN:aP w lim e (.func (.func f) first mh) []) (dP:cs.size=args.length∧∀i,i<args.length→aP w lim (cs.getD i undef) (args.getD i .aS) []):
 ∃dU ke:Array Value,e= .func (.func f) dU ke∧(dU++cs++ke).size=(first++args++mh).length∧∀i,i<(first++args++mh).length→aP w lim ((dU++cs++ke).getD i undef) ((first++args++mh).getD i .aS) []:=by
 cases aN with
 |func _ dU ke _ _ J aa ai aJ=>
  refine ⟨dU,ke,rfl,by simp [J,aa,dP.1],fun i ad=>?_⟩
  simp only [List.length_append] at ad
  by_cases i1:i<first.length
  · have aM:(dU++cs++ke).getD i undef=dU.getD i undef:=by
     simp [Array.getD_eq_getD_getElem?,Array.getElem?_append,J,i1,show i<first.length+cs.size from by omega]
    rw [aM,mP (by simp;omega),mP i1];exact ai i i1
  · by_cases i2:i<first.length+cs.size
    · have aM:(dU++cs++ke).getD i undef=cs.getD (i- first.length) undef:=by
       simp [Array.getD_eq_getD_getElem?,Array.getElem?_append,J,i1,i2,show i- first.length<cs.size from by omega]
      rw [aM,mP (by simp;omega),ot (by omega)];exact dP.2 _ (by omega)
    · have aM:(dU++cs++ke).getD i undef=ke.getD (i- (first.length+cs.size)) undef:=by
       simp [Array.getD_eq_getD_getElem?,Array.getElem?_append,J,i1,i2,show ¬i- first.length<cs.size from by omega,Nat.sub_sub]
      have hlen:(first++args).length=first.length+cs.size:=by simp [dP.1]
      rw [aM,ot (by omega),hlen];exact aJ _ (by omega)
theorem Lx {stl:List Nat} {o:Oper} {f:FuncId} {args:List U} (h:eC P m (bd fr) stl o.dst o.op= .call f args) (st:bc F lim w n fr m ca []) (ak:eQ n o=true):
 ∃cargs:Array Value,cargs.size=args.length∧(∀i,i<args.length→aP w lim (cargs.getD i undef) (args.getD i .aS) [])∧
  ∀fn,P.funcs[f]?=some fn→fn.body.isSome=true→(fn.name== "runtime.NumGoroutine")=false→(execOp ca.eval o).run P w= .ok (.enter f cargs) w:=by
 have gZ:=kG ak
 unfold eC at h
 split at h
 case h_13 g kJ cT cB=>
  simp only [ja.call.injEq] at h
  obtain ⟨rfl,rfl⟩:=h
  have dP:=uD (ca:=ca) (a:=b4 (bd fr)) (args:=kJ) (fun y aK=>hQ st (gZ y (by rw [cB];simp [Op.operands,Call.operands];exact .inr (by simpa using aK))))
  refine ⟨kJ.map ca.eval,dP.1,dP.2,fun fn J aa ai=>?_⟩
  simp [execOp,cB,resolve,Deferred.ofValue,Act.eval,invoke,so _ J aa ai]
 case h_14 t kJ cT cB=>
  split at h
  · next g first mh j1=>
    simp only [ja.call.injEq] at h
    obtain ⟨rfl,rfl⟩:=h
    have dP:=uD (ca:=ca) (a:=b4 (bd fr)) (args:=kJ) (fun y aK=>hQ st (gZ y (by rw [cB];simp [Op.operands,Call.operands];exact .inr (by simpa using aK))))
    have aN:=hQ st (x:= .tmp t) rfl
    simp only [b4,j1,U.plain] at aN
    generalize he:ca.eval (.tmp t)=e at aN
    cases aN with
    |func _ dU ke _ _ J aa ai aJ=>
     refine ⟨dU++kJ.map ca.eval++ke,by simp [J,aa],fun i ad=>?_,fun fn g1 g2 g3=>?_⟩
     · simp only [List.length_append,List.length_map,Array.length_toList] at ad
       by_cases i1:i<first.length
       · have aM:(dU++kJ.map ca.eval++ke).getD i undef=dU.getD i undef:=by
          simp [Array.getD_eq_getD_getElem?,Array.getElem?_append,J,i1,show i<first.length+kJ.size from by omega]
         rw [aM,mP (by simp;omega),mP i1];exact ai i i1
       · by_cases i2:i<first.length+kJ.size
         · have aM:(dU++kJ.map ca.eval++ke).getD i undef=(kJ.map ca.eval).getD (i- first.length) undef:=by
            simp [Array.getD_eq_getD_getElem?,Array.getElem?_append,J,i1,i2,show i- first.length<kJ.size from by omega]
           rw [aM,mP (by simp;omega),ot (by omega)];exact dP.2 _ (by simp;omega)
         · have aM:(dU++kJ.map ca.eval++ke).getD i undef=ke.getD (i- (first.length+kJ.size)) undef:=by
            simp [Array.getD_eq_getD_getElem?,Array.getElem?_append,J,i1,i2,show ¬i- first.length<kJ.size from by omega,Nat.sub_sub]
           have hlen:(first++kJ.toList.map (b4 (bd fr))).length=first.length+kJ.size:=by simp
           rw [aM,ot (by omega),hlen];exact aJ _ (by omega)
     · simp [execOp,cB,resolve,he,Deferred.ofValue,invoke,so _ g1 g2 g3]
  · cases h
 all_goals first
  |cases h
  |(split at h<;>cases h)
  |(split at h<;>(first|cases h|(split at h<;>first|cases h|(split at h<;>cases h))))
def DV:Value→Option Bool
 | .bool b=>some b
 |_=>none
theorem Ly {v:Value} {x:U} {b z:Bool} {os:List Nat} (ao:sh x b=some z) (au:aP w lim v x os):(DV v==some b)=z:=by
 unfold sh at ao
 split at ao
 · obtain rfl:=Option.some.inj ao
   cases au
   rename_i c
   cases c<;>rfl
 · obtain rfl:=Option.some.inj ao
   cases au
   rename_i c
   cases c<;>rfl
 · obtain rfl:=Option.some.inj ao
   cases au with
   |nD _ _ _ au=>
    cases au
    rename_i c
    cases c<;>rfl
   |ly=>rfl
 · obtain rfl:=Option.some.inj ao
   cases au with
   |nD _ _ _ au=>
    cases au
    rename_i c
    cases c<;>rfl
   |ly=>rfl
 · cases ao
theorem Lz {ops:Array Oper} {o:Oper} {j g:Nat} {b z:Bool} (bl:o.guard=some (j,b)) (aA:(ops[j]?).bind (·.dst)=some g) (st:bc F lim w n fr m ca bE) (ao:sh (bd fr g) b=some z):
 Region.wanted o (yielded ops ca.tmps)=z:=by
 obtain ⟨os,cP,bW,h⟩:=st
 cases aT:fr.get g with
 |none=>simp [bd,aT,sh] at ao
 |some x=>
  simp only [bd,aT,Option.getD_some] at ao
  obtain ⟨cl,au⟩:=h.ey g _ aT
  have nM:g<ca.tmps.size:=by rw [h.size];exact cl
  have sq:ca.tmps[g]?=some (ca.tmps.getD g undef):=by
   rw [Array.getElem?_eq_getElem nM]
   simp [Array.getD,nM]
  have:=Ly ao au
  simp only [Region.wanted,bl,yielded,aA,Option.bind_some,sq]
  rw [←this]
  generalize ca.tmps.getD g undef=v
  cases v<;>rfl
theorem zK {ops:Array Oper} {o:Oper} {l:List Oper} {K:Fr→ae→Prop} {j g d:Nat} {b z:Bool} {x:U} (bl:o.guard=some (j,b)) (aA:(ops[j]?).bind (·.dst)=some g) (bo:o.dst=some d) (ib:d<n) (ar:sh (bd fr g) b=some z)
 (mR:z=true→∀F lim w ca,bc F lim w n fr m ca []→∀(next:Act→World→Prop) Q,(∀v lim' w',bc F lim' w' n fr m ca []→aP w' lim' v x []→dL F w lim w' lim'→next (ca.put o.dst v) w')→o.wp P ca w next Q)
 (ab:bS P n ops l K (fr.put d (.lazy z x)) m):bS P n ops (o::l) K fr m:=by
 intro F lim w ca Q st aO
 have hw:=Lz (ops:=ops) bl aA st ar
 unfold wpList
 by_cases iM:z=true
 · rw [if_pos (by rw [hw];exact iM)]
   refine .inl (mR iM F lim w ca st _ _ fun v lim' w' s1 s2 mS=>?_)
   refine ab.from aO ?_ mS
   rw [bo,iM]
   exact s1.set ib (.nD _ _ _ s2)
 · have aN:z=false:=by simpa using iM
   rw [if_neg (by rw [hw,aN];simp)]
   refine ab.from aO ?_ (.refl _ _ _)
   rw [bo,aN]
   exact st.set ib (.ly _)
theorem uE {ops:Array Oper} {stl:List Nat} {o:Oper} {l:List Oper} {K:Fr→ae→Prop} (ak:eQ n o=true) (aI:gh n o=true) (h:mO P ops stl o (bS P n ops l K) fr m):bS P n ops (o::l) K fr m:=by
 unfold mO at h
 split at h
 · next bl=>
   refine bS.step bl fun F lim w ca st next Q k5=>?_
   split at h
   · next side ss m' x aX=>
     obtain ⟨v,w',lim',os,J,aa,ai,aJ⟩:=zD (P:=P) aX h.1 st ak aI
     exact nH J (k5 lim' w' _ _ _ h.2 (aa.ep (fun t aB=>jZ ak aB) ai) aJ)
   · next side ss m' aX=>
     obtain ⟨w',lim',J,aa,ai⟩:=Lm (P:=P) aX h.1 st ak aI
     exact Dj J (k5 lim' w' _ _ _ h.2 (aa.ep (fun t aB=>jZ ak aB) (.aS _)) ai)
   · next side ss mk hG aX=>
     obtain ⟨v,w',b,J,aa,ai,aJ,aY⟩:=Lp (P:=P) aX h.1 st ak
     exact nH J (k5 lim w' _ _ _ (h.2 b aa) (ai.ep (fun t aB=>jZ ak aB) aJ) aY)
   · next f args aX=>
     obtain ⟨cargs,J,aa,ai⟩:=Lx (P:=P) aX st ak
     refine wW h st J aa ai fun v x lim' w' m' os ab fw gm eN=>k5 lim' w' (ep fr o.dst x) m' _ ?_ (gm.ep (fun t aB=>jZ ak aB) fw) eN
     unfold wI at ab
     cases bo:o.dst<;>simpa [bo,ep] using ab
   · exact h.elim
 · next j b bl=>
   split at h
   · next g d aA bo=>
     split at h
     · next c ar=>
       have ib:=jZ ak bo
       split at h
       · next f args cT cB=>
         obtain ⟨x,J,aa⟩:=h
         refine zK bl aA bo ib ar (fun iM F lim w ca st next Q k5=>?_) aa
         rw [iM] at J
         have qT:=J rfl (fun bX m'=>bX=x∧m'=m) ⟨rfl,rfl⟩
         have dP:=uD (ca:=ca) (a:=pT (bd fr) true o.op) (args:=args) (fun y aK=>wX st (kG ak y (by rw [cB];simp [Op.operands,Call.operands];exact .inr (by simpa using aK))))
         refine wW qT st dP.1 dP.2 (fun fn g1 g2 g3=>by simp [execOp,cB,resolve,Deferred.ofValue,Act.eval,invoke,so _ g1 g2 g3]) fun v bX lim' w' m' os ab fw gm eN=>?_
         obtain ⟨rfl,rfl⟩:=ab
         exact k5 v lim' w' gm.drop fw.plain eN
       · next t args cT cB=>
         split at h
         · next f first mh DW=>
           obtain ⟨x,J,aa⟩:=h
           refine zK bl aA bo ib ar (fun iM F lim w ca st next Q k5=>?_) aa
           rw [iM] at J DW
           have qT:=J rfl (fun bX m'=>bX=x∧m'=m) ⟨rfl,rfl⟩
           have dP:=uD (ca:=ca) (a:=pT (bd fr) true o.op) (args:=args) (fun y aK=>wX st (kG ak y (by rw [cB];simp [Op.operands,Call.operands];exact .inr (by simpa using aK))))
           have fM:=wX (op:=o.op) st (y:= .tmp t) rfl
           rw [DW] at fM
           obtain ⟨dU,ke,he,ia,jX⟩:=Lw fM dP
           refine wW qT st ia jX (fun fn g1 g2 g3=>by simp [execOp,cB,resolve,he,Deferred.ofValue,invoke,so _ g1 g2 g3]) fun v bX lim' w' m' os ab fw gm eN=>?_
           obtain ⟨rfl,rfl⟩:=ab
           exact k5 v lim' w' gm.drop fw.plain eN
         · exact h.elim
       · split at h
         · next side x aO=>
           refine zK bl aA bo ib ar (fun iM F lim w ca st next Q k5=>?_) h.2
           rw [iM] at aO h
           obtain ⟨v,J,aa⟩:=wH (P:=P) (w:=w) (lim:=lim) aO (h.1 rfl) (ca:=ca) (fun y aK=>wX st (kG ak y aK)) st.sf
           exact nH J (k5 v lim w st aa (.refl _ _ _))
         · exact h.elim
     · exact h.elim
   · exact h.elim
def kf (n:Nat) (ops:Array Oper) (ks:List Nat):Bool:=(ops.toList.all fun o=>eQ n o&&gh n o)&&ks.all fun t=>decide (t<n)
def Fr.init:Nat→List U→Fr
 |_,[]=>[]
 |i,x::r=>(i,x)::Fr.init (i+1) r
theorem Fr.DX:∀(l:List U) (k t:Nat) (x:U),(Fr.init k l).get t=some x→k≤t∧t- k<l.length∧l.getD (t- k) .aS=x:=by
 intro l
 induction l with
 |nil=>intro k t x h;simp [Fr.init,Fr.get] at h
 |cons y l aQ=>
  intro k t x h
  simp only [Fr.init,Fr.get] at h
  by_cases e:k=t
  · subst e
    simp at h
    subst h
    simp
  · rw [if_neg e] at h
    obtain ⟨J,aa,ai⟩:=aQ (k+1) t x h
    refine ⟨by omega,by simp;omega,?_⟩
    rw [show t- k=(t- (k+1))+1 from by omega,List.getD_cons_succ]
    exact ai
def kK (P:Program) (fr:Fr) (m:ae):ResultVar→Option (Prop×U)
 | .tmp t=>some (True,bd fr t)
 | .cell a t=>
   match bd fr a with
   | .ptr ⟨b,off,none⟩=>
     match m b with
     |some (.cells l)=>some (jJ P t l off,(apart P t l off).plain)
     |_=>none
   |_=>none
def qU (P:Program) (fn:Func) (fr:Fr) (m:ae) (K:U→ae→Prop):Prop:=
 match fn.results.toList with
 |[r]=>
  match kK P fr m r with
  |some (side,x)=>side∧∃m',(∀b o,m' b=some o→m b=some o)∧K x m'
  |none=>False
 |[r,s]=>
  match kK P fr m r,kK P fr m s with
  |some (side,x),some (ow,y)=>side∧ow∧∃m',(∀b o,m' b=some o→m b=some o)∧K (.tuple [x,y.plain]) m'
  |_,_=>False
 |[r,s,t]=>
  match kK P fr m r,kK P fr m s,kK P fr m t with
  |some (side,x),some (ow,y),some (uF,z)=>side∧ow∧uF∧∃m',(∀b o,m' b=some o→m b=some o)∧K (.tuple [x,y.plain,z.plain]) m'
  |_,_,_=>False
 |[]=>∃m',(∀b o,m' b=some o→m b=some o)∧K (.tuple []) m'
 |[r,s,t,u]=>
  match kK P fr m r,kK P fr m s,kK P fr m t,kK P fr m u with
  |some (side,x),some (ow,y),some (uF,z),some (DY,a)=>side∧ow∧uF∧DY∧∃m',(∀b o,m' b=some o→m b=some o)∧K (.tuple [x.plain,y.plain,z.plain,a.plain]) m'
  |_,_,_,_=>False
 |_=>False
def DZ (P:Program) (fn:Func) (K:U→ae→Prop):Exit→Fr→ae→Prop
 | .ret,fr,m| .normal,fr,m=>qU P fn fr m K
 |_,_,_=>False
end
end Go.ba
end
section
namespace Go.ba
open Go
section
variable {P:Program} {F:Nat→Prop} {lim:Nat→Nat} {w:World} {n:Nat} {fr:Fr} {m:ae} {ca:Act} {bE:List Nat}
theorem bc.toMem (h:bc F lim w n fr m ca bE):bc F lim w 0 [] m k1 bE:=by
 obtain ⟨os,cP,bW,h⟩:=h
 exact ⟨os,cP,bW,rfl,rfl,fun t x aq=>by simp [Fr.get] at aq,h.mem,fun t x aq=>by simp [Fr.get] at aq,h.ed,h.fW,h.free,h.fresh⟩
theorem bc.defers (h:bc F lim w n fr m ca bE):ca.defers=[]:=by
 obtain ⟨os,cP,bW,h⟩:=h
 exact h.defers
theorem bc.D0 (h:bc F lim w n fr m ca []) (s:Nat):∃os,bc F lim w 0 [] m k1 os∧aP w lim (ca.tmps.getD s undef) (bd fr s) os:=by
 cases bl:fr.get s with
 |none=>exact ⟨[],h.toMem,by simp [bd,bl];exact .aS _⟩
 |some x=>
  obtain ⟨os,J,aa⟩:=h.take bl
  exact ⟨os,J.toMem,by simpa [bd,bl] using aa⟩
def ml (P:Program) (tmps:Array Value) (w:World) (v:Value):ResultVar→Prop
 | .tmp t=>v=tmps.getD t undef
 | .cell a t=>∃p,tmps.getD a undef= .pointer (some p)∧(loadVar t p).run P w= .ok v w
theorem ox {r:ResultVar} {side:Prop} {x:U} (h:kK P fr m r=some (side,x)) (al:side) (st:bc F lim w n fr m ca []):∃v os,ml P ca.tmps w v r∧bc F lim w 0 [] m k1 os∧aP w lim v x os:=by
 cases r with
 |tmp t=>
  obtain ⟨rfl,rfl⟩:=some_inj h
  obtain ⟨os,J,aa⟩:=st.D0 t
  exact ⟨_,os,rfl,J,aa⟩
 |cell a t=>
  simp only [kK] at h
  split at h
  · next b off j1=>
    split at h
    · next l hm=>
      obtain ⟨rfl,rfl⟩:=some_inj h
      obtain ⟨os,gY⟩:=st.sf b _ hm
      obtain ⟨cs,e,oss,r9,cJ,au⟩:=yY gY
      have aU:ca.tmps.getD a undef= .pointer (some ⟨b,off,none⟩):=by
       obtain ⟨fN,_,aa⟩:=st.D0 a
       rw [j1] at aa
       exact pQ aa
      obtain ⟨v,J,aa⟩:=ub (P:=P) (w:=w) (lim:=lim) (t:=t) (b:=b) (off:=0) (l:=U.eU l) (f:=fun i=>cs.getD i undef) (k:=off) (by simpa [jJ,U.h0] using al)
       (fun i ad=>by
         have eV:i<cs.size:=by simpa [U.h0,cJ] using ad
         simp [World.cell?,r9,Array.getD,eV])
       (fun i ad=>by rw [mJ];exact (au i (by simpa [U.h0] using ad)).plain)
      simp only [Nat.zero_add] at J
      have:apart P t (U.eU l) off=(apart P t l off).plain:=by
       unfold apart
       split
       · simp [U.plain,U.h0,List.map_drop,List.map_take]
       · rw [mJ]
      exact ⟨v,[],⟨_,aU,J⟩,st.toMem,by rw [←this];exact aa⟩
    · cases h
  · cases h
def zL (tmps:Array Value):ResultVar→Sem Value
 | .tmp t=>pure (tmps.getD t undef)
 | .cell a t=>do loadVar t (←asAddr (tmps.getD a undef))
theorem wY (fn:Func) (tmps:Array Value):results fn tmps=(do let vs ←fn.results.mapM (zL tmps);pure (if h:vs.size=1 then vs[0] else .tuple vs):Sem Value):=by
 unfold results
 congr 1
theorem oy {tmps:Array Value} {v:Value} {r:ResultVar} (h:ml P tmps w v r):(zL tmps r).run P w= .ok v w:=by
 cases r with
 |tmp t=>simp only [ml] at h;subst h;rfl
 |cell a t=>
  obtain ⟨p,J,aa⟩:=h
  simp [zL,J,asAddr,aa]
theorem LA {fn:Func} {tmps:Array Value} {r:ResultVar} {v:Value} (aN:fn.results.toList=[r]) (h:ml P tmps w v r):(results fn tmps).run P w= .ok v w:=by
 have e:fn.results=#[r]:=by apply Array.ext';simpa using aN
 rw [wY,e]
 simp [oy h]
theorem LB {fn:Func} {tmps:Array Value} {r s:ResultVar} {v u:Value} (aN:fn.results.toList=[r,s]) (h:ml P tmps w v r) (k:ml P tmps w u s):(results fn tmps).run P w= .ok (.tuple #[v,u]) w:=by
 have e:fn.results=#[r,s]:=by apply Array.ext';simpa using aN
 rw [wY,e]
 simp [oy h,oy k]
theorem LC {fn:Func} {tmps:Array Value} {r s t:ResultVar} {v u x:Value} (aN:fn.results.toList=[r,s,t]) (h:ml P tmps w v r) (k:ml P tmps w u s) (j:ml P tmps w x t):(results fn tmps).run P w= .ok (.tuple #[v,u,x]) w:=by
 have e:fn.results=#[r,s,t]:=by apply Array.ext';simpa using aN
 rw [wY,e]
 simp [oy h,oy k,oy j]
theorem LD {fn:Func} {tmps:Array Value} {r s t q:ResultVar} {v u x y:Value} (aN:fn.results.toList=[r,s,t,q]) (h:ml P tmps w v r) (k:ml P tmps w u s) (j:ml P tmps w x t) (i:ml P tmps w y q):(results fn tmps).run P w= .ok (.tuple #[v,u,x,y]) w:=by
 have e:fn.results=#[r,s,t,q]:=by apply Array.ext';simpa using aN
 rw [wY,e]
 simp [oy h,oy k,oy j,oy i]
theorem LF {v u s t:Value} {x y z a:U} (h:aP w lim v x []) (k:aP w lim u y []) (j:aP w lim s z []) (l:aP w lim t a []):aP w lim (.tuple #[v,u,s,t]) (.tuple [x,y,z,a]) []:=by
 have:=aP.tuple (w:=w) (lim:=lim) #[v,u,s,t] [x,y,z,a] (fun _=>[]) (by simp) (fun i ad=>by
  have:i=0∨i=1∨i=2∨i=3:=by simp at ad;omega
  rcases this with rfl|rfl|rfl|rfl
  · exact h
  · exact k
  · exact j
  · exact l)
 rw [flatMap_nil] at this
 exact this
theorem LG {v u:Value} {x y:U} {os:List Nat} (h:aP w lim v x os) (k:aP w lim u y []):aP w lim (.tuple #[v,u]) (.tuple [x,y]) os:=by
 have:=aP.tuple (w:=w) (lim:=lim) #[v,u] [x,y] (fun i=>if i=0 then os else []) (by simp) (fun i ad=>by
  have:i=0∨i=1:=by simp at ad;omega
  rcases this with rfl|rfl
  · exact h
  · exact k)
 simpa [List.range_succ] using this
theorem LH {v u s:Value} {x y z:U} {os:List Nat} (h:aP w lim v x os) (k:aP w lim u y []) (j:aP w lim s z []):aP w lim (.tuple #[v,u,s]) (.tuple [x,y,z]) os:=by
 have:=aP.tuple (w:=w) (lim:=lim) #[v,u,s] [x,y,z] (fun i=>if i=0 then os else []) (by simp) (fun i ad=>by
  have:i=0∨i=1∨i=2:=by simp at ad;omega
  rcases this with rfl|rfl|rfl
  · exact h
  · exact k
  · exact j)
 simpa [List.range_succ] using this
theorem D1 {fn:Func} {K:U→ae→Prop} (h:qU P fn fr m K) (st:bc F lim w n fr m ca []):
 ∃v x m' os,(results fn ca.tmps).run P w= .ok v w∧K x m'∧aP w lim v x os∧bc F lim w 0 [] m' k1 os:=by
 unfold qU at h
 split at h
 · next r au=>
   split at h
   · next side x he=>
     obtain ⟨al,m',hm,ab⟩:=h
     obtain ⟨v,os,J,aa,ai⟩:=ox (P:=P) he al st
     exact ⟨v,x,m',os,LA au J,ab,ai,aa.qG hm⟩
   · exact h.elim
 · next r s au=>
   split at h
   · next side x ow y he uG=>
     obtain ⟨al,uH,m',hm,ab⟩:=h
     obtain ⟨v,os,J,aa,ai⟩:=ox (P:=P) he al st
     obtain ⟨u,fN,fj,ej,ic⟩:=ox (P:=P) uG uH st
     exact ⟨_,_,m',os,LB au J fj,ab,LG ai ic.plain,aa.qG hm⟩
   · exact h.elim
 · next r s t au=>
   split at h
   · next side x ow y uF z he uG zM=>
     obtain ⟨al,uH,zN,m',hm,ab⟩:=h
     obtain ⟨v,os,J,aa,ai⟩:=ox (P:=P) he al st
     obtain ⟨u,fN,fj,ej,ic⟩:=ox (P:=P) uG uH st
     obtain ⟨s,LI,zO,LJ,zP⟩:=ox (P:=P) zM zN st
     exact ⟨_,_,m',os,LC au J fj zO,ab,LH ai ic.plain zP.plain,aa.qG hm⟩
   · exact h.elim
 · next au=>
   obtain ⟨m',hm,ab⟩:=h
   have e:fn.results=#[]:=by apply Array.ext';simpa using au
   refine ⟨.tuple #[],_,m',[],?_,ab,?_,st.toMem.qG hm⟩
   · simp [results,e]
   · have:=aP.tuple (w:=w) (lim:=lim) #[] [] (fun _=>[]) rfl (fun i ad=>by simp at ad)
     simpa using this
 · next r s t q au=>
   split at h
   · next side x ow y uF z DY a he uG zM LK=>
     obtain ⟨al,uH,zN,LL,m',hm,ab⟩:=h
     obtain ⟨v,os,J,aa,ai⟩:=ox (P:=P) he al st
     obtain ⟨u,fN,fj,ej,ic⟩:=ox (P:=P) uG uH st
     obtain ⟨s,LI,zO,LJ,zP⟩:=ox (P:=P) zM zN st
     obtain ⟨t,Uc,i1,i2,i3⟩:=ox (P:=P) LK LL st
     exact ⟨_,_,m',[],LD au J fj zO i1,ab,LF ai.plain ic.plain zP.plain i3.plain,st.toMem.qG hm⟩
   · exact h.elim
 · exact h.elim
theorem D2 {f:FuncId} {fn:Func} {c:Code} {args:List U} {K:U→ae→Prop} (aN:P.funcs[f]?=some fn) (ag:fn.body=some c) (uI:(fn.name== "runtime.NumGoroutine")=false) (jq:args.length≤fn.ntmps)
 (h:de P fn.ntmps c (DZ P fn K) (Fr.init 0 args) m):bg P f args m K:=by
 refine ⟨⟨fn,aN,by rw [ag];rfl,uI⟩,fun F lim w cargs al au st=>calls_of_wp aN ag ?_⟩
 have fq:bc F lim w fn.ntmps (Fr.init 0 args) m {tmps:=cargs++Array.replicate (fn.ntmps- cargs.size) undef,defers:=[]} []:=by
  obtain ⟨os,cP,bW,k⟩:=st
  refine ⟨fun _=>[],cP,bW,by simp;omega,rfl,fun t x aq=>?_,k.mem,fun t x aq=>by simp,k.ed,k.fW,k.free,k.fresh⟩
  obtain ⟨_,J,aa⟩:=Fr.DX args 0 t x aq
  simp only [Nat.sub_zero] at J aa
  refine ⟨by omega,?_⟩
  have e:(cargs++Array.replicate (fn.ntmps- cargs.size) undef).getD t undef=cargs.getD t undef:=by
   simp [Array.getD_eq_getD_getElem?,Array.getElem?_append,show t<cargs.size from by omega]
  rw [e,←aa]
  exact au t J
 refine wp_mono (h F lim w _ fq) fun e a w' ⟨lim',aZ,m',q,s1,dQ⟩=>?_
 have uJ:qU P fn aZ m' K→a.defers=[]∧∃v,(results fn a.tmps).run P w'= .ok v w'∧∃iw x lim' m' os,Ending.returned v= .returned iw∧K x m'∧aP w' lim' iw x os∧bc F lim' w' 0 [] m' k1 os∧dL F w lim w' lim':=fun q=>by
  obtain ⟨v,x,mg,os,J,aa,ai,aJ⟩:=D1 q s1
  exact ⟨s1.defers,v,J,v,x,lim',mg,os,rfl,aa,ai,aJ,dQ⟩
 cases e with
 |ret=>exact uJ q
 |normal=>exact uJ q
 |_=>exact q.elim
end
end Go.ba
end
section
namespace Go.ba
open Go
section
variable {P:Program}
theorem LM {m:ae} {a cR:Operand→U}:∀(op:Op),(∀y∈op.operands.toList,a y=cR y)→bO P m a op=bO P m cR op:=by
 intro op h
 cases op with
 |call c=>
  obtain ⟨y4,args,cT⟩:=c
  cases y4 with
  |builtin b=>
   have cp:∀y∈args.toList,a y=cR y:=fun y aK=>h y (by simpa [Op.operands,Call.operands] using aK)
   cases b with
   |len=>
    simp only [bO]
    cases aq:args[0]? with
    |none=>rfl
    |some x=>
     have:=cp x (by rw [Array.mem_toList_iff];exact Array.mem_of_getElem? aq)
     cases cT[0]?<;>simp only [this]
   |max=>
    simp only [bO]
    split
    · next x y oz=>rw [cp x (by rw [oz];simp),cp y (by rw [oz];simp)]
    · rfl
   |min=>
    simp only [bO]
    split
    · next x y oz=>rw [cp x (by rw [oz];simp),cp y (by rw [oz];simp)]
    · rfl
   |_=>rfl
  |_=>rfl
 |slice t x bw ad y3=>
  cases y3 with
  |some z=>rfl
  |none=>
   have aM:bw.map a=bw.map cR:=by cases bw with
    |none=>rfl
    |some y=>simp [h y (by simp [Op.operands])]
   have aC:ad.map a=ad.map cR:=by cases ad with
    |none=>rfl
    |some y=>simp [h y (by simp [Op.operands])]
   simp only [bO,aM,aC,h x (by simp [Op.operands])]
 |typeAssert x t u ok=>cases ok<;>simp [bO,h x (by simp [Op.operands])]
 |pick c x y=>simp only [bO,h c (by simp [Op.operands]),h x (by simp [Op.operands]),h y (by simp [Op.operands])]
 |binOp op t x y t2=>simp only [bO,h x (by simp [Op.operands]),h y (by simp [Op.operands])]
 |indexAddr t x y=>simp only [bO,h x (by simp [Op.operands]),h y (by simp [Op.operands])]
 |index t x y=>simp only [bO,h x (by simp [Op.operands]),h y (by simp [Op.operands])]
 |move x=>simp only [bO,h x (by simp [Op.operands])]
 |assign x=>simp only [bO,h x (by simp [Op.operands])]
 |load t x=>simp only [bO,h x (by simp [Op.operands])]
 |nilCheck x=>simp only [bO,h x (by simp [Op.operands])]
 |unOp op t x=>simp only [bO,h x (by simp [Op.operands])]
 |convert s d x=>simp only [bO,h x (by simp [Op.operands])]
 |makeInterface t x=>simp only [bO,h x (by simp [Op.operands])]
 |fieldAddr t x f=>simp only [bO,h x (by simp [Op.operands])]
 |field t x f=>simp only [bO,h x (by simp [Op.operands])]
 |extract x i=>simp only [bO,h x (by simp [Op.operands])]
 |_=>rfl
def tmpsOf (op:Op):List Nat:=op.operands.toList.flatMap kd
def slotsOf (ops:Array Oper) (o:Oper):List Nat:=
 (match o.guard with
 |some (j,_)=>(match (ops[j]?).bind (·.dst) with|some g=>[g]|none=>[])
 |none=>[])++tmpsOf o.op
theorem uK {raw je:Nat→U} {op:Op} (h:∀t∈tmpsOf op,raw t=je t):∀y∈op.operands.toList,b4 raw y=b4 je y:=by
 intro y aK
 cases y with
 |tmp t=>simp only [b4,h t (List.mem_flatMap.2 ⟨_,aK,by simp [kd]⟩)]
 |_=>rfl
def pZ:U→Bool→Option Bool
 | .bool c,true=>some c
 | .bool c,false=>some (!c)
 | .lazy false _,_=>some false
 |_,_=>none
def hI (ops:Array Oper) (fr:Fr):Option (Nat×Bool)→Option Bool
 |none=>some true
 |some (j,b)=>
  match (ops[j]?).bind (·.dst) with
  |some g=>pZ (bd fr g) b
  |none=>none
def j2 (P:Program) (m:ae) (c:U) (raw:Nat→U) (o:Oper):Option (Prop×U):=
 match o.op with
 | .call ⟨.value (.func f),args,_⟩=>some (sg P f (args.toList.map (b4 raw)) m c,c.plain)
 | .buildSlice t len parts=>
   match eC P m raw [] o.dst (.buildSlice t len parts) with
   | .val side [] _ x=>some (side,x.plain)
   |_=>none
 | .build t parts=>
   match eC P m raw [] o.dst (.build t parts) with
   | .val side [] _ x=>some (side,x.plain)
   |_=>none
 | .pick b x y=>
   match b4 raw b with
   | .bool true=>some (True,b4 raw x)
   | .bool false=>some (True,b4 raw y)
   |_=>none
 |op=>bO P m (b4 raw) op
def pv (P:Program) (ops:Array Oper) (m:ae) (c:U) (raw:Nat→U) (o:Oper):Option (Prop×U):=
 match o.guard with
 |none=>j2 P m c raw o
 |some (j,b)=>
  match (ops[j]?).bind (·.dst) with
  |some g=>
   match pZ (raw g) b with
   |some true=>j2 P m c raw o
   |some false=>some (True, .lazy false .aS)
   |none=>none
  |none=>none
theorem D3 {m:ae} {c:U} {raw je:Nat→U} {o:Oper} (aB:∀t∈tmpsOf o.op,raw t=je t):j2 P m c raw o=j2 P m c je o:=by
 unfold j2
 split
 · next f args cT cB=>
   have:args.toList.map (b4 raw)=args.toList.map (b4 je):=List.map_congr_left fun y aK=>uK aB y (by rw [cB];simp [Op.operands,Call.operands];exact .inr (by simpa using aK))
   rw [this]
 · next t len parts cB=>
   have aU:∀q∈parts.toList,b4 raw q.2=b4 je q.2:=fun q aO=>uK aB q.2 (by rw [cB];simp [Op.operands];exact ⟨q.1,by simpa using aO⟩)
   have:eC P m raw [] o.dst (.buildSlice t len parts)=eC P m je [] o.dst (.buildSlice t len parts):=by
    simp only [eC]
    split
    · rfl
    split
    · have aM:(parts.toList.map fun p=>b4 raw p.2)=parts.toList.map fun p=>b4 je p.2:=List.map_congr_left aU
      have aC:(∀q∈parts.toList,(b4 raw q.2).dy=true∧(b4 raw q.2).cells.length=P.cellsOf ‹TypeId›)=(∀q∈parts.toList,(b4 je q.2).dy=true∧(b4 je q.2).cells.length=P.cellsOf ‹TypeId›):=by
       apply propext
       constructor
       · intro h q aO;rw [←aU q aO];exact h q aO
       · intro h q aO;rw [aU q aO];exact h q aO
      rw [aM,aC]
    · rfl
   rw [this]
 · next t parts cB=>
   have aU:∀q∈parts.toList,b4 raw q.2=b4 je q.2:=fun q aO=>uK aB q.2 (by rw [cB];simp [Op.operands];exact ⟨q.1,by simpa using aO⟩)
   have:eC P m raw [] o.dst (.build t parts)=eC P m je [] o.dst (.build t parts):=by
    simp only [eC]
    split
    · rfl
    split
    · have aM:(parts.toList.map fun p=>(p.1,b4 raw p.2))=parts.toList.map fun p=>(p.1,b4 je p.2):=List.map_congr_left fun q aO=>by rw [aU q aO]
      have aC:(∀q∈parts.toList,(b4 raw q.2).dy=true)=(∀q∈parts.toList,(b4 je q.2).dy=true):=by
       apply propext
       constructor
       · intro h q aO;rw [←aU q aO];exact h q aO
       · intro h q aO;rw [aU q aO];exact h q aO
      rw [aM,aC]
    · rfl
   rw [this]
 · next b x y cB=>
   have e:∀q∈[b,x,y],b4 raw q=b4 je q:=fun q aO=>uK aB q (by rw [cB];simpa [Op.operands] using aO)
   rw [e b (by simp),e x (by simp),e y (by simp)]
 · exact LM _ (uK aB)
theorem LN {ops:Array Oper} {m:ae} {c:U} {raw je:Nat→U} {o:Oper} (h:∀t∈slotsOf ops o,raw t=je t):pv P ops m c raw o=pv P ops m c je o:=by
 have aB:∀t∈tmpsOf o.op,raw t=je t:=fun t aB=>h t (List.mem_append.2 (.inr aB))
 unfold pv
 cases bl:o.guard with
 |none=>exact D3 aB
 |some zQ=>
  obtain ⟨j,b⟩:=zQ
  simp only
  cases aA:(ops[j]?).bind (·.dst) with
  |none=>rfl
  |some g=>
   have LO:raw g=je g:=h g (by simp [slotsOf,bl,aA])
   simp only [LO,D3 aB]
def mm (P:Program) (ops:Array Oper) (m:ae):List U→List Oper→Fr→(Fr→Prop)→Prop
 |_,[],fr,K=>K fr
 |cs,o::r,fr,K=>
  match pv P ops m (cs.headD .aS) (bd fr) o with
  |some (side,x)=>side∧mm P ops m (match o.op with| .call ⟨.value (.func _),_,_⟩=>cs.tail|_=>cs) r (ep fr o.dst x) K
  |none=>False
theorem LP {ops:Array Oper} {m:ae}:∀(l:List Oper) (cs:List U) (fr:Fr) (K:Fr→Prop),mm P ops m cs l fr K→∃(T:Nat→Fr) (c:Nat→U) (val:Nat→U),T 0=fr∧K (T l.length)∧
 ∀i o,l[i]?=some o→(∃side,pv P ops m (c i) (bd (T i)) o=some (side,val i)∧side)∧T (i+1)=ep (T i) o.dst (val i):=by
 intro l
 induction l with
 |nil=>intro cs fr K h;exact ⟨fun _=>fr,fun _=> .aS,fun _=> .aS,rfl,h,fun i o ad=>by simp at ad⟩
 |cons o l aQ=>
  intro cs fr K h
  simp only [mm] at h
  split at h
  · next side x aU=>
    obtain ⟨al,h⟩:=h
    obtain ⟨T,c,val,J,aa,ai⟩:=aQ _ _ K h
    refine ⟨fun i=>match i with|0=>fr|i+1=>T i,fun i=>match i with|0=>cs.headD .aS|i+1=>c i,fun i=>match i with|0=>x|i+1=>val i,rfl,aa,fun i ei ad=>?_⟩
    cases i with
    |zero=>simp at ad;subst ad;exact ⟨⟨side,aU,al⟩,J⟩
    |succ i=>exact ai i ei (by simpa using ad)
  · exact h.elim
def wZ (o:Oper) (j:Nat):Bool:=o.after.toList.any fun e=>e.on==j&&Region.binds .any e
variable {F:Nat→Prop} {lim:Nat→Nat} {w:World} {n:Nat} {fr:Fr} {m:ae} {ca:Act} {bE:List Nat}
theorem LQ {f:FuncId} {args:List U} {x:U} (ar:sg P f args m x) (st:bc F lim w n fr m ca []) {cargs:Array Value} (al:cargs.size=args.length) (au:∀i,i<args.length→aP w lim (cargs.getD i undef) (args.getD i .aS) [])
 {o:Oper} {next:Act→World→Prop} {Q:Exit→Act→World→Prop} (he:∀fn,P.funcs[f]?=some fn→fn.body.isSome=true→(fn.name== "runtime.NumGoroutine")=false→(execOp ca.eval o).run P w= .ok (.enter f cargs) w)
 (aI:∀v lim' w',bc F lim' w' n fr m ca []→aP w' lim' v x.plain []→dL F w lim w' lim'→next (ca.put o.dst v) w'):o.wp P ca w next Q:=
 wW (ar (fun bX m'=>bX=x∧m'=m) ⟨rfl,rfl⟩) st al au he fun v bX lim' w' m' os ab fw gm eN=>by
  obtain ⟨rfl,rfl⟩:=ab
  exact aI v lim' w' gm.drop fw.plain eN
theorem D4 {v:Value} {x:U} {b z:Bool} {os:List Nat} (ao:pZ x b=some z) (au:aP w lim v x os):(DV v==some b)=z:=by
 unfold pZ at ao
 split at ao
 · obtain rfl:=Option.some.inj ao
   cases au
   rename_i c
   cases c<;>rfl
 · obtain rfl:=Option.some.inj ao
   cases au
   rename_i c
   cases c<;>rfl
 · obtain rfl:=Option.some.inj ao
   cases au with
   |ly=>rfl
 · cases ao
theorem D5 {ops:Array Oper} {o:Oper} {j g:Nat} {b z:Bool} (bl:o.guard=some (j,b)) (aA:(ops[j]?).bind (·.dst)=some g) (st:bc F lim w n fr m ca bE) (ao:pZ (bd fr g) b=some z):
 Region.wanted o (yielded ops ca.tmps)=z:=by
 obtain ⟨os,cP,bW,h⟩:=st
 cases aT:fr.get g with
 |none=>simp [bd,aT,pZ] at ao
 |some x=>
  simp only [bd,aT,Option.getD_some] at ao
  obtain ⟨cl,au⟩:=h.ey g _ aT
  have nM:g<ca.tmps.size:=by rw [h.size];exact cl
  have sq:ca.tmps[g]?=some (ca.tmps.getD g undef):=by
   rw [Array.getElem?_eq_getElem nM]
   simp [Array.getD,nM]
  have:=D4 ao au
  simp only [Region.wanted,bl,yielded,aA,Option.bind_some,sq]
  rw [←this]
  generalize ca.tmps.getD g undef=v
  cases v<;>rfl
theorem LR {o:Oper} {c:U} {side:Prop} {x:U} (ak:eQ n o=true) (aI:gh n o=true) (h:j2 P m c (bd fr) o=some (side,x)) (al:side) (st:bc F lim w n fr m ca [])
 {next:Act→World→Prop} {Q:Exit→Act→World→Prop} (kg:∀v lim' w',bc F lim' w' n fr m ca []→aP w' lim' v x []→dL F w lim w' lim'→(∀s,o.op= .move (.tmp s)→v=ca.tmps.getD s undef)→next (ca.put o.dst v) w'):o.wp P ca w next Q:=by
 have gZ:=kG ak
 unfold j2 at h
 split at h
 · next f args cT cB=>
   replace kg:∀v lim' w',bc F lim' w' n fr m ca []→aP w' lim' v x []→dL F w lim w' lim'→next (ca.put o.dst v) w':=fun v lim' w' J aa ai=>kg v lim' w' J aa ai fun s al=>by rw [cB] at al;cases al
   obtain ⟨rfl,rfl⟩:=some_inj h
   have dP:=uD (ca:=ca) (a:=b4 (bd fr)) (args:=args) (fun y aK=>hQ st (gZ y (by rw [cB];simp [Op.operands,Call.operands];exact .inr (by simpa using aK))))
   exact LQ al st dP.1 dP.2 (fun fn g1 g2 g3=>by simp [execOp,cB,resolve,Deferred.ofValue,Act.eval,invoke,so _ g1 g2 g3]) kg
 · next t len parts cB=>
   split at h
   · next ow m' bX aX=>
     obtain ⟨rfl,rfl⟩:=some_inj h
     rw [←cB] at aX
     have uL:m'=m:=by
      rw [cB] at aX
      simp only [eC] at aX
      split at aX
      · cases aX
      split at aX
      · injection aX with _ _ e;exact e.symm
      · cases aX
     subst uL
     obtain ⟨v,w',lim',os,J,aa,ai,aJ⟩:=zD (P:=P) aX al st ak aI
     exact nH J (kg v lim' w' aa.drop ai.plain aJ fun s al=>by rw [cB] at al;cases al)
   · cases h
 · next t parts cB=>
   split at h
   · next ow m' bX aX=>
     obtain ⟨rfl,rfl⟩:=some_inj h
     rw [←cB] at aX
     have uL:m'=m:=by
      rw [cB] at aX
      simp only [eC] at aX
      split at aX
      · cases aX
      split at aX
      · split at aX
        · injection aX with _ _ e;exact e.symm
        · cases aX
      · cases aX
     subst uL
     obtain ⟨v,w',lim',os,J,aa,ai,aJ⟩:=zD (P:=P) aX al st ak aI
     exact nH J (kg v lim' w' aa.drop ai.plain aJ fun s al=>by rw [cB] at al;cases al)
   · cases h
 · next gG bX oo cB=>
   have D6:∀(p0:Bool),b4 (bd fr) gG= .bool p0→x=b4 (bd fr) (if p0 then bX else oo)→o.wp P ca w next Q:=by
    intro p0 ag aq
    have zR:=hQ st (gZ gG (by rw [cB];simp [Op.operands]))
    rw [ag] at zR
    have LS:ca.eval gG= .bool p0:=by
     generalize ca.eval gG=v at zR
     cases zR
     rfl
    have uM:=hQ st (gZ (if p0 then bX else oo) (by rw [cB];cases p0<;>simp [Op.operands]))
    rw [←aq] at uM
    refine nH (v:=ca.eval (if p0 then bX else oo)) ?_ (kg _ lim w st uM (.refl _ _ _) fun s al=>by rw [cB] at al;cases al)
    cases p0<;>simp [execOp,cB,LS,asBool]
   split at h
   · next ag=>obtain ⟨rfl,rfl⟩:=some_inj h;exact D6 true ag rfl
   · next ag=>obtain ⟨rfl,rfl⟩:=some_inj h;exact D6 false ag rfl
   · cases h
 · obtain ⟨v,J,aa⟩:=wH (P:=P) (w:=w) (lim:=lim) h al (ca:=ca) (fun y aK=>hQ st (gZ y aK)) st.sf
   exact nH J (kg v lim w st aa (.refl _ _ _) fun s al=>by
    rw [execOp,al] at J
    simp only [Sem.run_pure,Result.ok.injEq] at J
    have:=J.1
    injection this with this
    rw [←this];rfl)
theorem LU {ops:Array Oper} {o:Oper} {c:U} {side:Prop} {x:U} {d:Nat} (ak:eQ n o=true) (aI:gh n o=true) (h:pv P ops m c (bd fr) o=some (side,x)) (al:side) (bo:o.dst=some d) (st:bc F lim w n fr m ca [])
 {next:Act→World→Prop} {Q:Exit→Act→World→Prop} (aO:∀lim' w' v,bc F lim' w' n (fr.put d x) m (ca.put o.dst v) []→dL F w lim w' lim'→(∀s,o.op= .move (.tmp s)→o.guard=none→v=ca.tmps.getD s undef)→next (ca.put o.dst v) w'):
 if Region.wanted o (yielded ops ca.tmps) then o.wp P ca w next Q∨(o.asks P ca w∧LetsOut Q) else next (ca.put o.dst undef) w:=by
 have ib:=jZ ak bo
 have run:j2 P m c (bd fr) o=some (side,x)→o.wp P ca w next Q:=fun h=>LR ak aI h al st fun v lim' w' J aa ai aJ=>aO lim' w' _ (by rw [bo];exact J.set ib aa) ai fun s al _=>aJ s al
 unfold pv at h
 split at h
 · next bl=>
   rw [if_pos (by simp [Region.wanted,bl])]
   exact .inl (run h)
 · next j b bl=>
   split at h
   · next g aA=>
     split at h
     · next ao=>
       rw [if_pos (D5 bl aA st ao)]
       exact .inl (run h)
     · next ao=>
       rw [D5 bl aA st ao,if_neg (by simp)]
       obtain ⟨rfl,rfl⟩:=some_inj h
       refine aO lim w _ ?_ (.refl _ _ _) fun s _ D7=>by rw [bl] at D7;cases D7
       rw [bo];exact st.set ib (.ly _)
     · cases h
   · cases h
end
end Go.ba
end
section
namespace Go.ba
open Go
theorem filter_lt {α:Type} (p om:α→Bool) (w0:∀x,om x=true→p x=true):∀(l:List α) (i:α),i∈l→p i=true→om i=false→(l.filter om).length<(l.filter p).length:=by
 have hle:∀l:List α,(l.filter om).length≤(l.filter p).length:=fun l=>by
  induction l with
  |nil=>simp
  |cons x l aQ=>
   simp only [List.filter_cons]
   cases J:om x with
   |true=>simp [w0 x J];exact aQ
   |false=>cases aa:p x<;>simp<;>omega
 intro l
 induction l with
 |nil=>intro i ad;cases ad
 |cons x l aQ=>
  intro i ad J aa
  simp only [List.filter_cons]
  rcases List.mem_cons.1 ad with rfl|ad
  · simp [J,aa]
    have:=hle l;omega
  · have:=aQ i ad J aa
    cases ai:om x with
    |true=>simp [w0 x ai];exact this
    |false=>cases aJ:p x<;>simp<;>omega
section
variable {P:Program} {n:Nat} {fr:Fr} {m:ae}
structure Ud (ops:Array Oper):Prop where
 dst:∀(i:Nat) (o:Oper),ops[i]?=some o→∃d,o.dst=some d
 back:∀(i:Nat) (o:Oper) (e:Edge),ops[i]?=some o→e∈o.after→Region.binds .any e=true→e.on<i
 apart:∀(i j:Nat) (o p:Oper),ops[i]?=some o→ops[j]?=some p→o.dst=p.dst→i=j
 looks:∀(i j:Nat) (o p:Oper) (d:Nat),ops[i]?=some o→ops[j]?=some p→p.dst=some d→d∈slotsOf ops o→(j<i→∃e∈o.after,e.on=j∧Region.binds .any e=true)∧(i<j→∃e∈p.after,e.on=i∧Region.binds .any e=true)
theorem D8 {o:Oper} {j:Nat} (h:wZ o j=true):∃e∈o.after,e.on=j∧Region.binds .any e=true:=by
 simp only [wZ,List.any_eq_true] at h
 obtain ⟨e,J,aa⟩:=h
 simp only [Bool.and_eq_true,beq_iff_eq] at aa
 exact ⟨e,by simpa using J,aa.1,aa.2⟩
theorem D9 (fr:Fr) (d t:Nat) (x:U):bd (fr.put d x) t=if d=t then x else bd fr t:=by
 simp only [bd,Fr.oU]
 split<;>rfl
def Fr.Ea (t:Nat) (x:U):Fr→Fr
 |[]=>[]
 |(s,y)::r=>if s=t then (s,x)::r else (s,y)::Fr.Ea t x r
def Fr.over (fr:Fr):List (Nat×U)→Fr
 |[]=>fr
 |(t,x)::r=>Fr.over (Fr.Ea t x fr) r
end
end Go.ba
end
section
namespace Go.ba
open Go Go.RowKit Go.WideShapes Go.ChangeShapes
def lF (W:World) (b:Nat):Nat:=match W.heap[b]? with
 |some (.cells cs _ _)=>cs.size
 |_=>0
section
variable {P:Program}
theorem LV {W:World} {b o:Nat} {v:Value} (h:W.cell? ⟨b,o,none⟩=some v):o<lF W b:=by
 unfold World.cell? at h
 unfold lF
 split at h
 · next cs e Eb ag=>
   rw [ag]
   simp only at h ⊢
   exact (Array.getElem?_eq_some_iff.1 h).1
 · cases h
end
section
variable {H:Type} {enc:TypeId×Value→H} {P:Program}
theorem LW {f:Func} {s:ChangeSpec} {apart fresh handsOn again:Bool} {W kL:World} {args:Array Value} {v:Value} {fx gs:List (DataW H)} {before pa pv:List MemPlace}
 (gH:DataW.Whole enc P f.params.toList s.vars apart W args.toList fx gs before)
 (uN:∀(b:Nat) (sp:Nat→Bool) (bo:Bool),DataW.TrodAll enc P kL b sp bo f.resultTypes.toList (v.resultList f.resultTypes.size) (s.fn H (fx++gs)).results [])
 (jq:∀sp:Nat→Bool,(∀p∈before,sp p.block=true)→DataW.TrodAll enc P kL 0 sp true f.params.toList args.toList (s.fn H (fx++gs)).args pa)
 (uO:∀sp:Nat→Bool,(∀p∈before,sp p.block=true)→DataW.TrodVars enc P kL sp s.vars (s.fn H (fx++gs)).vars pv)
 (mT:before=pa++pv) (ag:Below W.heap.size W kL)
 (bL:∀(j:Nat) (t:TypeId) (r:Value),f.resultTypes[j]?=some t→(v.resultList f.resultTypes.size)[j]?=some r→Value.okWide P kL .any 0 t r):
 s.post enc P f apart fresh handsOn again W args v kL:=by
 have cl:∀p∈before,p.block<W.heap.size:=fun p aU=>gH.lt p aU
 have hold:∀p∈before,(fun b=>decide (b<W.heap.size)) p.block=true:=fun p aU=>by simpa using cl p aU
 refine ⟨fx,gs,before,[],pa,pv,gH,uN _ _ _,jq _ hold,uO _ hold,World.keptBut_mono (fun p aU=>⟨aU,?_⟩) (ag.frame (· ∈before)),fun _=>?_⟩
 · rw [mT,List.mem_append] at aU
   exact Or.inr aU
 · obtain ⟨_,_,_,_,_,ao,aI⟩:=gH
   refine ⟨bL,_,_,([]++pa)++pv,⟨[]++pa,pv,trodAll_append (jq _ (fun _ _=>rfl)) (uN _ _ _),uO _ (fun _ _=>rfl),rfl,?_,?_⟩,?_⟩
   · intro b off aU
     have jb:MemPlace.cell b off∈before:=by rw [mT];simpa using aU
     rw [ag.frozen (cl _ jb)]
     exact ao b off jb
   · intro aX
     have:=aI aX
     rw [mT] at this
     simpa using this
   · intro p aU _
     rw [mT]
     simpa using aU
def w1 (P:Program) (cT:List TypeId):Bool:=cT.all fun t=>P.readableRec t&&decide (t<P.types.size)
theorem Ec (av:laidOutB P=true) {W kL:World} (ag:Below W.heap.size W kL) {sp:Nat→Bool}:∀{cT:List TypeId} {vs:List Value} {fx:List (DataW H)} {ps:List MemPlace},w1 P cT=true→
 DataW.TrodAll enc P W 0 (fun _=>true) true cT vs fx ps→(∀p∈ps,p.block<W.heap.size)→(∀p∈ps,sp p.block=true)→DataW.TrodAll enc P kL 0 sp true cT vs fx ps
 |[],[],[],_,_,h,_,_=>h
 |t::cT,v::vs,d::fx,ps,aU,h,cl,mU=>by
  obtain ⟨p,q,J,aa,rfl⟩:=h
  simp only [w1,List.all_cons,Bool.and_eq_true,decide_eq_true_eq] at aU
  exact ⟨p,q,WideElems.Trod_stays av aU.1.1 aU.1.2 J (fun x aq=>ag.same (cl x (by simp [aq]))) (fun x aq=>mU x (by simp [aq])),
   Ec av ag (by simpa [w1] using aU.2) aa (fun x aq=>cl x (by simp [aq])) (fun x aq=>mU x (by simp [aq])),rfl⟩
 |[],_::_,_,_,_,h,_,_=>h.elim
 |[],[],_::_,_,_,h,_,_=>h.elim
 |_::_,[],_,_,_,h,_,_=>h.elim
 |_::_,_::_,[],_,_,h,_,_=>h.elim
theorem LX {f:Func} {s:ChangeSpec} {tb:TypeId} {apart fresh handsOn again:Bool} (uO:s.vars=[]) (uN:f.resultTypes=#[tb]) (Ed:P.underlying tb=some .bool) (av:laidOutB P=true)
 (LY:w1 P f.params.toList=true) {W kL:World} {args:Array Value} {fx gs:List (DataW H)} {before:List MemPlace}
 (gH:DataW.Whole enc P f.params.toList s.vars apart W args.toList fx gs before) (uP:s.fn H (fx++gs)={results:=[.lit (.bool true)],args:=fx}) (ag:Below W.heap.size W kL):
 s.post enc P f apart fresh handsOn again W args (.bool true) kL:=by
 have cl:∀p∈before,p.block<W.heap.size:=fun p aU=>gH.lt p aU
 have w2:=gH
 obtain ⟨p,q,dP,mV,rfl,LZ,hi⟩:=w2
 rw [uO] at mV
 have L0:gs=[]∧q=[]:=by
  cases gs with
  |nil=>exact ⟨rfl,mV⟩
  |cons g gs=>exact mV.elim
 obtain ⟨rfl,rfl⟩:=L0
 refine LW (pa:=p) (pv:=[]) gH (fun b sp bo=>?_) (fun sp mU=>?_) (fun sp mU=>?_) rfl ag (ok_one uN rfl (okWide_bool_mk Ed true))
 · rw [uP,uN]
   exact trodAll_mk1 (shut_bool Ed true)
 · rw [uP]
   exact Ec av ag LY dP (fun x aq=>cl x (by simp [aq])) (fun x aq=>mU x (by simp [aq]))
 · rw [uP,uO]
   rfl
end
end Go.ba
end
