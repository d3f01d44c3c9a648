/-
  The abstract layer, part 9: what keeps frames and memory where a step takes, makes and writes.
-/
import Derived.Test.YtnahenbiipdlkaaGreatDoorWwH
import Derived.Great.BuildSlice
import Derived.ProofKit
import Derived.Below
import Derived.ChangeSame
import Derived.Carry
section
namespace Go.bh
open Go
section
variable {P:Program} {F:Nat→Prop} {lim lim':Nat→Nat} {w w':World} {n:Nat} {fr:Fr} {m:ad} {ca:Act} {bu:List Nat}
theorem bd.OQ (h:bd F lim w n fr m ca bu) {Cl:List Nat} (aL:Cl.Nodup) (al:∀c∈Cl,c∈bu):bd F lim w n fr m ca Cl:=by
 obtain ⟨os,b6,bA,h⟩:=h
 exact ⟨os,b6,bA,h.size,h.defers,h.dX,h.mem,h.ey,h.ds,⟨aL,fun c ag=>h.fL.2 c (al c ag)⟩,h.free,h.fresh⟩
theorem bd.OR (h:bd F lim w n fr m ca bu):bu.Nodup:=by
 obtain ⟨os,b6,bA,h⟩:=h
 exact h.fL.1
theorem bd.OS (h:bd F lim w n fr m ca bu):∀c∈bu,¬F c∧m c=none∧c<w.heap.size:=by
 obtain ⟨os,b6,bA,h⟩:=h
 exact fun c ag=>h.free c (by rw [h.fL.2 c ag];simp)
theorem GR {os:Nat→List Nat} {n:Nat} (h:((List.range n).flatMap os).Nodup):(∀i,i<n→(os i).Nodup)∧∀i j c,i<n→j<n→c∈os i→c∈os j→i=j:=by
 induction n with
 |zero=>exact ⟨fun i ab=>absurd ab (Nat.not_lt_zero _),fun i j c ab=>absurd ab (Nat.not_lt_zero _)⟩
 |succ n aQ=>
  rw [List.range_succ,List.flatMap_append,List.nodup_append] at h
  obtain ⟨I,J,ai⟩:=h
  obtain ⟨i1,i2⟩:=aQ I
  simp only [List.flatMap_cons,List.flatMap_nil,List.append_nil] at J ai
  have ah:∀i c,i<n→c∈os i→c∈os n→False:=fun i c ab ag aL=>ai c (List.mem_flatMap.2 ⟨i,by simpa using ab,ag⟩) c aL rfl
  refine ⟨fun i ab=>?_,fun i j c ab ay Cm Cn=>?_⟩
  · by_cases e:i=n
    · subst e;exact J
    · exact i1 i (by omega)
  · by_cases e:i=n<;>by_cases b9:j=n
    · omega
    · subst e;exact (ah j c (by omega) Cn Cm).elim
    · subst b9;exact (ah i c (by omega) Cm Cn).elim
    · exact i2 i j c (by omega) (by omega) Cm Cn
theorem GS {os:Nat→List Nat} {n c:Nat}:c∈(List.range n).flatMap os↔∃i,i<n∧c∈os i:=by
 simp [List.mem_flatMap]
theorem zp {v:Value} {x:R} {os:List Nat} (h:aF w lim v x os) (ah:x.eg=true):∃oss:Nat→List Nat,v.cells.size=x.cells.length∧(∀i,i<x.cells.length→aF w lim (v.cells.getD i undef) (x.cells.getD i .aP) (oss i))∧
 os=(List.range x.cells.length).flatMap oss:=by
 have single:∀(v:Value) (x:R) (os:List Nat),aF w lim v x os→v.cells=#[v]→x.cells=[x]→∃oss:Nat→List Nat,v.cells.size=x.cells.length∧(∀i,i<x.cells.length→aF w lim (v.cells.getD i undef) (x.cells.getD i .aP) (oss i))∧
  os=(List.range x.cells.length).flatMap oss:=fun v x os h bc ag=>by
  refine ⟨fun _=>os,by simp [bc,ag],fun i ab=>?_,by simp [ag,List.range_succ]⟩
  have:i=0:=by simp [ag] at ab;exact ab
  subst this
  simpa [bc,ag] using h
 cases h with
 |agg cs xs oss al au=>exact ⟨oss,al,au,rfl⟩
 |tuple cs xs oss al au=>simp [R.eg] at ah
 |pr v x os h=>simp [R.eg] at ah
 |mD x=>simp [R.eg] at ah
 |aP v=>simp [R.eg] at ah
 |bool b=>exact single _ _ _ (.bool b) rfl rfl
 |int k n bD ab=>exact single _ _ _ (.int k n bD ab) rfl rfl
 |str s h=>exact single _ _ _ (.str s h) rfl rfl
 |ptr a=>exact single _ _ _ (.ptr a) rfl rfl
 |fc=>exact single _ _ _ .fc rfl rfl
 |ref b off l cv I J ai=>exact single _ _ _ (.ref b off l cv I J ai) rfl rfl
 |fz own=>exact single _ _ _ (.fz own) rfl rfl
 |empty a cap hm=>exact single _ _ _ (.empty a cap hm) rfl rfl
 |slice b off n cap sz l cv I J ai aC aN bE dk cW=>exact single _ _ _ (.slice b off n cap sz l cv I J ai aC aN bE dk cW) rfl rfl
 |own b n cap sz l cv cur e I J ai aC aN bE dk cW dB dV fj=>exact single _ _ _ (.own b n cap sz l cv cur e I J ai aC aN bE dk cW dB dV fj) rfl rfl
 |ms a len cap I J=>exact single _ _ _ (.ms a len cap I J) rfl rfl
 |map b=>exact single _ _ _ (.map b) rfl rfl
 |jS=>exact single _ _ _ .jS rfl rfl
 |func fn f c bu fK I J ai aC=>exact single _ _ _ (.func fn f c bu fK I J ai aC) rfl rfl
 |kP=>exact single _ _ _ .kP rfl rfl
 |pq a=>exact single _ _ _ (.pq a) rfl rfl
 |iface t v x h=>exact single _ _ _ (.iface t v x h) rfl rfl
 |nilIface=>exact single _ _ _ .nilIface rfl rfl
 |l2 t=>exact single _ _ _ (.l2 t) rfl rfl
 |jb t e h bD ab=>exact single _ _ _ (.jb t e h bD ab) rfl rfl
 |mB=>exact single _ _ _ .mB rfl rfl
 |mC t v=>exact single _ _ _ (.mC t v) rfl rfl
theorem OT {v:Value} {x:R} {os:List Nat} (h:aF w lim v x os) (ah:x.one=true):v.oneCell'=true:=by
 cases h<;>first|rfl|simp [R.one] at ah
theorem bd.GU (h:bd F lim w n fr m ca bu) {b off:Nat} {l xs:List R} {vs:List Value} {cs:Array Value} {e:TypeId} {oss:Nat→List Nat} (hm:m b=some (.cells l)) (ae:w.heap[b]?=some (.cells cs e (0,0)))
 (ar:off+xs.length≤l.length) (bc:vs.length=xs.length) (au:∀i,i<xs.length→aF w lim (vs.getD i undef) (xs.getD i .aP) (oss i)) (rN:bu=(List.range xs.length).flatMap oss):
 bd F lim (w.setRow b (cs.toList.take off++vs++cs.toList.drop (off+vs.length)).toArray) n fr (m.bL b (some (.cells (l.take off++xs++l.drop (off+xs.length))))) ca []∧
 dc F w lim (w.setRow b (cs.toList.take off++vs++cs.toList.drop (off+vs.length)).toArray) lim:=by
 obtain ⟨os,b6,bA,h⟩:=h
 have eI:=h.mem b _ hm
 simp only [ed.zf] at eI
 obtain ⟨zq,ek,cE⟩:=eI
 have kq:cs.size=l.length:=by
  cases zq with
  |cells lg b9 l' _ e8 al jC=>rw [ae] at e8;cases e8;exact al
 have wY:∀i,i<l.length→aF w lim (cs.getD i undef) (l.getD i .aP) (b6 b i):=by
  cases zq with
  |cells lg b9 l' _ e8 al jC=>rw [ae] at e8;cases e8;exact jC
 have l6:bu.Nodup:=h.fL.1
 rw [rN] at l6
 obtain ⟨OU,OV⟩:=GR l6
 have GV:∀c,c∈bu↔∃i,i<xs.length∧c∈oss i:=fun c=>by rw [rN];exact GS
 generalize hw:w.setRow b (cs.toList.take off++vs++cs.toList.drop (off+vs.length)).toArray=cH
 have jG:∀k,k≠b→cH.heap[k]?=w.heap[k]?:=fun k aj=>by rw [←hw];exact setRow_other w b k _ aj
 have l7:cH.heap[b]?=some (.cells (cs.toList.take off++vs++cs.toList.drop (off+vs.length)).toArray e (0,0)):=by rw [←hw];exact setRow_heap w b cs _ e (0,0) ae
 have np:cH.heap.size=w.heap.size:=by rw [←hw];simp
 have fU:∀k o,o<lim k→cH.cell? ⟨k,o,none⟩=w.cell? ⟨k,o,none⟩:=fun k o av=>by
  have:k≠b:=fun e=>by subst e;omega
  simp [World.cell?,jG k this]
 have OW:dc F w lim cH lim:=⟨by rw [←hw];rfl,by rw [←hw];rfl,by rw [←hw];rfl,by rw [np];exact Nat.le_refl _,fun k aj=>⟨jG k (fun e=>by subst e;exact cE aj),rfl⟩,fun _=>Nat.le_refl _,fU⟩
 refine ⟨?_,OW⟩
 have kR:∀c,m c=none→c≠b:=fun c ag e=>by subst e;rw [hm] at ag;cases ag
 have bW:∀{v x dS},aF w lim v x dS→(∀c∈dS,bA c≠ .none)→aF cH lim v x dS:=fun c1 av=>c1.fA (fun _=>Nat.le_refl _) fU (fun c ag=>⟨jG c (kR c (h.free c (av c ag)).2.1),rfl⟩)
 classical
 refine ⟨os,fun k i=>if k=b then (if off≤i∧i<off+xs.length then oss (i- off) else b6 b i) else b6 k i,
  fun c=>if c∈bu then (if ag:∃i,i<xs.length∧c∈oss i then .nU b (off+Classical.choose ag) else .none) else
   match bA c with
   | .lB=> .none
   | .nU k i=>if k=b∧off≤i∧i<off+xs.length then .none else .nU k i
   |p=>p,h.size,h.defers,fun t x ah=>⟨(h.dX t x ah).1,bW (h.dX t x ah).2 (fun c ag=>by rw [(h.ey t x ah).2 c ag];simp)⟩,fun k o aj=>?_,fun t x ah=>⟨(h.ey t x ah).1,fun c ag=>?_⟩,fun k o aj i=>?_,⟨by simp,by simp⟩,fun c ag=>?_,fun k aj=>?_⟩
 · by_cases gO:k=b
   · subst gO
     simp only [ad.bL,↓reduceIte,Option.some.injEq] at aj ⊢
     subst aj
     refine ⟨?_,ek,cE⟩
     refine .cells _ e _ _ l7 (by simp [bc];omega) (fun i ab=>?_)
     have hlen:(l.take off++xs++l.drop (off+xs.length)).length=l.length:=by simp;omega
     rw [hlen] at ab
     have jf:∀{α:Type} (A B:List α) (rO:α),off+B.length≤A.length→(A.take off++B++A.drop (off+B.length)).getD i rO=if off≤i∧i<off+B.length then B.getD (i- off) rO else A.getD i rO:=by
      intro α A B rO OX
      simp only [List.getD_eq_getElem?_getD]
      by_cases I:i<off
      · rw [if_neg (by omega),List.append_assoc,List.getElem?_append_left (by simp;omega),List.getElem?_take,if_pos I]
      · by_cases J:i<off+B.length
        · rw [if_pos ⟨by omega,J⟩,List.append_assoc,List.getElem?_append_right (by simp;omega),List.getElem?_append_left (by simp;omega)]
          simp [show min off A.length=off from by omega]
        · rw [if_neg (by omega),List.getElem?_append_right (by simp;omega),List.getElem?_drop]
          congr 2
          simp;omega
     have ax:(cs.toList.take off++vs++cs.toList.drop (off+vs.length)).toArray.getD i undef=if off≤i∧i<off+xs.length then vs.getD (i- off) undef else cs.getD i undef:=by
      have:=jf cs.toList vs undef (by simp [kq];omega)
      rw [bc] at this ⊢
      simp only [Array.getD_eq_getD_getElem?,List.getElem?_toArray,List.getD_eq_getElem?_getD,Array.getElem?_toList] at this ⊢
      exact this
     rw [ax,jf l xs .aP ar]
     by_cases hW:off≤i∧i<off+xs.length
     · rw [if_pos hW,if_pos hW,if_pos hW]
       exact bW (au _ (by omega)) (fun c ag=>by rw [h.fL.2 c ((GV c).2 ⟨i- off,by omega,ag⟩)];simp)
     · rw [if_neg hW,if_neg hW,if_neg hW]
       exact bW (wY i ab) (fun c ag=>by rw [(h.ds k _ hm i).2 c ag];simp)
   · simp only [ad.bL,if_neg gO] at aj ⊢
     exact ⟨(h.mem k o aj).1.fA (jG k gO) (fun _=>Nat.le_refl _) fU (fun i c ag=>⟨jG c (kR c (h.free c (by rw [(h.ds k o aj i).2 c ag];simp)).2.1),rfl⟩),(h.mem k o aj).2⟩
 · have I:=(h.ey t x ah).2 c ag
   have J:c∉bu:=fun aW=>by rw [h.fL.2 c aW] at I;cases I
   simp [I,J]
 · by_cases gO:k=b
   · subst gO
     simp only [↓reduceIte]
     by_cases hW:off≤i∧i<off+xs.length
     · simp only [if_pos hW]
       refine ⟨OU _ (by omega),fun c ag=>?_⟩
       have OY:c∈bu:=(GV c).2 ⟨i- off,by omega,ag⟩
       have hex:∃j,j<xs.length∧c∈oss j:=⟨i- off,by omega,ag⟩
       have zr:=Classical.choose_spec hex
       have:Classical.choose hex=i- off:=OV _ _ c zr.1 (by omega) zr.2 ag
       simp only [if_pos OY,dif_pos hex,this]
       congr 1;omega
     · simp only [if_neg hW]
       refine ⟨(h.ds k _ hm i).1,fun c ag=>?_⟩
       have I:=(h.ds k _ hm i).2 c ag
       have J:c∉bu:=fun aW=>by rw [h.fL.2 c aW] at I;cases I
       simp [I,J,hW]
   · simp only [ad.bL,if_neg gO] at aj ⊢
     refine ⟨(h.ds k o aj i).1,fun c ag=>?_⟩
     have I:=(h.ds k o aj i).2 c ag
     have J:c∉bu:=fun aW=>by rw [h.fL.2 c aW] at I;cases I
     simp [I,J,gO]
 · have eB:bA c≠ .none:=by
    by_cases J:c∈bu
    · rw [h.fL.2 c J];simp
    · intro I;simp [I,J] at ag
   have:=h.free c eB
   refine ⟨this.1,?_,by rw [np];exact this.2.2⟩
   simp only [ad.bL,if_neg (kR c this.2.1)]
   exact this.2.1
 · rw [np] at aj
   have:=h.fresh k aj
   refine ⟨this.1,this.2.1,?_⟩
   simp only [ad.bL,if_neg (kR k this.2.2)]
   exact this.2.2
end
end Go.bh
end
section
namespace Go.bh
open Go
def mI (lim:Nat→Nat) (b k:Nat):Nat→Nat:=fun c=>if c=b then k else lim c
section
variable {P:Program} {F:Nat→Prop} {lim lim':Nat→Nat} {w w':World} {n:Nat} {fr:Fr} {m:ad} {ca:Act} {bu:List Nat} {os:Nat→List Nat} {b6:Nat→Nat→List Nat} {bA:Nat→Place}
theorem qD.world (h:qD F lim w n fr m ca bu os b6 bA) (b2:w.heap.size≤w'.heap.size) (ar:∀b,lim b≤lim' b) (ag:∀b o,o<lim b→w'.cell? ⟨b,o,none⟩=w.cell? ⟨b,o,none⟩)
 (hi:∀c,bA c≠ .none→w'.heap[c]?=w.heap[c]?∧lim' c=lim c) (hm:∀b,m b≠none→w'.heap[b]?=w.heap[b]?∧lim' b=lim b)
 (B2:∀b,w'.heap.size≤b→lim' b=0):qD F lim' w' n fr m ca bu os b6 bA:=by
 refine ⟨h.size,h.defers,fun t x ah=>⟨(h.dX t x ah).1,(h.dX t x ah).2.fA ar ag (fun c lD=>hi c (by rw [(h.ey t x ah).2 c lD];simp))⟩,fun b o ae=>?_,h.ey,h.ds,h.fL,
  fun c qE=>⟨(h.free c qE).1,(h.free c qE).2.1,Nat.lt_of_lt_of_le (h.free c qE).2.2 b2⟩,fun b ae=>⟨B2 b ae,(h.fresh b (Nat.le_trans b2 ae)).2⟩⟩
 have kR:=hm b (by rw [ae];simp)
 exact ⟨(h.mem b o ae).1.fA kR.1 ar ag (fun i c lD=>hi c (by rw [(h.ds b o ae i).2 c lD];simp)),kR.2.trans (h.mem b o ae).2.1,(h.mem b o ae).2.2⟩
theorem qD.GW (h:qD F lim w n fr m ca bu os b6 bA):qD F lim w n fr m ca [] os b6 (fun c=>if bA c= .lB then .none else bA c):=by
 refine ⟨h.size,h.defers,h.dX,h.mem,fun t x ah=>⟨(h.ey t x ah).1,fun c ag=>by simp [(h.ey t x ah).2 c ag]⟩,fun b o ae i=>⟨(h.ds b o ae i).1,fun c ag=>by simp [(h.ds b o ae i).2 c ag]⟩,⟨by simp,by simp⟩,fun c ag=>?_,h.fresh⟩
 by_cases I:bA c= .lB
 · simp [I] at ag
 · exact h.free c (by simpa [I] using ag)
theorem qD.GX (h:qD F lim w n fr m ca [] os b6 bA) {c:Nat} (ag:bA c= .none) (cE:¬F c) (hm:m c=none) (bG:c<w.heap.size):bd F lim w n fr m ca [c]:=by
 refine ⟨os,b6,fun d=>if d=c then .lB else bA d,h.size,h.defers,h.dX,h.mem,fun t x ah=>⟨(h.ey t x ah).1,fun d aY=>?_⟩,fun b o ae i=>⟨(h.ds b o ae i).1,fun d aY=>?_⟩,by simp,fun d aY=>?_,h.fresh⟩
 · have:=(h.ey t x ah).2 d aY
   have eB:d≠c:=fun e=>by subst e;rw [ag] at this;cases this
   simpa [eB] using this
 · have:=(h.ds b o ae i).2 d aY
   have eB:d≠c:=fun e=>by subst e;rw [ag] at this;cases this
   simpa [eB] using this
 · by_cases eB:d=c
   · subst eB;exact ⟨cE,hm,bG⟩
   · exact h.free d (by simpa [eB] using aY)
theorem pA (lim:Nat→Nat) (b k:Nat):mI lim b k b=k:=by simp [mI]
theorem lh (lim:Nat→Nat) {b c:Nat} (k:Nat) (h:c≠b):mI lim b k c=lim c:=by simp [mI,h]
theorem bd.wZ (h:bd F lim w n fr m ca bu) (hw:w'.heap=w.heap) (o:Obj) (k:Nat):bd F (mI lim w.heap.size k) (w'.alloc o) n fr m ca [w.heap.size]:=by
 have bG:=fun {b o} (ae:o<lim b)=>h.qF ae
 have GY:=fun {b} (ae:m b≠none)=>h.p4 ae
 obtain ⟨os,b6,bA,h⟩:=h
 have b2:(w'.alloc o).heap.size=w.heap.size+1:=by simp [hw]
 have hold:∀c,c<w.heap.size→(w'.alloc o).heap[c]?=w.heap[c]?:=fun c ag=>by rw [lC w' o c (by rw [hw];exact ag),hw]
 have Co:=h.fresh _ (Nat.le_refl _)
 have J:=(h.GW).world (w':=w'.alloc o) (lim':=mI lim w.heap.size k) (by omega) (fun b=>?_) (fun b i ab=>?_) (fun c ag=>?_) (fun b ae=>?_) (fun b ae=>?_)
 · refine J.GX (c:=w.heap.size) ?_ Co.2.1 Co.2.2 (by omega)
   have:bA w.heap.size= .none:=by
    cases e:bA w.heap.size with
    |none=>rfl
    |_=>exact absurd (h.free w.heap.size (by rw [e];simp)).2.2 (Nat.lt_irrefl _)
   simp [this]
 · by_cases ae:b=w.heap.size
   · subst ae;rw [Co.1];exact Nat.zero_le _
   · rw [lh _ _ ae];exact Nat.le_refl _
 · simp [World.cell?,hold b (bG ab)]
 · have kq:c<w.heap.size:=(h.free c (by by_cases e:bA c= .lB<;>simp_all)).2.2
   exact ⟨hold c kq,lh _ _ (by omega)⟩
 · exact ⟨hold b (GY ae),lh _ _ (by have:=GY ae;omega)⟩
 · rw [b2] at ae
   rw [lh _ _ (by omega)]
   exact (h.fresh b (by omega)).1
theorem dc.w0 (h:bd F lim w n fr m ca bu) (hw:w'.heap=w.heap) (av:w'.os=w.os) (ao:w'.tape=w.tape) (Cp:w'.output=w.output) (o:Obj) (k:Nat):dc F w lim (w'.alloc o) (mI lim w.heap.size k):=by
 have hold:∀c,c<w.heap.size→(w'.alloc o).heap[c]?=w.heap[c]?:=fun c ag=>by rw [lC w' o c (by rw [hw];exact ag),hw]
 refine ⟨av,ao,Cp,by simp [hw],fun b ae=>⟨hold b (h.pt ae),lh _ _ (by have:=h.pt ae;omega)⟩,fun b=>?_,fun b i ab=>by simp [World.cell?,hold b (h.qF ab)]⟩
 by_cases ae:b=w.heap.size
 · subst ae;rw [h.rF];exact Nat.zero_le _
 · rw [lh _ _ ae];exact Nat.le_refl _
theorem bd.Cq {b:Nat} (h:bd F lim w n fr m ca [b]) (b2:w'.heap.size=w.heap.size) (jG:∀c,c≠b→w'.heap[c]?=w.heap[c]?) (k:Nat) (aj:lim b≤k) (fU:∀o,o<lim b→w'.cell? ⟨b,o,none⟩=w.cell? ⟨b,o,none⟩)
 (av:w'.os=w.os) (ao:w'.tape=w.tape) (Cp:w'.output=w.output):bd F (mI lim b k) w' n fr m ca [b]∧dc F w lim w' (mI lim b k):=by
 have ae:=h.OS b (by simp)
 have ar:∀c,lim c≤mI lim b k c:=fun c=>by
  by_cases e:c=b
  · subst e;rw [pA];exact aj
  · rw [lh _ _ e];exact Nat.le_refl _
 have ag:∀c o,o<lim c→w'.cell? ⟨c,o,none⟩=w.cell? ⟨c,o,none⟩:=fun c o bG=>by
  by_cases e:c=b
  · subst e;exact fU o bG
  · simp [World.cell?,jG c e]
 refine ⟨?_,⟨av,ao,Cp,by omega,fun c ag=>⟨jG c (fun e=>by subst e;exact ae.1 ag),lh _ _ (fun e=>by subst e;exact ae.1 ag)⟩,ar,ag⟩⟩
 obtain ⟨os,b6,bA,h⟩:=h
 have GZ:bA b= .lB:=h.fL.2 b (by simp)
 have J:=(h.GW).world (w':=w') (lim':=mI lim b k) (by omega) ar ag (fun c ag=>?_) (fun c ag=>?_) (fun c ag=>?_)
 · exact J.GX (c:=b) (by simp [GZ]) ae.1 ae.2.1 (by omega)
 · have e:c≠b:=fun e=>by subst e;simp [GZ] at ag
   exact ⟨jG c e,lh _ _ e⟩
 · have e:c≠b:=fun e=>by subst e;exact ag ae.2.1
   exact ⟨jG c e,lh _ _ e⟩
 · rw [lh _ _ (by omega)]
   exact (h.fresh c (by omega)).1
def fW (cv:Nat→Nat→Value) (n sz:Nat):List Value:=(List.range (n*sz)).map fun i=>cv (i/sz) (i%sz)
theorem zs {cv:Nat→Nat→Value} {n sz i j:Nat} (ab:i<n) (ay:j<sz):(fW cv n sz)[i*sz+j]?=some (cv i j):=by
 have bG:i*sz+j<n*sz:=by
  have:i*sz+sz≤n*sz:=by rw [←Nat.succ_mul];exact Nat.mul_le_mul_right _ ab
  omega
 have I:(i*sz+j)/sz=i:=by rw [Nat.mul_comm,Nat.mul_add_div (by omega),Nat.div_eq_of_lt ay,Nat.add_zero]
 have J:(i*sz+j)%sz=j:=by rw [Nat.mul_comm,Nat.mul_add_mod,Nat.mod_eq_of_lt ay]
 simp [fW,bG,I,J]
theorem zt {cv:Nat→Nat→Value} {n sz b off:Nat} (b2:0<sz) (ag:∀i j,i<n→j<sz→w.cell? ⟨b,off+i*sz+j,none⟩=some (cv i j)):
 ∀k u,(fW cv n sz)[k]?=some u→w.cell? ((⟨b,off,none⟩:Addr).add k)=some u:=by
 intro k u hu
 rw [addr_add]
 have aj:k<n*sz:=by
  rcases Nat.lt_or_ge k (n*sz) with h|h
  · exact h
  · simp [fW,h] at hu
 simp [fW,aj] at hu
 have ab:k/sz<n:=Nat.div_lt_of_lt_mul (by rw [Nat.mul_comm];exact aj)
 have:=ag (k/sz) (k%sz) ab (Nat.mod_lt _ b2)
 rw [show off+k/sz*sz+k%sz=off+k from by rw [Nat.add_assoc,Nat.mul_comm,Nat.div_add_mod]] at this
 rw [this,hu]
theorem uN {b jH cap sz:Nat} {l:List R} {cv:Nat→Nat→Value} {cur:Array Value} {e:TypeId} (ar:l.length=jH) (dT:jH≤cap) (hm:cap≤maxLen) (cU:jH≤140737488355328) (aq:0<jH∨cap=0)
 (ae:w.heap[b]?=some (.cells cur e (0,0))) (ib:cur.size=cap*sz) (b2:∀i,i<jH→(l.getD i .aP).cells.length=sz) (ek:jH*sz=lim b)
 (jf:∀i j,i<jH→j<sz→cur[i*sz+j]?=some (cv i j)) (au:∀i j,i<jH→j<sz→aF w lim (cv i j) ((l.getD i .aP).cells.getD j .aP) []):
 aF w lim (.slice (some ⟨b,0,none⟩) jH cap) (.slice true l) [b]:=
 .own b jH cap sz l cv cur e ar dT hm cU aq ae ib b2 ek (fun i j ab ay=>by simp [World.cell?,ae,jf i j ab ay]) au
theorem s7 {e:TypeId} {i:TypeInfo} (h:P.info? e=some i):P.cellsOf e=i.size∧P.bytesOf e=i.bytes:=by simp [Program.cellsOf,Program.bytesOf,h]
theorem Cr {e:TypeId} (h:(hG P e).isSome=true):∃i z,P.info? e=some i∧i.zero=some z∧p5 z=true∧hG P e=some (kS z):=by
 unfold hG at h ⊢
 cases ab:P.info? e with
 |none=>simp [ab] at h
 |some i=>
  cases aA:i.zero with
  |none=>simp [ab,aA] at h
  |some z=>
   simp only [ab,aA,Option.bind_some] at h ⊢
   by_cases ag:p5 z=true
   · exact ⟨i,z,rfl,aA,ag,by simp [ag]⟩
   · simp [ag] at h
theorem zu (v:Value):(kS v).cells.length=v.cells.size:=by
 cases v with
 |agg cs=>simp [kS,R.cells,Value.cells]
 |iface t v=>rfl
 |pointer a=>cases a<;>rfl
 |slice a n c=>cases a<;>rfl
 |map r=>cases r<;>rfl
 |_=>rfl
theorem w1 {e:TypeId} (h:kp P e=true):∃i z,P.info? e=some i∧i.zero=some z∧p5 z=true∧hG P e=some (kS z)∧z.cells.size=i.size:=by
 have al:(hG P e).isSome=true:=by
  unfold kp at h
  cases aA:hG P e with
  |none=>simp [aA] at h
  |some z=>rfl
 obtain ⟨i,z,ab,aA,ag,ck⟩:=Cr al
 refine ⟨i,z,ab,aA,ag,ck,?_⟩
 simp only [kp,ck,beq_iff_eq,zu] at h
 rw [h,(s7 ab).1]
theorem G0 (t e ty:TypeId) (i:TypeInfo) (ao:P.underlying t=some (.slice e)) (ab:P.info? e=some i) (base:Option Addr) (bO cap:Nat) (rP:bO≤cap) (a:Option Addr) (c:Nat):
 (Builtin.append_ #[t,t] ty #[.slice base bO cap, .slice a 0 c]).run P w= .ok (.slice base bO cap) w:=by
 cases a with
 |none=>cases base<;>simp [Builtin.append_,run_underlying ao,sizeOf,typeInfo,ab,Builtin.lenOf,Builtin.firstCells,rP,storeCells]
 |some a=>cases base<;>simp [Builtin.append_,run_underlying ao,sizeOf,typeInfo,ab,Builtin.lenOf,Builtin.firstCells,rP,storeCells,loadCells,loadCellsFrom]
theorem G1 (t e ty:TypeId) (i:TypeInfo) (ao:P.underlying t=some (.slice e)) (ab:P.info? e=some i) (g s8 Cs:Nat) (cur:Array Value) (b9:TypeId) (a8:w.heap[g]?=some (.cells cur b9 (0,0)))
 (a:Addr) (k c:Nat) (news:List Value) (ar:news.length=k*i.size) (qN:∀j u,news[j]?=some u→w.cell? (a.add j)=some u) (I:∀u∈news,u.oneCell'=true)
 (n1:s8+k≤Cs) (w2:s8*i.size+news.length≤cur.size):
 (Builtin.append_ #[t,t] ty #[.slice (some ⟨g,0,none⟩) s8 Cs, .slice (some a) k c]).run P w=
   .ok (.slice (some ⟨g,0,none⟩) (s8+k) Cs) (w.setRow g (cur.toList.take (s8*i.size)++news++cur.toList.drop (s8*i.size+news.length)).toArray):=by
 have aW:=run_firstCells_some (P:=P) w i.size k a k c news ar qN
 have bW:=run_storeCells_at P g (s8*i.size) b9 news 0 cur w a8 (by simpa using w2) I
 simp only [Nat.add_zero] at bW
 simp [Builtin.append_,run_underlying ao,sizeOf,typeInfo,ab,Builtin.lenOf,n1,aW,Addr.add_lit,bW]
end
end Go.bh
end
section
namespace Go.bh
open Go
section
variable {P:Program} {F:Nat→Prop} {lim:Nat→Nat} {w:World} {n:Nat} {fr:Fr} {m:ad} {ca:Act} {bu:List Nat}
theorem zv {v:Value} {x:R} {os:List Nat} {k:Nat} (ah:(x.cells.all R.one)=true) (aj:k<x.cells.length) (h:aF w lim v (x.cells.getD k .aP) os):v.oneCell'=true:=by
 refine OT h ?_
 rw [List.all_eq_true] at ah
 exact ah _ (by simp [List.getD_eq_getElem?_getD,aj])
theorem n2 {l l':List R} {i:Nat} (h:i<l.length):(l++l').getD i .aP=l.getD i .aP:=by
 simp [List.getD_eq_getElem?_getD,List.getElem?_append_left h]
theorem pB {l l':List R} {i:Nat} (h:l.length≤i):(l++l').getD i .aP=l'.getD (i- l.length) .aP:=by
 simp [List.getD_eq_getElem?_getD,List.getElem?_append_right h]
theorem uO (i j k s:Nat) (ab:i<k) (ay:j<s):i*s+j<k*s:=by
 have:i*s+s≤k*s:=by rw [←Nat.succ_mul];exact Nat.mul_le_mul_right _ ab
 omega
theorem zw {a b:Nat} {sz:Nat} {A B C:List Value} {fa fb:Nat→Nat→Value} (ck:A.length=a*sz) (b4:B.length=b*sz) (w3:∀i j,i<a→j<sz→A[i*sz+j]?=some (fa i j)) (OZ:∀i j,i<b→j<sz→B[i*sz+j]?=some (fb i j)):
 ∀i j,i<a+b→j<sz→(A++B++C)[i*sz+j]?=some (if i<a then fa i j else fb (i- a) j):=by
 intro i j ab ay
 by_cases h:i<a
 · rw [if_pos h,List.append_assoc,List.getElem?_append_left (by rw [ck];exact uO _ _ _ _ h ay)]
   exact w3 i j h ay
 · have w4:a*sz≤i*sz:=Nat.mul_le_mul_right _ (by omega)
   have qO:i*sz+j- a*sz=(i- a)*sz+j:=by rw [Nat.sub_mul];omega
   have bG:(i- a)*sz+j<b*sz:=uO _ _ _ _ (by omega) ay
   rw [if_neg h,List.getElem?_append_left (by simp [ck,b4];omega),List.getElem?_append_right (by omega),ck,qO]
   exact OZ (i- a) j (by omega) ay
set_option maxHeartbeats 1000000 in
theorem G2 (st:bd F lim w n fr m ca bu) {t e ty:TypeId} (ao:P.underlying t=some (.slice e)) (aA:kp P e=true) (jg:0<P.cellsOf e) {pC jd:Value} {l l':List R} (ae:aF w lim pC (.slice true l) bu) (aE:aF w lim jd (.slice false l') [])
 (w5:(l.length+l'.length)*P.bytesOf e≤140737488355328) (cU:l.length+l'.length≤140737488355328) (ar:∀x∈l,x.cells.length=P.cellsOf e) (ic:∀x∈l',x.cells.length=P.cellsOf e∧x.cells.all R.one=true):
 ∃fX w' lim' dS,(Builtin.append_ #[t,t] ty #[pC,jd]).run P w= .ok fX w'∧bd F lim' w' n fr m ca dS∧aF w' lim' fX (.slice true (l++l')) dS∧dc F w lim w' lim':=by
 obtain ⟨i,z,ab,lj,zx,zy,s9⟩:=w1 aA
 obtain ⟨hM,lk⟩:=s7 ab
 have rQ:∀k:Nat,k≤140737488355328→k≤maxLen:=fun k aj=>by simp only [maxLen];omega
 have n3:∀(l:List R) i,i<l.length→l.getD i .aP∈l:=fun l i ab=>by simp [List.getD_eq_getElem?_getD,ab]
 by_cases mJ:l'=[]
 · subst mJ
   have O0:∃a c,jd= .slice a 0 c:=by
    obtain ⟨a,c,rfl,_⟩:=Ca aE
    exact ⟨a,c,rfl⟩
   obtain ⟨a,c,rfl⟩:=O0
   refine ⟨pC,w,lim,bu,?_,st,by simpa using ae, .refl _ _ _⟩
   cases ae with
   |fz own=>exact G0 t e ty i ao ab none 0 0 (Nat.le_refl _) a c
   |own b jH cap sz l cv cur b9 I J ai aC aN bE dk cW dB dV fj=>exact G0 t e ty i ao ab _ jH cap J a c
 have Ct:0<l'.length:=List.length_pos_iff.2 mJ
 rcases uB aE with ⟨rfl,_⟩|⟨rfl,_⟩|⟨ta,tc,td,Cu,gT,rfl,G3,O1,O2,tf,G4,zz,pD⟩
 · exact (mJ rfl).elim
 · exact (mJ rfl).elim
 have Cv:Cu=i.size:=by rw [←tf 0 Ct,(ic _ (n3 l' 0 Ct)).1,hM]
 subst Cv
 rw [hM] at jg
 have qN:=zt (w:=w) jg zz
 have hq:(fW gT l'.length i.size).length=l'.length*i.size:=by simp [fW]
 have w6:∀a b,a<l'.length→b<i.size→(fW gT l'.length i.size)[a*i.size+b]?=some (gT a b):=fun a b aH ae=>zs aH ae
 have pE:∀u∈fW gT l'.length i.size,u.oneCell'=true:=fun u hu=>by
  obtain ⟨k,aj,rfl⟩:=List.mem_map.1 hu
  have fs:k<l'.length*i.size:=by simpa using aj
  have w7:k/i.size<l'.length:=Nat.div_lt_of_lt_mul (by rw [Nat.mul_comm];exact fs)
  have w8:=Nat.mod_lt k jg
  exact zv (ic _ (n3 l' _ w7)).2 (by rw [tf _ w7];exact w8) (pD _ _ w7 w8)
 rw [lk] at w5
 have rR:∀(fG:List Value) (k eV:Nat) (fa:Nat→Nat→Value),fG.length=k*i.size→k=l.length→l.length+l'.length≤eV→eV≤maxLen→
  (∀a b,a<k→b<i.size→fG[a*i.size+b]?=some (fa a b))→(∀a b,a<k→b<i.size→aF w lim (fa a b) ((l.getD a .aP).cells.getD b .aP) [])→
  (fG.toArray++(fW gT l'.length i.size).toArray++Builtin.zeroCells z.cells (eV- (l.length+l'.length))).size=eV*i.size→
  ∃lim' dS,bd F lim' (w.drew.alloc (.cells (fG.toArray++(fW gT l'.length i.size).toArray++Builtin.zeroCells z.cells (eV- (l.length+l'.length))) e)) n fr m ca dS∧
   aF (w.drew.alloc (.cells (fG.toArray++(fW gT l'.length i.size).toArray++Builtin.zeroCells z.cells (eV- (l.length+l'.length))) e)) lim' (.slice (some ⟨w.heap.size,0,none⟩) (l.length+l'.length) eV) (.slice true (l++l')) dS∧
   dc F w lim (w.drew.alloc (.cells (fG.toArray++(fW gT l'.length i.size).toArray++Builtin.zeroCells z.cells (eV- (l.length+l'.length))) e)) lim':=by
  intro fG k eV fa av aj dT hm w3 qP np
  subst aj
  have ee:=dc.w0 (w':=w.drew) st rfl rfl rfl rfl (.cells (fG.toArray++(fW gT l'.length i.size).toArray++Builtin.zeroCells z.cells (eV- (l.length+l'.length))) e) ((l.length+l'.length)*i.size)
  refine ⟨_,_,st.wZ (w':=w.drew) rfl _ ((l.length+l'.length)*i.size),?_,ee⟩
  have pF:=zw (C:=(Builtin.zeroCells z.cells (eV- (l.length+l'.length))).toList) av hq w3 w6
  refine uN (sz:=i.size) (cv:=fun a b=>if a<l.length then fa a b else gT (a- l.length) b) (by simp) dT hm cU (.inl (by omega)) (nV w.drew _) np (fun a aH=>?_) (by rw [pA]) (fun a b aH ae=>?_) (fun a b aH ae=>?_)
  · by_cases h:a<l.length
    · rw [n2 h,ar _ (n3 l a h),hM]
    · rw [pB (by omega),tf _ (by omega)]
  · rw [←Array.getElem?_toList]
    simp only [Array.toList_append]
    exact pF a b aH ae
  · by_cases h:a<l.length
    · simp only [if_pos h]
      rw [n2 h]
      exact (qP a b h ae).fA ee.mono ee.cell (by simp)
    · simp only [if_neg h]
      rw [pB (by omega)]
      exact (pD _ b (by omega) ae).fA ee.mono ee.cell (by simp)
 have w9:∀eV,l.length+l'.length≤eV→∀fG:List Value,fG.length=l.length*i.size→(fG.toArray++(fW gT l'.length i.size).toArray++Builtin.zeroCells z.cells (eV- (l.length+l'.length))).size=eV*i.size:=fun eV ag fG av=>by
  simp only [Array.size_append,List.size_toArray,size_zeroCells,s9,av,hq,←Nat.add_mul]
  congr 1;omega
 have xa:((l.length+l'.length:Nat):Int)≤9223372036854775807:=by omega
 cases ae with
 |fz own=>
  simp only [List.length_nil,Nat.zero_add] at*
  have fN:=run_append_nil (P:=P) w t ty e i z ao ab lj ⟨ta,tc,none⟩ l'.length td _ hq qN Ct xa (by omega)
  have dT:=grownCap_ge w l'.length 0 e
  have n4:=grownCap_le_maxLen w l'.length 0 e (rQ _ cU)
  obtain ⟨lim',dS,I,J,ai⟩:=rR [] 0 (grownCap w l'.length 0 e) (fun _ _=>undef) (by simp) rfl dT n4 (fun a b aH=>absurd aH (Nat.not_lt_zero _)) (fun a b aH=>absurd aH (Nat.not_lt_zero _)) (w9 _ dT [] (by simp))
  simp only [List.nil_append] at I J ai
  exact ⟨_,_,lim',dS,fN,by simpa using I,by simpa using J,by simpa using ai⟩
 |own b jH cap sz l cv cur b9 I J ai aC aN bE dk cW dB dV fj=>
  subst I
  have oO:l.length=0∨sz=i.size:=by
   rcases Nat.eq_zero_or_pos l.length with h|h
   · exact .inl h
   · exact .inr (by rw [←cW 0 h,ar _ (n3 l 0 h),hM])
  have hh:∀a c7,a<l.length→c7<i.size→w.cell? ⟨b,a*i.size+c7,none⟩=some (cv a c7):=fun a c7 aH ae=>by
   rcases oO with h|h
   · omega
   · subst h;exact dV a c7 aH ae
  have jC:∀a c7,a<l.length→c7<i.size→aF w lim (cv a c7) ((l.getD a .aP).cells.getD c7 .aP) []:=fun a c7 aH ae=>by
   rcases oO with h|h
   · omega
   · subst h;exact fj a c7 aH ae
  by_cases n1:l.length+l'.length≤cap
  · have b2:sz=i.size:=by
     rcases oO with h|h
     · rcases aN with aN|aN<;>omega
     · exact h
    subst b2
    have w2:l.length*i.size+(fW gT l'.length i.size).length≤cur.size:=by
     rw [hq,dk,←Nat.add_mul];exact Nat.mul_le_mul_right _ n1
    have fN:=G1 (P:=P) (w:=w) t e ty i ao ab b l.length cap cur b9 bE ⟨ta,tc,none⟩ l'.length td _ hq qN pE n1 w2
    generalize ck:(cur.toList.take (l.length*i.size)++fW gT l'.length i.size++cur.toList.drop (l.length*i.size+(fW gT l'.length i.size).length)).toArray=A at fN
    have l7:(w.setRow b A).heap[b]?=some (.cells A b9 (0,0)):=setRow_heap w b cur A b9 (0,0) bE
    have ib:∀k,k<l.length*i.size→A[k]?=cur[k]?:=fun k aj=>by
     rw [←ck]
     have hle:l.length*i.size≤cur.size:=by omega
     rw [List.getElem?_toArray,List.append_assoc,List.getElem?_append_left (by simp;omega),List.getElem?_take,if_pos aj,Array.getElem?_toList]
    obtain ⟨s1,s2⟩:=st.Cq (w':=w.setRow b A) (by simp) (fun c ag=>setRow_other w b c A ag) ((l.length+l'.length)*i.size) (by rw [←dB,Nat.add_mul];omega) (fun o av=>by
     rw [←dB] at av
     simp [World.cell?,l7,bE,ib o av]) rfl rfl rfl
    refine ⟨_,_,_,[b],fN,s1,?_,s2⟩
    refine uN (sz:=i.size) (cv:=fun a b=>if a<l.length then cv a b else gT (a- l.length) b) (by simp) n1 ai cU (.inl (by omega)) l7 (by rw [←ck];simp;omega) (fun a aH=>?_) (by rw [pA]) (fun a c7 aH ae=>?_) (fun a c7 aH ae=>?_)
    · by_cases h:a<l.length
      · rw [n2 h];exact cW a h
      · rw [pB (by omega),tf _ (by omega)]
    · rw [←ck,List.getElem?_toArray]
      refine zw (by simp;omega) hq (fun a c7 aH ae=>?_) w6 a c7 aH ae
      have:=hh a c7 aH ae
      simp only [World.cell?,bE] at this
      rw [List.getElem?_take,if_pos (uO _ _ _ _ aH ae),Array.getElem?_toList]
      exact this
    · by_cases h:a<l.length
      · simp only [if_pos h]
        rw [n2 h]
        exact (jC a c7 h ae).fA s2.mono s2.cell (by simp)
      · simp only [if_neg h]
        rw [pB (by omega)]
        exact (pD _ c7 (by omega) ae).fA s2.mono s2.cell (by simp)
  · have holds:=zt (w:=w) (cv:=cv) (n:=l.length) (sz:=i.size) (b:=b) (off:=0) jg (fun a c7 aH ae=>by rw [Nat.zero_add];exact hh a c7 aH ae)
    have qQ:(fW cv l.length i.size).length=l.length*i.size:=by simp [fW]
    have xb:=growslice_fits (need:=l.length+l'.length) (old:=cap) (bytes:=i.bytes) (by omega) w5
    have fN:=run_append_grow (P:=P) w t ty e i z ao ab lj ⟨b,0,none⟩ l.length cap _ qQ holds ⟨ta,tc,none⟩ l'.length td _ hq qN (by omega) xa xb
    have dT:=grownCap_ge w (l.length+l'.length) cap e
    have n4:=grownCap_le_maxLen w (l.length+l'.length) cap e (rQ _ cU)
    obtain ⟨lim',dS,s1,s2,fk⟩:=rR (fW cv l.length i.size) l.length (grownCap w (l.length+l'.length) cap e) cv qQ rfl dT n4 (fun a c7 aH ae=>zs aH ae) jC (w9 _ dT _ qQ)
    exact ⟨_,_,lim',dS,fN,s1,s2,fk⟩
end
end Go.bh
end
section
namespace Go.bh
open Go
section
variable {P:Program} {F:Nat→Prop} {lim:Nat→Nat} {w:World} {n:Nat} {fr:Fr} {m:ad} {ca:Act} {bu:List Nat}
def xc (w:World) (lim:Nat→Nat) (cs:Array Value) (xs:List R):Prop:=cs.size=xs.length∧∀i,i<xs.length→aF w lim (cs.getD i undef) (xs.getD i .aP) []
theorem G5 {oss:Nat→List Nat} {k:Nat} (h:[]=(List.range k).flatMap oss):∀i,i<k→oss i=[]:=fun i ab=>zh h.symm i ab
theorem rS {v:Value} {x:R} (h:aF w lim v x []) (ah:x.eg=true):xc w lim v.cells x.cells:=by
 obtain ⟨oss,I,J,ai⟩:=zp h ah
 exact ⟨I,fun i ab=>by have:=J i ab;rwa [G5 ai i ab] at this⟩
theorem O3 {α:Type} (A B:List α) (rO:α) (off i:Nat) (OX:off+B.length≤A.length):(A.take off++B++A.drop (off+B.length)).getD i rO=if off≤i∧i<off+B.length then B.getD (i- off) rO else A.getD i rO:=by
 simp only [List.getD_eq_getElem?_getD]
 by_cases I:i<off
 · rw [if_neg (by omega),List.append_assoc,List.getElem?_append_left (by simp;omega),List.getElem?_take,if_pos I]
 · by_cases J:i<off+B.length
   · rw [if_pos ⟨by omega,J⟩,List.append_assoc,List.getElem?_append_right (by simp;omega),List.getElem?_append_left (by simp;omega)]
     simp [show min off A.length=off from by omega]
   · rw [if_neg (by omega),List.getElem?_append_right (by simp;omega),List.getElem?_drop]
     congr 2
     simp;omega
theorem O4 (place:Nat→Option (Nat×Nat)):∀(ps:List (Nat×R)) (qR:List (Nat×Value)) (cs:Array Value) (xs cV:List R),nn place xs ps=some cV→xc w lim cs xs→qR.map (·.1)=ps.map (·.1)→
 (∀i (ab:i<ps.length),xc w lim (qR.getD i (0,undef)).2.cells (ps[i]).2.cells)→∃fC,Instr.fill place cs qR=some fC∧xc w lim fC cV:=by
 intro ps
 induction ps with
 |nil=>
  intro qR cs xs cV h ag hm aB
  have:qR=[]:=by simpa using hm
  subst this
  simp only [nn,Option.some.injEq] at h
  subst h
  exact ⟨cs,rfl,ag⟩
 |cons p ps aQ=>
  intro qR cs xs cV h ag hm aB
  cases qR with
  |nil=>simp at hm
  |cons q qR=>
   obtain ⟨i,x⟩:=p
   obtain ⟨j,v⟩:=q
   simp only [List.map_cons,List.cons.injEq] at hm
   obtain ⟨rfl,hm⟩:=hm
   have ah:=aB 0 (by simp)
   simp only [List.getD_cons_zero,List.getElem_cons_zero] at ah
   simp only [nn] at h
   cases p8:place j with
   |none=>simp [p8] at h
   |some os=>
    obtain ⟨off,size⟩:=os
    simp only [p8] at h
    split at h
    · next O5=>
      obtain ⟨al,hle⟩:=O5
      have p9:v.cells.size=size:=ah.1.trans al
      simp only [Instr.fill,p8]
      rw [if_neg (by simp [p9,ag.1];omega)]
      refine aQ qR _ _ cV h ?_ hm (fun k aj=>by have:=aB (k+1) (by simp;omega);simpa using this)
      obtain ⟨f1,f2⟩:=Great.foldl_set off v.cells.toList 0 cs
      have O6:(v.cells.zipIdx.foldl (fun cs (c,j)=>cs.setIfInBounds (off+j) c) cs)=((v.cells.toList.zipIdx 0).foldl (fun cs (x:Value×Nat)=>cs.setIfInBounds (off+x.2) x.1) cs):=by
       rw [←Array.foldl_toList];simp
      rw [O6]
      refine ⟨by rw [f1,ag.1];simp;omega,fun k aj=>?_⟩
      have hlen:(xs.take off++x.cells++xs.drop (off+size)).length=xs.length:=by simp;omega
      rw [hlen] at aj
      rw [←al,O3 xs x.cells .aP off k (by omega)]
      have ax:((v.cells.toList.zipIdx 0).foldl (fun cs (x:Value×Nat)=>cs.setIfInBounds (off+x.2) x.1) cs).getD k undef=if off≤k∧k<off+x.cells.length then v.cells.getD (k- off) undef else cs.getD k undef:=by
       rw [Array.getD_eq_getD_getElem?,f2 k]
       by_cases hW:off≤k∧k<off+x.cells.length
       · rw [if_pos (by simp [p9,ag.1];omega),if_pos hW]
         simp [Array.getD_eq_getD_getElem?]
       · rw [if_neg (by simp [p9];omega),if_neg hW,Array.getD_eq_getD_getElem?]
      rw [ax]
      by_cases hW:off≤k∧k<off+x.cells.length
      · rw [if_pos hW,if_pos hW];exact ah.2 _ (by omega)
      · rw [if_neg hW,if_neg hW];exact ag.2 k aj
    · cases h
theorem zA {t:TypeId} {z:R} (h:hG P t=some z):∃v,(zeroValue t).run P w= .ok v w∧p5 v=true∧z=kS v∧aF w lim v z []:=by
 obtain ⟨i,v,I,J,ai,aC⟩:=Cr (P:=P) (e:=t) (by rw [h];rfl)
 rw [h] at aC
 have aA:z=kS v:=by simpa using aC
 exact ⟨v,by simp [zeroValue,typeInfo,I,J],ai,aA,by rw [aA];exact B4 ai⟩
theorem run_places (cA:List Field) (h:∀f∈cA,ef P f.type=true):(cA.mapM fun f=>do pure (f.offset,←sizeOf f.type):Sem (List (Nat×Nat))).run P w= .ok (cA.map fun f=>(f.offset,P.cellsOf f.type)) w:=by
 induction cA with
 |nil=>rfl
 |cons f cA aQ=>
  rw [List.mapM_cons]
  have O7:=aQ (fun g a8=>h g (by simp [a8]))
  simp only [Sem.run_bind,mF (h f (by simp)),Result.andThen_ok,Sem.run_pure,O7,List.map_cons]
theorem Cw {t:TypeId} {cA:Array Field} {z:R} {cells:List R} (hu:P.underlying t=some (.struct cA)) (aA:hG P t=some z) (rT:z.eg=true) (ko:∀f∈cA.toList,ef P f.type=true)
 {parts:Array (Nat×Operand)} {a:Operand→R} (aW:nn (fun i=>(cA[i]?).map fun f=>(f.offset,P.cellsOf f.type)) z.cells (parts.toList.map fun p=>(p.1,a p.2))=some cells)
 (au:∀p∈parts.toList,aF w lim (ca.eval p.2) (a p.2) []) (ao:∀p∈parts.toList,(a p.2).eg=true):
 ∃v,(Instr.build t (parts.map fun (i,x)=>(i,ca.eval x))).run P w= .ok v w∧aF w lim v (.agg cells) []:=by
 obtain ⟨O8,pG,rU,rfl,qa⟩:=zA (w:=w) (lim:=lim) aA
 have O9:((cA.mapM fun f=>do pure (f.offset,←sizeOf f.type):Sem (Array (Nat×Nat)))).run P w= .ok (cA.map fun f=>(f.offset,P.cellsOf f.type)) w:=by
  have:=run_places (P:=P) (w:=w) cA.toList ko
  rw [←Array.toList_mapM] at this
  simp only [Sem.run_map] at this
  cases ba:(cA.mapM fun f=>do pure (f.offset,←sizeOf f.type):Sem (Array (Nat×Nat))).run P w with
  |ok a w'=>
   rw [ba] at this
   simp only [Result.andThen_ok,Result.ok.injEq] at this
   obtain ⟨I,rfl⟩:=this
   congr 1
   apply Array.ext'
   simpa using I
  |halt e w'=>rw [ba] at this;simp at this
 obtain ⟨fC,I,J⟩:=O4 (w:=w) (lim:=lim) _ _ (parts.toList.map fun p=>(p.1,ca.eval p.2)) O8.cells _ _ aW (rS qa rT) (by simp) (fun i ab=>by
  simp only [List.length_map] at ab
  have hS:parts.toList[i]∈parts.toList:=List.getElem_mem ab
  have:=rS (au _ hS) (ao _ hS)
  have ax:(parts.toList.map fun p=>(p.1,ca.eval p.2)).getD i (0,undef)=(parts.toList[i].1,ca.eval parts.toList[i].2):=by
   rw [List.getD_eq_getElem?_getD,List.getElem?_map,List.getElem?_eq_getElem ab];rfl
  have aI:(parts.toList.map fun p=>(p.1,a p.2))[i]=(parts.toList[i].1,a parts.toList[i].2):=by rw [List.getElem_map]
  rw [ax,aI];exact this)
 refine ⟨.agg fC,?_,?_⟩
 · have p8:(fun (i:Nat)=>(cA.map fun (f:Field)=>(f.offset,P.cellsOf f.type))[i]?)=fun (i:Nat)=>(cA[i]?).map fun (f:Field)=>(f.offset,P.cellsOf f.type):=by funext i;simp
   have xd:(parts.map fun (i,x)=>(i,ca.eval x)).toList=parts.toList.map fun p=>(p.1,ca.eval p.2):=by simp
   simp only [Instr.build,Sem.run_bind,pG,Result.andThen_ok,fB hu,O9,p8,xd,I]
   rfl
 · have:=aF.agg (w:=w) (lim:=lim) fC cells (fun _=>[]) J.1 J.2
   rw [flatMap_nil] at this
   exact this
theorem G6 {β:Type} (l:List (Nat×β)) (h:l.map (·.1)=List.range l.length):l=((l.map (·.2)).zipIdx 0).map fun x=>(x.2,x.1):=by
 apply List.ext_getElem?
 intro i
 have ab:=congrArg (·[i]?) h
 simp only [List.getElem?_map] at ab
 by_cases bG:i<l.length
 · simp [bG] at ab ⊢
   exact Prod.ext ab rfl
 · simp [bG]
set_option maxHeartbeats 1000000 in
theorem Pa (st:bd F lim w n fr m ca bu) {t e:TypeId} {len:Nat} {parts:Array (Nat×Operand)} {a:Operand→R} (hu:P.underlying t=some (.slice e)) (jg:0<P.cellsOf e) (aA:kp P e=true) (Pb:len*P.cellsOf e≤16777216)
 (zB:parts.toList.map (·.1)=List.range len) (au:∀p∈parts.toList,aF w lim (ca.eval p.2) (a p.2) []) (ao:∀p∈parts.toList,(a p.2).eg=true∧(a p.2).cells.length=P.cellsOf e):
 ∃v w' lim' os,(Instr.buildSlice t len (parts.map fun (i,x)=>(i,ca.eval x))).run P w= .ok v w'∧bd F lim' w' n fr m ca os∧aF w' lim' v (.slice true (parts.toList.map fun p=>a p.2)) os∧dc F w lim w' lim':=by
 obtain ⟨i,z,ab,lj,zx,zy,s9⟩:=w1 aA
 obtain ⟨hM,lk⟩:=s7 ab
 rw [hM] at jg Pb ao
 have hlen:parts.toList.length=len:=by have:=congrArg List.length zB;simpa using this
 have b2:∀p∈parts.toList,(ca.eval p.2).cells.size=i.size:=fun p aB=>by rw [(rS (au p aB) (ao p aB).1).1];exact (ao p aB).2
 by_cases aq:len=0
 · subst aq
   have uP:parts=#[]:=by simpa using hlen
   subst uP
   have ee:=dc.w0 (w':=w) st rfl rfl rfl rfl (.cells #[] e) 0
   refine ⟨.slice (some ⟨w.heap.size,0,none⟩) 0 0,w.alloc (.cells #[] e),_,_,by
    have qb:Array.range 0=#[]:=by apply Array.ext';simp
    simp [Instr.buildSlice,fB hu,sizeOf,typeInfo,ab,Instr.fill,newRow,qb],st.wZ (w':=w) rfl _ 0,?_,ee⟩
   exact uN (sz:=i.size) (cv:=fun _ _=>undef) (by simp) (Nat.le_refl _) (by simp [maxLen]) (by omega) (.inr rfl) (nV w _) (by simp) (fun _ h=>by omega) (by rw [pA];simp) (fun _ _ h=>by omega) (fun _ _ h=>by omega)
 · have xd:(parts.map fun (i,x)=>(i,ca.eval x)).toList=(((parts.toList.map fun p=>ca.eval p.2)).zipIdx 0).map fun x=>(x.2,x.1):=by
    have I:(parts.toList.map fun p=>(p.1,ca.eval p.2)).map (·.1)=List.range (parts.toList.map fun p=>(p.1,ca.eval p.2)).length:=by
     simp only [List.map_map,List.length_map,hlen]
     exact zB
    have J:=G6 _ I
    simp only [List.map_map] at J
    have e:(parts.map fun (i,x)=>(i,ca.eval x)).toList=parts.toList.map fun p=>(p.1,ca.eval p.2):=by simp
    rw [e];exact J
   have xe:=Great.fill_whole (s:=i.size) jg (parts.toList.map fun p=>ca.eval p.2) ((Array.range (len*i.size)).map (z.cells[· %z.cells.size]!)) (fun v bc=>by
    obtain ⟨p,aB,rfl⟩:=List.mem_map.1 bc;exact b2 p aB) (by simp [hlen])
   rw [←xd] at xe
   have eB:¬len*i.size=0:=by
    have:=Nat.mul_pos (Nat.pos_of_ne_zero aq) jg;omega
   have fN:=run_buildSlice (P:=P) w t e len (parts.map fun (i,x)=>(i,ca.eval x)) _ i z hu ab lj (by omega) eB xe
   have ee:=dc.w0 (w':=w) st rfl rfl rfl rfl (.cells ((parts.toList.map fun p=>ca.eval p.2).flatMap fun v=>v.cells.toList).toArray e) (len*i.size)
   refine ⟨_,_,_,_,fN,st.wZ (w':=w) rfl _ (len*i.size),?_,ee⟩
   have py:∀k,k<len→(parts.toList.map fun p=>a p.2).getD k .aP=a (parts.toList.getD k (0, .tmp 0)).2∧(parts.toList.map fun p=>ca.eval p.2)[k]?=some (ca.eval (parts.toList.getD k (0, .tmp 0)).2)∧parts.toList.getD k (0, .tmp 0)∈parts.toList:=fun k aj=>by
    have fs:k<parts.toList.length:=by omega
    have mK:k<parts.size:=by simpa using fs
    simp [List.getD_eq_getElem?_getD,mK]
   have Z3:len≤len*i.size:=Nat.le_mul_of_pos_right _ jg
   refine uN (sz:=i.size) (cv:=fun k j=>(ca.eval (parts.toList.getD k (0, .tmp 0)).2).cells.getD j undef) (by simp only [List.length_map];exact hlen) (Nat.le_refl _) (by simp only [maxLen];omega) (by omega) (.inl (by omega)) (nV w _) ?_ (fun k aj=>?_) (by rw [pA]) (fun k j aj ay=>?_) (fun k j aj ay=>?_)
   · have:∀(l:List Value),(∀v∈l,v.cells.size=i.size)→(l.flatMap fun v=>v.cells.toList).length=l.length*i.size:=fun l ar=>by
      induction l with
      |nil=>simp
      |cons v l aQ=>rw [List.flatMap_cons,List.length_append,aQ (fun u hu=>ar u (by simp [hu]))];simp [ar v (by simp),Nat.add_mul,Nat.add_comm]
     rw [List.size_toArray,this _ (fun v bc=>by obtain ⟨p,aB,rfl⟩:=List.mem_map.1 bc;exact b2 p aB),List.length_map,hlen]
   · obtain ⟨I,J,ai⟩:=py k aj
     rw [I];exact (ao _ ai).2
   · obtain ⟨I,J,ai⟩:=py k aj
     rw [List.getElem?_toArray,Great.flat_get jg _ (fun v bc=>by obtain ⟨p,aB,rfl⟩:=List.mem_map.1 bc;exact b2 p aB)]
     have ax:(k*i.size+j)/i.size=k:=by rw [Nat.mul_comm,Nat.mul_add_div jg,Nat.div_eq_of_lt ay,Nat.add_zero]
     have aI:(k*i.size+j)%i.size=j:=by rw [Nat.mul_comm,Nat.mul_add_mod,Nat.mod_eq_of_lt ay]
     rw [ax,aI,J,Option.bind_some]
     have:j<(ca.eval (parts.toList.getD k (0, .tmp 0)).2).cells.size:=by rw [b2 _ ai];exact ay
     simp only [Array.getD_eq_getD_getElem?,Array.getElem?_eq_getElem this,Option.getD_some]
   · obtain ⟨I,J,ai⟩:=py k aj
     rw [I]
     exact ((rS (au _ ai) (ao _ ai).1).2 j (by rw [(ao _ ai).2];exact ay)).fA ee.mono ee.cell (by simp)
theorem bd.Pc (h:bd F lim w n fr m ca []) {b off:Nat} {l:List R} (hm:m b=some (.cells l)) (av:off<l.length):
 ∃v os,w.cell? ⟨b,off,none⟩=some v∧bd F lim w n fr (m.bL b (some (.cells (l.set off (l.getD off .aP).plain)))) ca os∧aF w lim v (l.getD off .aP) os:=by
 obtain ⟨os,b6,bA,h⟩:=h
 have eI:=h.mem b _ hm
 obtain ⟨zq,ek,cE⟩:=eI
 cases zq with
 |cells cs e _ _ ae al au=>
  have Pd:off<cs.size:=by omega
  refine ⟨cs.getD off undef,b6 b off,by simp [World.cell?,ae,Array.getD,Pd],⟨os,fun k i=>if k=b∧i=off then [] else b6 k i,fun c=>if bA c= .nU b off then .lB else if bA c= .lB then .none else bA c,h.size,h.defers,h.dX,fun k o aj=>?_,fun t x ah=>⟨(h.ey t x ah).1,fun c ag=>?_⟩,fun k o aj i=>?_,?_,fun c ag=>?_,fun k aj=>?_⟩,au off av⟩
  · by_cases gO:k=b
    · subst gO
      simp only [ad.bL,↓reduceIte,Option.some.injEq] at aj ⊢
      subst aj
      refine ⟨.cells cs e _ _ ae (by simp [al]) (fun i ab=>?_),ek,cE⟩
      simp only [List.length_set] at ab
      by_cases kT:i=off
      · subst kT
        simp only [List.getD_eq_getElem?_getD,List.getElem?_set,av,if_true,Option.getD_some,and_self]
        have:=(au i ab).plain
        simpa [List.getD_eq_getElem?_getD] using this
      · have:¬off=i:=fun e=>kT e.symm
        simp only [List.getD_eq_getElem?_getD,List.getElem?_set,this,if_false,kT,and_false]
        have:=au i ab
        simpa [List.getD_eq_getElem?_getD] using this
    · simp only [ad.bL,if_neg gO] at aj ⊢
      simpa [gO] using h.mem k o aj
  · have:=(h.ey t x ah).2 c ag
    simp [this]
  · by_cases gO:k=b
    · subst gO
      by_cases kT:i=off
      · simp [kT]
      · refine ⟨by simpa [kT] using (h.ds k _ hm i).1,fun c ag=>?_⟩
        have:=(h.ds k _ hm i).2 c (by simpa [kT] using ag)
        simp [this,kT]
    · simp only [ad.bL,if_neg gO] at aj
      refine ⟨by simpa [gO] using (h.ds k o aj i).1,fun c ag=>?_⟩
      have:=(h.ds k o aj i).2 c (by simpa [gO] using ag)
      simp [this,gO]
  · exact ⟨(h.ds b _ hm off).1,fun c ag=>by simp [(h.ds b _ hm off).2 c ag]⟩
  · have eB:bA c≠ .none:=by
     intro e;simp [e] at ag
    have:=h.free c eB
    refine ⟨this.1,?_,this.2.2⟩
    have jh:c≠b:=fun e=>by subst e;rw [hm] at this;cases this.2.1
    simp only [ad.bL,if_neg jh]
    exact this.2.1
  · have:=h.fresh k aj
    refine ⟨this.1,this.2.1,?_⟩
    have jh:k≠b:=fun e=>by subst e;rw [hm] at this;cases this.2.2
    simp only [ad.bL,if_neg jh]
    exact this.2.2
end
end Go.bh
end
section
namespace Go.bh
open Go
section
variable {P:Program} {F:Nat→Prop} {lim:Nat→Nat} {w:World} {n:Nat} {fr:Fr} {m:ad} {ca:Act} {bu:List Nat}
theorem zC (s:Nat):fr.strip [s]=fr.put s (a1 fr s).plain:=rfl
theorem bd.uQ (h:bd F lim w n fr m ca []) (s:Nat) (al:s<n):∃os,bd F lim w n (fr.strip [s]) m ca os∧aF w lim (ca.tmps.getD s undef) (a1 fr s) os:=by
 cases a8:fr.get s with
 |some x=>
  obtain ⟨os,I,J⟩:=h.take a8
  refine ⟨os,?_,?_⟩
  · rw [zC];simpa [a1,a8] using I
  · simpa [a1,a8] using J
 |none=>
  refine ⟨[],?_,by simp [a1,a8];exact .aP _⟩
  rw [zC]
  refine h.sub fun t x ah=>?_
  rw [Fr.qC] at ah
  by_cases e:s=t
  · subst e
    simp [a1,a8,R.plain] at ah
    exact .inr ⟨ah.symm,al⟩
  · rw [if_neg e] at ah;exact .inl ah
theorem bd.G7 (h:bd F lim w n fr m ca []) (y:Operand) (aE:kl y=true) (al:∀t,y= .tmp t→t<n):∃os,bd F lim w n (fr.strip (nZ y)) m ca os∧aF w lim (ca.eval y) (fV (a1 fr) y) os:=by
 cases y with
 |tmp t=>exact h.uQ t (al t rfl)
 |const v=>exact ⟨[],h,B4 aE⟩
 |global g=>exact ⟨[],h, .ptr _⟩
 |func f=>exact ⟨[],h, .func _ #[] #[] [] [] rfl rfl (by simp) (by simp)⟩
theorem ff (h:bd F lim w n fr m ca bu) {x:Operand} (ah:kl x=true):aF w lim (ca.eval x) (bx (a1 fr) x) []:=by
 rw [wX]
 obtain ⟨_,au,rfl⟩:=wP h ah
 exact au
def xf (P:Program) (F:Nat→Prop) (lim:Nat→Nat) (w:World) (n:Nat) (ca:Act) (o:Oper) (bb:Fr) (m':ad) (x:R):Prop:=
 ∃v w' lim' os,(execOp ca.eval o).run P w= .ok (.value v) w'∧bd F lim' w' n bb m' ca os∧aF w' lim' v x os∧dc F w lim w' lim'
theorem Cx {o:Oper} {side:Prop} {x:R} (h:bw P m (bx (a1 fr)) o.op=some (side,x)) (al:side) (st:bd F lim w n fr m ca []) (aj:eQ n o=true):xf P F lim w n ca o fr m x:=by
 obtain ⟨v,I,J⟩:=wV (P:=P) (w:=w) (lim:=lim) h al (ca:=ca) (fun y aE=>ff st (hV aj y aE)) st.uK
 exact ⟨v,w,lim,[],I,st,J, .refl _ _ _⟩
theorem G8 {stl:List Nat} {o:Oper} {side:Prop} {ss:List Nat} {m':ad} {x:R} (h:(match bw P m (bx (a1 fr)) o.op with|some (side,x)=>jV.val side [] m x|none=> .stuck)= .val side ss m' x) (al:side)
 (st:bd F lim w n fr m ca []) (aj:eQ n o=true):xf P F lim w n ca o (fr.strip ss) m' x:=by
 cases aO:bw P m (bx (a1 fr)) o.op with
 |none=>simp [aO] at h
 |some p=>
  obtain ⟨zD,y⟩:=p
  simp only [aO,jV.val.injEq] at h
  obtain ⟨rfl,rfl,rfl,rfl⟩:=h
  exact Cx aO al st aj
theorem Pe {v:Value} {l:List R} {os:List Nat} (h:aF w lim v (.tuple l) os) {i:Nat} (ab:i<l.length):∃cs:Array Value,∃xg:List Nat,v= .tuple cs∧i<cs.size∧aF w lim (cs.getD i undef) (l.getD i .aP) xg∧(∀c∈xg,c∈os)∧(os.Nodup→xg.Nodup):=by
 cases h with
 |tuple cs _ oss h au=>exact ⟨cs,oss i,rfl,by omega,au i ab,fun c ag=>GS.2 ⟨i,ab,ag⟩,fun aL=>(GR aL).1 i ab⟩
theorem Pf {o:Oper} {t:Nat} (aj:eQ n o=true) (aL:(o.op.operands.toList.all fun y=>match y with| .tmp t=>decide (t<n)|_=>true)=true) (ao:Operand.tmp t∈o.op.operands.toList):t<n:=by
 rw [List.all_eq_true] at aL
 simpa using aL _ ao
set_option maxHeartbeats 2000000 in
theorem Cy {stl:List Nat} {o:Oper} {side:Prop} {ss:List Nat} {m':ad} {x:R} (h:eo P m (a1 fr) stl o.dst o.op= .val side ss m' x) (al:side) (st:bd F lim w n fr m ca []) (aj:eQ n o=true)
 (aL:(o.op.operands.toList.all fun y=>match y with| .tmp t=>decide (t<n)|_=>true)=true):xf P F lim w n ca o (fr.strip ss) m' x:=by
 have ao:∀t,Operand.tmp t∈o.op.operands.toList→t<n:=fun t=>Pf aj aL
 have ft:=hV aj
 have taken:∀s,s<n→(∀a:Act,execOp a.eval o=pure (.value (a.eval (.tmp s))))→xf P F lim w n ca o (fr.strip [s]) m (a1 fr s):=fun s ux he=>by
  obtain ⟨os,I,J⟩:=st.uQ s ux
  exact ⟨ca.eval (.tmp s),w,lim,os,by rw [he ca];rfl,I,J, .refl _ _ _⟩
 unfold eo at h
 split at h
 · next s bI=>
   simp only [jV.val.injEq] at h
   obtain ⟨rfl,rfl,rfl,rfl⟩:=h
   exact taken s (ao s (by rw [bI];simp [Op.operands])) (fun a=>by simp [execOp,bI])
 · next s bI=>
   split at h
   · simp only [jV.val.injEq] at h
     obtain ⟨rfl,rfl,rfl,rfl⟩:=h
     exact taken s (ao s (by rw [bI];simp [Op.operands])) (fun a=>by simp [execOp,bI])
   · simp only [jV.val.injEq] at h
     obtain ⟨rfl,rfl,rfl,rfl⟩:=h
     exact Cx (by rw [bI];rfl) trivial st aj
 · next s i bI=>
   split at h
   · next l ar=>
     split at h
     · simp only [jV.val.injEq] at h
       obtain ⟨rfl,rfl,rfl,rfl⟩:=h
       obtain ⟨os,I,J⟩:=st.uQ s (ao s (by rw [bI];simp [Op.operands]))
       rw [ar] at J
       obtain ⟨cs,xg,he,Pg,au,qO,l6⟩:=Pe J al
       refine ⟨cs.getD i undef,w,lim,xg,?_,I.OQ (l6 I.OR) qO,au, .refl _ _ _⟩
       simp [execOp,bI,Act.eval,he,Instr.extract,Pg]
     · simp only [jV.val.injEq] at h
       obtain ⟨rfl,rfl,rfl,rfl⟩:=h
       show xf P F lim w n ca o fr m _
       refine Cx (fr:=fr) (side:=i<(R.fe l).length) ?_ (by simpa [R.iI] using al) st aj
       rw [bI]
       have a8:=oJ l i
       simp only [bw,bx,ar,R.plain,a8]
   · cases h
 · next t y bI=>
   split at h
   · split at h
     · next b off n5=>
       split at h
       · next l hm=>
         simp only [jV.val.injEq] at h
         obtain ⟨rfl,rfl,rfl,rfl⟩:=h
         obtain ⟨hu,Ph,Pj⟩:=al
         have aE:=ff st (ft y (by rw [bI];simp [Op.operands]))
         rw [n5] at aE
         obtain ⟨v,os,I,J,ai⟩:=st.Pc hm Pj
         refine ⟨v,w,lim,os,?_,J,ai, .refl _ _ _⟩
         simp [execOp,bI,oN aE,Instr.loadAt,Instr.sureAddr,loadVar,uy hu,Ph,I]
       · cases h
     · cases h
   · exact G8 (stl:=stl) (by rw [bI];exact h) al st aj
 · split at h
   · split at h<;>cases h
   · cases h
 · cases h
 · split at h<;>cases h
 · split at h
   · split at h<;>cases h
   · cases h
 · split at h<;>cases h
 · next t parts bI=>
   split at h
   · cases h
   · split at h
     · next cA z hu aA=>
       split at h
       · next cells aW=>
         simp only [jV.val.injEq] at h
         obtain ⟨rfl,rfl,rfl,rfl⟩:=h
         obtain ⟨I,J,ai⟩:=al
         obtain ⟨v,aC,aN⟩:=Cw (P:=P) (w:=w) (lim:=lim) (ca:=ca) hu aA I J aW (fun p aB=>ff st (ft p.2 (by rw [bI];simp [Op.operands];exact ⟨p.1,by simpa using aB⟩))) ai
         exact ⟨v,w,lim,[],by simp [execOp,bI,aC],st,aN, .refl _ _ _⟩
       · cases h
     · cases h
 · next t len parts bI=>
   split at h
   · cases h
   · split at h
     · next e hu=>
       simp only [jV.val.injEq] at h
       obtain ⟨rfl,rfl,rfl,rfl⟩:=h
       obtain ⟨I,J,ai,aC,aN,bE⟩:=al
       obtain ⟨v,w',lim',os,hp,hF,pH,tg⟩:=Pa (P:=P) st hu J ai aC aN (a:=bx (a1 fr)) (fun p aB=>ff st (ft p.2 (by rw [bI];simp [Op.operands];exact ⟨p.1,by simpa using aB⟩))) bE
       exact ⟨v,w',lim',os,by simp [execOp,bI,hp],hF,pH,tg⟩
     · cases h
 · next args bC bI=>
   split at h
   · next s y t u jU Cz=>
     split at h
     · next e b9 l own l' hu CA lF n5=>
       simp only [jV.val.injEq] at h
       obtain ⟨rfl,rfl,rfl,rfl⟩:=h
       obtain ⟨rfl,I,J,ai,aC,aN,bE,dk⟩:=al
       have hS:∀z∈args.toList,z∈o.op.operands.toList:=fun z aA=>by rw [bI];simpa [Op.operands,Call.operands] using aA
       obtain ⟨os,s1,s2⟩:=st.uQ s (ao s (hS _ (by rw [jU];simp)))
       rw [lF] at s2
       have aE:=ff st (ft y (hS _ (by rw [jU];simp)))
       rw [n5] at aE
       have qK:aF w lim (ca.eval y) (.slice false l') []:=by simpa [R.plain] using aE.plain
       obtain ⟨v,w',lim',dS,hp,hF,pH,tg⟩:=G2 (P:=P) (ty:=o.type) s1 hu ai J s2 qK aC aN bE dk
       refine ⟨v,w',lim',dS,?_,hF,pH,tg⟩
       have ax:args.map ca.eval=#[ca.eval (.tmp s),ca.eval y]:=by apply Array.ext';simp [jU]
       have aI:bC=#[t,t]:=by apply Array.ext';simp [Cz]
       simp only [execOp,bI,resolve,invoke,builtin,Sem.run_bind,Sem.run_pure,Result.andThen_ok,ax,aI]
       simp only [Act.eval] at hp ⊢
       rw [hp];rfl
     · cases h
   · next y t u jU Cz=>
     split at h
     · next e b9 own l' hu CA n5=>
       simp only [jV.val.injEq] at h
       obtain ⟨rfl,rfl,rfl,rfl⟩:=h
       obtain ⟨rfl,I,J,ai,aC,aN⟩:=al
       have hS:∀z∈args.toList,z∈o.op.operands.toList:=fun z aA=>by rw [bI];simpa [Op.operands,Call.operands] using aA
       have aE:=ff st (ft y (hS _ (by rw [jU];simp)))
       rw [n5] at aE
       have qK:aF w lim (ca.eval y) (.slice false l') []:=by simpa [R.plain] using aE.plain
       obtain ⟨qL,lG,_,cU⟩:=Ca qK
       obtain ⟨v,w',lim',dS,hp,hF,pH,tg⟩:=G2 (P:=P) (ty:=o.type) st hu ai J (.fz true) qK (by simpa using aC) (by simpa using cU) (by simp) aN
       refine ⟨v,w',lim',dS,?_,hF,by simpa using pH,tg⟩
       have ax:args.map ca.eval=#[.slice none 0 0,ca.eval y]:=by apply Array.ext';simp [jU,Act.eval]
       have aI:bC=#[t,t]:=by apply Array.ext';simp [Cz]
       simp only [execOp,bI,resolve,invoke,builtin,Sem.run_bind,Sem.run_pure,Result.andThen_ok,ax,aI]
       rw [hp];rfl
     · cases h
   · cases h
 · cases h
 · split at h<;>cases h
 · exact G8 (stl:=stl) h al st aj
end
end Go.bh
end
section
namespace Go.bh
open Go
section
variable {P:Program} {F:Nat→Prop} {lim:Nat→Nat} {w:World} {n:Nat} {fr:Fr} {m:ad} {ca:Act} {bu:List Nat}
def gv (n:Nat) (o:Oper):Bool:=o.op.operands.toList.all fun y=>match y with| .tmp t=>decide (t<n)|_=>true
theorem zE {o:Oper} (aL:gv n o=true) {y:Operand} (aE:y∈o.op.operands.toList):∀t,y= .tmp t→t<n:=by
 intro t ao
 subst ao
 simp only [gv,List.all_eq_true] at aL
 simpa using aL _ aE
set_option maxHeartbeats 2000000 in
theorem Pk {stl:List Nat} {o:Oper} {side:Prop} {ss:List Nat} {m':ad} (h:eo P m (a1 fr) stl o.dst o.op= .p7 side ss m') (al:side) (st:bd F lim w n fr m ca []) (aj:eQ n o=true) (aL:gv n o=true):
 ∃w' lim',(execOp ca.eval o).run P w= .ok .skip w'∧bd F lim' w' n (fr.strip ss) m' ca []∧dc F w lim w' lim':=by
 have ft:=hV aj
 unfold eo at h
 split at h
 case h_5 t a x bI=>
  split at h
  · next b off n5=>
    split at h
    · next l hm=>
      simp only [jV.p7.injEq] at h
      obtain ⟨rfl,rfl,rfl⟩:=h
      obtain ⟨I,J,ai,aC,aN⟩:=al
      have aH:=ff st (ft a (by rw [bI];simp [Op.operands]))
      rw [n5] at aH
      obtain ⟨os,s1,s2⟩:=st.G7 x (ft x (by rw [bI];simp [Op.operands])) (zE aL (by rw [bI];simp [Op.operands]))
      obtain ⟨oss,fH,c2,c3⟩:=zp s2 I
      obtain ⟨dS,eI⟩:=st.uK b _ hm
      obtain ⟨cs,e,_,px,b2,_⟩:=B9 eI
      rw [←ai] at aN
      have zF:(ca.eval x).cells.toList.length=(fV (a1 fr) x).cells.length:=by simpa using fH
      obtain ⟨hp,hF⟩:=s1.GU (vs:=(ca.eval x).cells.toList) hm px aN zF (fun i ab=>by
       have:=c2 i ab
       simpa [Array.getD_eq_getD_getElem?,List.getD_eq_getElem?_getD] using this) c3
      have pE:∀v∈(ca.eval x).cells.toList,v.oneCell'=true:=fun v bc=>by
       obtain ⟨k,qc,rfl⟩:=List.mem_iff_getElem.1 bc
       have mK:k<(fV (a1 fr) x).cells.length:=by omega
       have:=c2 k mK
       have a8:(ca.eval x).cells.getD k undef=(ca.eval x).cells.toList[k]:=by
        simp [Array.getD_eq_getD_getElem?,show k<(ca.eval x).cells.size from by simpa using qc]
       rw [a8] at this
       exact zv J mK this
      have bW:=run_storeCells_at P b off e (ca.eval x).cells.toList 0 cs w px (by simp [b2];omega) pE
      simp only [Nat.add_zero] at bW
      rw [←ai]
      refine ⟨_,lim,?_,hp,hF⟩
      simp only [execOp,bI,oN aH,Instr.storeAt,Instr.sureAddr,storeVar,Sem.run_bind,Sem.run_pure,Result.andThen_ok,mF aC]
      have eB:¬(ca.eval x).cells.size≠P.cellsOf t:=by rw [fH,ai];simp
      simp only [eB,if_false,Sem.run_bind,Sem.run_pure,Result.andThen_ok,bW]
    · cases h
  · cases h
 all_goals first
  |cases h
  |(split at h<;>cases h)
  |(split at h<;>(first|cases h|(split at h<;>first|cases h|(split at h<;>cases h))))
theorem Pl (k s:Nat) (z:List R) (aA:z.length=s) (al:0<s):∀i,i<k*s→(List.replicate k z).flatten.getD i .aP=z.getD (i%s) .aP:=by
 induction k with
 |zero=>intro i ab;omega
 |succ k aQ=>
  intro i ab
  rw [List.replicate_succ,List.flatten_cons]
  by_cases h:i<s
  · rw [n2 (by omega),Nat.mod_eq_of_lt h]
  · rw [pB (by omega),aA,aQ (i- s) (by rw [Nat.add_mul] at ab;omega)]
    rw [←Nat.mod_eq_sub_mod (by omega:s≤i)]
def G9 (P:Program) (F:Nat→Prop) (lim:Nat→Nat) (w:World) (n:Nat) (ca:Act) (o:Oper) (bb:Fr) (m:ad) (mk:Nat→R) (gu:ed):Prop:=
 ∃v w' b,(execOp ca.eval o).run P w= .ok (.value v) w'∧m b=none∧bd F lim w' n bb (m.bL b (some gu)) ca []∧aF w' lim v (mk b) []∧dc F w lim w' lim
theorem th (st:bd F lim w n fr m ca bu) (o:Obj):dc F w lim (w.alloc o) lim:=by
 have ee:=dc.alloc st o 0
 have aA:=st.rF
 have ek:(fun b=>if b=w.heap.size then 0 else lim b)=lim:=by funext b;by_cases ae:b=w.heap.size<;>simp [ae,aA]
 rwa [ek] at ee
theorem Ha (st:bd F lim w n fr m ca []):m w.heap.size=none∧bd F lim (w.alloc (.map #[] 0)) n fr (m.bL w.heap.size (some (.map []))) ca []:=by
 have ee:=th st (.map #[] 0)
 have aA:=st.rF
 have cE:¬F w.heap.size:=fun aW=>absurd (st.pt aW) (Nat.lt_irrefl _)
 have hm:m w.heap.size=none:=by
  cases ae:m w.heap.size with
  |none=>rfl
  |some o=>exact absurd (st.p4 (b:=w.heap.size) (by rw [ae];simp)) (Nat.lt_irrefl _)
 have ck:=st.alloc (.map #[] 0) 0
 have ek:(fun b=>if b=w.heap.size then 0 else lim b)=lim:=by funext b;by_cases ae:b=w.heap.size<;>simp [ae,aA]
 rw [ek] at ck
 refine ⟨hm,?_⟩
 obtain ⟨os,b6,bA,h⟩:=st
 have bG:∀c,bA c≠ .none→c<w.heap.size:=fun c ag=>(h.free c ag).2.2
 refine ⟨os,fun b i=>if b=w.heap.size then [] else b6 b i,bA,h.size,h.defers,fun t x ah=>⟨(h.dX t x ah).1,(h.dX t x ah).2.fA ee.mono ee.cell (fun c ag=>⟨lC w _ c (bG c (by rw [(h.ey t x ah).2 c ag];simp)),rfl⟩)⟩,fun b o ae=>?_,h.ey,fun b o ae i=>?_,h.fL,fun c ag=>?_,fun b ae=>?_⟩
 · by_cases oL:b=w.heap.size
   · subst oL
     simp only [ad.bL,↓reduceIte,Option.some.injEq] at ae ⊢
     subst ae
     exact ⟨.map #[] 0 [] (nV w _) rfl (by simp) (fun i ab=>by simp at ab) (fun i ab=>by simp at ab) (fun i j _ ay=>by simp at ay) (fun i ab=>by simp at ab) _,aA,cE⟩
   · simp only [ad.bL,if_neg oL] at ae ⊢
     have jI:b<w.heap.size:=by
      rcases Nat.lt_or_ge b w.heap.size with e8|e8
      · exact e8
      · have:=(h.fresh b e8).2.2;rw [ae] at this;cases this
     have Z4:¬b=w.heap.size:=oL
     exact ⟨(h.mem b o ae).1.fA (lC w _ b jI) ee.mono ee.cell (fun i c ag=>⟨lC w _ c (bG c (by rw [(h.ds b o ae i).2 c ag];simp)),rfl⟩),(h.mem b o ae).2⟩
 · by_cases oL:b=w.heap.size
   · subst oL
     simp
   · simp only [ad.bL,if_neg oL] at ae ⊢
     exact h.ds b o ae i
 · have:=h.free c ag
   refine ⟨this.1,?_,by simp;omega⟩
   simp only [ad.bL]
   rw [if_neg (by omega)]
   exact this.2.1
 · simp at ae
   have:=h.fresh b (by omega)
   refine ⟨this.1,this.2.1,?_⟩
   simp only [ad.bL]
   rw [if_neg (by omega)]
   exact this.2.2
set_option maxHeartbeats 2000000 in
theorem Pm {stl:List Nat} {o:Oper} {side:Prop} {ss:List Nat} {mk:Nat→R} {gu:ed} (h:eo P m (a1 fr) stl o.dst o.op= .new side ss mk gu) (al:side) (st:bd F lim w n fr m ca []) (aj:eQ n o=true):
 G9 P F lim w n ca o (fr.strip ss) m mk gu:=by
 have ft:=hV aj
 have CB:∀(cs:Array Value) (e:TypeId) (l:List R),xc w lim cs l→∀v,(execOp ca.eval o).run P w= .ok (.value v) (w.alloc (.cells cs e))→aF (w.alloc (.cells cs e)) lim v (mk w.heap.size) []→gu= .cells l→G9 P F lim w n ca o fr m mk gu:=fun cs e l ag v au bc av=>by
  obtain ⟨I,J⟩:=st.zg cs e l ag.1 ag.2
  subst av
  exact ⟨v,_,w.heap.size,au,I,J,bc,th st _⟩
 unfold eo at h
 split at h
 case h_6 t x bI=>
  simp only [jV.new.injEq] at h
  obtain ⟨rfl,rfl,rfl,rfl⟩:=h
  have ah:=ff st (ft x (by rw [bI];simp [Op.operands]))
  exact CB _ t _ (rS ah al) (.pointer (some ⟨w.heap.size,0,none⟩)) (by simp [execOp,bI,Instr.box,newVar,newRow]) (.ptr _) rfl
 case h_7 t bI=>
  split at h
  · next z aA=>
    simp only [jV.new.injEq] at h
    obtain ⟨rfl,rfl,rfl,rfl⟩:=h
    obtain ⟨v,I,J,rfl,aC⟩:=zA (w:=w) (lim:=lim) aA
    exact CB _ t _ (rS aC al) (.pointer (some ⟨w.heap.size,0,none⟩)) (by simp [execOp,bI,Instr.alloc,newVar,newRow,I]) (.ptr _) rfl
  · cases h
 case h_8 t x y bI=>
  split at h
  · next e k dU hu ah aE=>
    split at h
    · next z aA=>
      simp only [jV.new.injEq] at h
      obtain ⟨rfl,rfl,rfl,rfl⟩:=h
      obtain ⟨I,J,ai,aC,rfl,bE,dk,cW⟩:=al
      obtain ⟨v,g1,g2,rfl,g4⟩:=zA (w:=w) (lim:=lim) aA
      have zG:=ff st (ft x (by rw [bI];simp [Op.operands]))
      have pD:=ff st (ft y (by rw [bI];simp [Op.operands]))
      rw [ah] at zG;rw [aE] at pD
      obtain ⟨ex,xh,Pn⟩:=lE zG
      obtain ⟨CC,_,_⟩:=lE pD
      have hw:=GB .i64 k xh Pn
      cases ab:P.info? e with
      |none=>simp [ef,Program.underlying,ab] at J
      |some i=>
       obtain ⟨hM,lk⟩:=s7 ab
       rw [hM] at ai aC;rw [lk] at dk
       have p9:v.cells.size=i.size:=by rw [←zu];exact ai
       obtain ⟨xi,fX,cX,cI,_,oR⟩:=Cr (P:=P) (e:=e) (by rw [aA];rfl)
       rw [ab] at cX
       obtain rfl:i=xi:=by simpa using cX
       have zH:fX=v:=by
        have:=g1
        simp [zeroValue,typeInfo,ab,cI] at this
        exact this
       subst zH
       have hmul:(i.bytes:Int)*k=k*i.bytes:=Int.mul_comm _ _
       have fN:=run_make (P:=P) w t e i fX hu ab cI .i64 .i64 k k bE (Int.le_refl _) (by omega) (by omega)
       refine CB (madeCells fX.cells (k.toNat*i.size)) e _ ?_ (.slice (some ⟨w.heap.size,0,none⟩) k.toNat k.toNat) ?_ (.ms _ _ _ (Nat.le_refl _) (by simp only [maxLen];omega)) rfl
       · refine ⟨by simp [zu,p9,size_madeCells],fun j ay=>?_⟩
         have iK:j<k.toNat*i.size:=by simpa [zu,p9] using ay
         have Hb:=Nat.mod_lt j aC
         rw [Pl _ i.size _ ai aC j iK]
         have ax:(madeCells fX.cells (k.toNat*i.size)).getD j undef=fX.cells.getD (j%i.size) undef:=by
          unfold madeCells
          rw [Array.getD_eq_getD_getElem?,Array.getElem?_map,Array.getElem?_range,if_pos iK]
          simp [getElem!_pos,p9,Hb,Array.getD]
         rw [ax]
         exact (rS g4 I).2 _ (by rw [ai];exact Hb)
       · simp only [execOp,bI,ex,CC,Sem.run_bind,fN,Result.andThen_ok];rfl
    · cases h
  · cases h
 case h_9 t r bI=>
  split at h
  · next k e hu au=>
    simp only [jV.new.injEq] at h
    obtain ⟨rfl,rfl,rfl,rfl⟩:=h
    obtain ⟨I,J⟩:=Ha st
    refine ⟨.map (some w.heap.size),_,w.heap.size,?_,I,J, .map _,th st _⟩
    cases r with
    |none=>simp [execOp,bI,Instr.makeMap,fB hu]
    |some y=>simp at au
  · next k e ji dd hu au=>
    simp only [jV.new.injEq] at h
    obtain ⟨rfl,rfl,rfl,rfl⟩:=h
    obtain ⟨I,J⟩:=Ha st
    refine ⟨.map (some w.heap.size),_,w.heap.size,?_,I,J, .map _,th st _⟩
    cases r with
    |none=>simp at au
    |some y=>
     simp at au
     have aE:=ff st (ft y (by rw [bI];simp [Op.operands]))
     rw [au] at aE
     obtain ⟨CC,_,_⟩:=lE aE
     simp [execOp,bI,Instr.makeMap,fB hu,CC,asInt,asIntOf]
  · cases h
 all_goals first
  |cases h
  |(split at h<;>cases h)
  |(split at h<;>(first|cases h|(split at h<;>first|cases h|(split at h<;>cases h))))
end
end Go.bh
end
section
namespace Go.bh
open Go
section
variable {P:Program} {F:Nat→Prop} {lim:Nat→Nat} {w:World} {n:Nat} {fr:Fr} {m:ad} {ca:Act} {bu:List Nat}
def Place.pI:Place→Bool
 | .slot _=>true
 |_=>false
theorem bd.split (h:bd F lim w n fr m ca []):∃oK:Nat→Prop,(∀b,F b→oK b)∧bd oK lim w 0 [] m oP []∧
 ∀lim' w' m' os,bd oK lim' w' 0 [] m' oP os→dc oK w lim w' lim'→bd F lim' w' n fr m' ca os:=by
 obtain ⟨os,b6,bA,h⟩:=h
 refine ⟨fun b=>F b∨(bA b).pI=true,fun b ae=> .inl ae,⟨os,b6,fun c=>if (bA c).pI then .none else bA c,rfl,rfl,fun t x ah=>by simp [Fr.get] at ah,fun b o ae=>?_,fun t x ah=>by simp [Fr.get] at ah,fun b o ae i=>⟨(h.ds b o ae i).1,fun c ag=>by simp [(h.ds b o ae i).2 c ag,Place.pI]⟩,⟨by simp,by simp⟩,fun c ag=>?_,fun b ae=>?_⟩,?_⟩
 · refine ⟨(h.mem b o ae).1,(h.mem b o ae).2.1,fun aW=>?_⟩
   rcases aW with aW|aW
   · exact (h.mem b o ae).2.2 aW
   · have:=(h.free b (by intro e;rw [e] at aW;simp [Place.pI] at aW)).2.1
     rw [ae] at this;cases this
 · by_cases al:(bA c).pI=true
   · simp [al] at ag
   · simp only [al] at ag
     have:=h.free c (by simpa using ag)
     exact ⟨fun aW=>aW.elim this.1 al,this.2⟩
 · have:=h.fresh b ae
   refine ⟨this.1,fun aW=>aW.elim this.2.1 (fun al=>?_),this.2.2⟩
   have:=(h.free b (by intro e;rw [e] at al;simp [Place.pI] at al)).2.2
   omega
 · intro lim' w' m' bu ⟨Om,Po,Hc,k⟩ dL
   have gH:∀c,Hc c≠ .none→¬(bA c).pI=true:=fun c ag al=>(k.free c ag).1 (.inr al)
   refine ⟨os,Po,fun c=>if (bA c).pI then bA c else Hc c,h.size,h.defers,fun t x ah=>⟨(h.dX t x ah).1,(h.dX t x ah).2.fA dL.mono dL.cell (fun c ag=>dL.res c (.inr ?_))⟩,fun b o ae=>?_,fun t x ah=>⟨(h.ey t x ah).1,fun c ag=>?_⟩,fun b o ae i=>⟨(k.ds b o ae i).1,fun c ag=>?_⟩,⟨k.fL.1,fun c ag=>?_⟩,fun c ag=>?_,fun b ae=>?_⟩
   · rw [(h.ey t x ah).2 c ag];rfl
   · exact ⟨(k.mem b o ae).1,(k.mem b o ae).2.1,fun aW=>(k.mem b o ae).2.2 (.inl aW)⟩
   · have:=(h.ey t x ah).2 c ag
     simp [this,Place.pI]
   · have I:=(k.ds b o ae i).2 c ag
     have:=gH c (by rw [I];simp)
     simp [this,I]
   · have I:=k.fL.2 c ag
     have:=gH c (by rw [I];simp)
     simp [this,I]
   · by_cases al:(bA c).pI=true
     · have I:=h.free c (by intro e;rw [e] at al;simp [Place.pI] at al)
       refine ⟨I.1,?_,Nat.lt_of_lt_of_le I.2.2 dL.size⟩
       cases hm:m' c with
       |none=>rfl
       |some o=>exact ((k.mem c o hm).2.2 (.inr al)).elim
     · have I:=k.free c (by simpa [al] using ag)
       exact ⟨fun aW=>I.1 (.inl aW),I.2⟩
   · have:=k.fresh b ae
     exact ⟨this.1,fun aW=>this.2.1 (.inl aW),this.2.2⟩
theorem xj {f:FuncId} {args:List R} {K:R→ad→Prop} (ag:bn P f args m K) (st:bd F lim w n fr m ca []) {cargs:Array Value} (al:cargs.size=args.length) (au:∀i,i<args.length→aF w lim (cargs.getD i undef) (args.getD i .aP) [])
 {o:Oper} {next:Act→World→Prop} {Q:Exit→Act→World→Prop} (he:∀fn,P.funcs[f]?=some fn→fn.body.isSome=true→(fn.name== "runtime.NumGoroutine")=false→(execOp ca.eval o).run P w= .ok (.enter f cargs) w)
 (aL:∀v x lim' w' m' os,K x m'→aF w' lim' v x os→bd F lim' w' n fr m' ca os→dc F w lim w' lim'→next (ca.put o.dst v) w'):o.wp P ca w next Q:=by
 obtain ⟨⟨fn,I,J,ai⟩,qd⟩:=ag
 obtain ⟨oK,cE,s1,s2⟩:=st.split
 unfold Oper.wp
 rw [he fn I J ai,Oper.upon_enter]
 refine (qd oK lim w cargs al au s1).mono fun e w' ⟨v,x,lim',m',os,he,U,c1,kU,ee⟩=>?_
 subst he
 exact aL v x lim' w' m' os U c1 (s2 lim' w' m' os kU ee) (ee.weaken cE)
theorem uR {f:FuncId} {fn:Func} (args:Array Value) (I:P.funcs[f]?=some fn) (J:fn.body.isSome=true) (ai:(fn.name== "runtime.NumGoroutine")=false):(callFunc f args).run P w= .ok (.enter f args) w:=by
 have Hd:fn.body.isNone=false:=by cases h:fn.body<;>simp_all
 have xk:¬fn.name= "runtime.NumGoroutine":=by simpa using ai
 have Pp:¬fn.body=none:=by intro e;rw [e] at J;cases J
 simp [callFunc,I,xk,Pp]
theorem Pq {ops:Array Oper} {stl:List Nat} {o:Oper} {K iD:Fr→ad→Prop} (U:∀fr m,K fr m→iD fr m) (h:oQ P ops stl o K fr m):oQ P ops stl o iD fr m:=by
 unfold oQ at h ⊢
 split at h
 · split at h
   · exact ⟨h.1,U _ _ h.2⟩
   · exact ⟨h.1,U _ _ h.2⟩
   · exact ⟨h.1,fun b ae=>U _ _ (h.2 b ae)⟩
   · refine h.mono fun x m' ah=>?_
     unfold zn at ah ⊢
     split at ah<;>exact U _ _ ah
   · exact h
 · split at h
   · split at h
     · split at h
       · obtain ⟨x,I,J⟩:=h
         exact ⟨x,I,U _ _ J⟩
       · split at h
         · obtain ⟨x,I,J⟩:=h
           exact ⟨x,I,U _ _ J⟩
         · exact h
       · split at h
         · exact ⟨h.1,U _ _ h.2⟩
         · exact h
     · exact h
   · exact h
theorem bd.dR {d:Option Nat} (h:bd F lim w n fr m ca bu) (aY:∀t,d=some t→t<n) {v:Value} {x:R} (ah:aF w lim v x bu):bd F lim w n (bh.dR fr d x) m (ca.put d v) []:=by
 cases d with
 |none=>exact h.drop
 |some d=>exact h.GA (aY d rfl) ah
theorem He {v:Value} {x:R} {os:List Nat} (h:aF w lim v x os):aF w lim v (zo true x) os:=by
 unfold zo
 split
 · simpa using h
 · exact h
theorem zI {op:Op} (st:bd F lim w n fr m ca bu) {y:Operand} (aE:kl y=true):aF w lim (ca.eval y) (rM (a1 fr) true op y) []:=by
 unfold rM
 split
 · exact He (ff st aE)
 · exact GK (He (ff st aE))
theorem uS {args:Array Operand} {a:Operand→R} (h:∀y∈args.toList,aF w lim (ca.eval y) (a y) []):(args.map ca.eval).size=(args.toList.map a).length∧∀i,i<(args.toList.map a).length→aF w lim ((args.map ca.eval).getD i undef) ((args.toList.map a).getD i .aP) []:=by
 refine ⟨by simp,fun i ab=>?_⟩
 simp only [List.length_map] at ab
 have eH:i<args.size:=by simpa using ab
 have ax:(args.map ca.eval).getD i undef=ca.eval args[i]:=by simp [Array.getD,eH]
 have aI:(args.toList.map a).getD i .aP=a args[i]:=by simp [List.getD_eq_getElem?_getD,eH]
 rw [ax,aI]
 exact h _ (by simp)
theorem Pr {e:Value} {f:FuncId} {first n0 args:List R} {cs:Array Value} (aW:aF w lim e (.func (.func f) first n0) []) (ck:cs.size=args.length∧∀i,i<args.length→aF w lim (cs.getD i undef) (args.getD i .aP) []):
 ∃fa lG:Array Value,e= .func (.func f) fa lG∧(fa++cs++lG).size=(first++args++n0).length∧∀i,i<(first++args++n0).length→aF w lim ((fa++cs++lG).getD i undef) ((first++args++n0).getD i .aP) []:=by
 cases aW with
 |func _ fa lG _ _ I J ai aC=>
  refine ⟨fa,lG,rfl,by simp [I,J,ck.1],fun i ab=>?_⟩
  simp only [List.length_append] at ab
  by_cases i1:i<first.length
  · have ax:(fa++cs++lG).getD i undef=fa.getD i undef:=by
     simp [Array.getD_eq_getD_getElem?,Array.getElem?_append,I,i1,show i<first.length+cs.size from by omega]
    rw [ax,n2 (by simp;omega),n2 i1];exact ai i i1
  · by_cases i2:i<first.length+cs.size
    · have ax:(fa++cs++lG).getD i undef=cs.getD (i- first.length) undef:=by
       simp [Array.getD_eq_getD_getElem?,Array.getElem?_append,I,i1,i2,show i- first.length<cs.size from by omega]
      rw [ax,n2 (by simp;omega),pB (by omega)];exact ck.2 _ (by omega)
    · have ax:(fa++cs++lG).getD i undef=lG.getD (i- (first.length+cs.size)) undef:=by
       simp [Array.getD_eq_getD_getElem?,Array.getElem?_append,I,i1,i2,show ¬i- first.length<cs.size from by omega,Nat.sub_sub]
      have hlen:(first++args).length=first.length+cs.size:=by simp [ck.1]
      rw [ax,pB (by omega),hlen];exact aC _ (by omega)
theorem Ps {stl:List Nat} {o:Oper} {f:FuncId} {args:List R} (h:eo P m (a1 fr) stl o.dst o.op= .call f args) (st:bd F lim w n fr m ca []) (aj:eQ n o=true):
 ∃cargs:Array Value,cargs.size=args.length∧(∀i,i<args.length→aF w lim (cargs.getD i undef) (args.getD i .aP) [])∧
  ∀fn,P.funcs[f]?=some fn→fn.body.isSome=true→(fn.name== "runtime.NumGoroutine")=false→(execOp ca.eval o).run P w= .ok (.enter f cargs) w:=by
 have ft:=hV aj
 unfold eo at h
 split at h
 case h_13 g l8 bC bI=>
  simp only [jV.call.injEq] at h
  obtain ⟨rfl,rfl⟩:=h
  have ck:=uS (ca:=ca) (a:=bx (a1 fr)) (args:=l8) (fun y aE=>ff st (ft y (by rw [bI];simp [Op.operands,Call.operands];exact .inr (by simpa using aE))))
  refine ⟨l8.map ca.eval,ck.1,ck.2,fun fn I J ai=>?_⟩
  simp [execOp,bI,resolve,Deferred.ofValue,Act.eval,invoke,uR _ I J ai]
 case h_14 t l8 bC bI=>
  split at h
  · next g first n0 lF=>
    simp only [jV.call.injEq] at h
    obtain ⟨rfl,rfl⟩:=h
    have ck:=uS (ca:=ca) (a:=bx (a1 fr)) (args:=l8) (fun y aE=>ff st (ft y (by rw [bI];simp [Op.operands,Call.operands];exact .inr (by simpa using aE))))
    have aW:=ff st (x:= .tmp t) rfl
    simp only [bx,lF,R.plain] at aW
    generalize he:ca.eval (.tmp t)=e at aW
    cases aW with
    |func _ fa lG _ _ I J ai aC=>
     refine ⟨fa++l8.map ca.eval++lG,by simp [I,J],fun i ab=>?_,fun fn g1 g2 g3=>?_⟩
     · simp only [List.length_append,List.length_map,Array.length_toList] at ab
       by_cases i1:i<first.length
       · have ax:(fa++l8.map ca.eval++lG).getD i undef=fa.getD i undef:=by
          simp [Array.getD_eq_getD_getElem?,Array.getElem?_append,I,i1,show i<first.length+l8.size from by omega]
         rw [ax,n2 (by simp;omega),n2 i1];exact ai i i1
       · by_cases i2:i<first.length+l8.size
         · have ax:(fa++l8.map ca.eval++lG).getD i undef=(l8.map ca.eval).getD (i- first.length) undef:=by
            simp [Array.getD_eq_getD_getElem?,Array.getElem?_append,I,i1,i2,show i- first.length<l8.size from by omega]
           rw [ax,n2 (by simp;omega),pB (by omega)];exact ck.2 _ (by simp;omega)
         · have ax:(fa++l8.map ca.eval++lG).getD i undef=lG.getD (i- (first.length+l8.size)) undef:=by
            simp [Array.getD_eq_getD_getElem?,Array.getElem?_append,I,i1,i2,show ¬i- first.length<l8.size from by omega,Nat.sub_sub]
           have hlen:(first++l8.toList.map (bx (a1 fr))).length=first.length+l8.size:=by simp
           rw [ax,pB (by omega),hlen];exact aC _ (by omega)
     · simp [execOp,bI,resolve,he,Deferred.ofValue,invoke,uR _ g1 g2 g3]
  · cases h
 all_goals first
  |cases h
  |(split at h<;>cases h)
  |(split at h<;>(first|cases h|(split at h<;>first|cases h|(split at h<;>cases h))))
def Hf:Value→Option Bool
 | .bool b=>some b
 |_=>none
theorem Pt {v:Value} {x:R} {b z:Bool} {os:List Nat} (aA:uM x b=some z) (au:aF w lim v x os):(Hf v==some b)=z:=by
 unfold uM at aA
 split at aA
 · obtain rfl:=Option.some.inj aA
   cases au
   rename_i c
   cases c<;>rfl
 · obtain rfl:=Option.some.inj aA
   cases au
   rename_i c
   cases c<;>rfl
 · obtain rfl:=Option.some.inj aA
   cases au with
   |pr _ _ _ au=>
    cases au
    rename_i c
    cases c<;>rfl
   |mD=>rfl
 · obtain rfl:=Option.some.inj aA
   cases au with
   |pr _ _ _ au=>
    cases au
    rename_i c
    cases c<;>rfl
   |mD=>rfl
 · cases aA
theorem Pu {ops:Array Oper} {o:Oper} {j g:Nat} {b z:Bool} (a8:o.guard=some (j,b)) (ay:(ops[j]?).bind (·.dst)=some g) (st:bd F lim w n fr m ca bu) (aA:uM (a1 fr g) b=some z):
 Region.wanted o (yielded ops ca.tmps)=z:=by
 obtain ⟨os,b6,bA,h⟩:=st
 cases ba:fr.get g with
 |none=>simp [a1,ba,uM] at aA
 |some x=>
  simp only [a1,ba,Option.getD_some] at aA
  obtain ⟨bG,au⟩:=h.dX g _ ba
  have jI:g<ca.tmps.size:=by rw [h.size];exact bG
  have xl:ca.tmps[g]?=some (ca.tmps.getD g undef):=by
   rw [Array.getElem?_eq_getElem jI]
   simp [Array.getD,jI]
  have:=Pt aA au
  simp only [Region.wanted,a8,yielded,ay,Option.bind_some,xl]
  rw [←this]
  generalize ca.tmps.getD g undef=v
  cases v<;>rfl
theorem CD {ops:Array Oper} {o:Oper} {l:List Oper} {K:Fr→ad→Prop} {j g d:Nat} {b z:Bool} {x:R} (a8:o.guard=some (j,b)) (ay:(ops[j]?).bind (·.dst)=some g) (aY:o.dst=some d) (fl:d<n) (ag:uM (a1 fr g) b=some z)
 (fN:z=true→∀F lim w ca,bd F lim w n fr m ca []→∀(next:Act→World→Prop) Q,(∀v lim' w',bd F lim' w' n fr m ca []→aF w' lim' v x []→dc F w lim w' lim'→next (ca.put o.dst v) w')→o.wp P ca w next Q)
 (U:bQ P n ops l K (fr.put d (.lazy z x)) m):bQ P n ops (o::l) K fr m:=by
 intro F lim w ca Q st aO
 have hw:=Pu (ops:=ops) a8 ay st ag
 unfold wpList
 by_cases jh:z=true
 · rw [if_pos (by rw [hw];exact jh)]
   refine .inl (fN jh F lim w ca st _ _ fun v lim' w' s1 s2 fk=>?_)
   refine U.from aO ?_ fk
   rw [aY,jh]
   exact s1.set fl (.pr _ _ _ s2)
 · have aW:z=false:=by simpa using jh
   rw [if_neg (by rw [hw,aW];simp)]
   refine U.from aO ?_ (.refl _ _ _)
   rw [aY,aW]
   exact st.set fl (.mD _)
theorem xm {ops:Array Oper} {stl:List Nat} {o:Oper} {l:List Oper} {K:Fr→ad→Prop} (aj:eQ n o=true) (aL:gv n o=true) (h:oQ P ops stl o (bQ P n ops l K) fr m):bQ P n ops (o::l) K fr m:=by
 unfold oQ at h
 split at h
 · next a8=>
   refine bQ.step a8 fun F lim w ca st next Q qe=>?_
   split at h
   · next side ss m' x aH=>
     obtain ⟨v,w',lim',os,I,J,ai,aC⟩:=Cy (P:=P) aH h.1 st aj aL
     exact nk I (qe lim' w' _ _ _ h.2 (J.dR (fun t ao=>iJ aj ao) ai) aC)
   · next side ss m' aH=>
     obtain ⟨w',lim',I,J,ai⟩:=Pk (P:=P) aH h.1 st aj aL
     exact Ck I (qe lim' w' _ _ _ h.2 (J.dR (fun t ao=>iJ aj ao) (.aP _)) ai)
   · next side ss mk gu aH=>
     obtain ⟨v,w',b,I,J,ai,aC,aN⟩:=Pm (P:=P) aH h.1 st aj
     exact nk I (qe lim w' _ _ _ (h.2 b J) (ai.dR (fun t ao=>iJ aj ao) aC) aN)
   · next f args aH=>
     obtain ⟨cargs,I,J,ai⟩:=Ps (P:=P) aH st aj
     refine xj h st I J ai fun v x lim' w' m' os U c1 kU ee=>qe lim' w' (dR fr o.dst x) m' _ ?_ (kU.dR (fun t ao=>iJ aj ao) c1) ee
     unfold zn at U
     cases aY:o.dst<;>simpa [aY,dR] using U
   · exact h.elim
 · next j b a8=>
   split at h
   · next g d ay aY=>
     split at h
     · next c ag=>
       have fl:=iJ aj aY
       split at h
       · next f args bC bI=>
         obtain ⟨x,I,J⟩:=h
         refine CD a8 ay aY fl ag (fun jh F lim w ca st next Q qe=>?_) J
         rw [jh] at I
         have qd:=I rfl (fun bR m'=>bR=x∧m'=m) ⟨rfl,rfl⟩
         have ck:=uS (ca:=ca) (a:=rM (a1 fr) true o.op) (args:=args) (fun y aE=>zI st (hV aj y (by rw [bI];simp [Op.operands,Call.operands];exact .inr (by simpa using aE))))
         refine xj qd st ck.1 ck.2 (fun fn g1 g2 g3=>by simp [execOp,bI,resolve,Deferred.ofValue,Act.eval,invoke,uR _ g1 g2 g3]) fun v bR lim' w' m' os U c1 kU ee=>?_
         obtain ⟨rfl,rfl⟩:=U
         exact qe v lim' w' kU.drop c1.plain ee
       · next t args bC bI=>
         split at h
         · next f first n0 Hg=>
           obtain ⟨x,I,J⟩:=h
           refine CD a8 ay aY fl ag (fun jh F lim w ca st next Q qe=>?_) J
           rw [jh] at I Hg
           have qd:=I rfl (fun bR m'=>bR=x∧m'=m) ⟨rfl,rfl⟩
           have ck:=uS (ca:=ca) (a:=rM (a1 fr) true o.op) (args:=args) (fun y aE=>zI st (hV aj y (by rw [bI];simp [Op.operands,Call.operands];exact .inr (by simpa using aE))))
           have cE:=zI (op:=o.op) st (y:= .tmp t) rfl
           rw [Hg] at cE
           obtain ⟨fa,lG,he,bH,ho⟩:=Pr cE ck
           refine xj qd st bH ho (fun fn g1 g2 g3=>by simp [execOp,bI,resolve,he,Deferred.ofValue,invoke,uR _ g1 g2 g3]) fun v bR lim' w' m' os U c1 kU ee=>?_
           obtain ⟨rfl,rfl⟩:=U
           exact qe v lim' w' kU.drop c1.plain ee
         · exact h.elim
       · split at h
         · next side x aO=>
           refine CD a8 ay aY fl ag (fun jh F lim w ca st next Q qe=>?_) h.2
           rw [jh] at aO h
           obtain ⟨v,I,J⟩:=wV (P:=P) (w:=w) (lim:=lim) aO (h.1 rfl) (ca:=ca) (fun y aE=>zI st (hV aj y aE)) st.uK
           exact nk I (qe v lim w st J (.refl _ _ _))
         · exact h.elim
     · exact h.elim
   · exact h.elim
def iL (n:Nat) (ops:Array Oper) (ks:List Nat):Bool:=(ops.toList.all fun o=>eQ n o&&gv n o)&&ks.all fun t=>decide (t<n)
def Fr.init:Nat→List R→Fr
 |_,[]=>[]
 |i,x::r=>(i,x)::Fr.init (i+1) r
theorem Fr.Pv:∀(l:List R) (k t:Nat) (x:R),(Fr.init k l).get t=some x→k≤t∧t- k<l.length∧l.getD (t- k) .aP=x:=by
 intro l
 induction l with
 |nil=>intro k t x h;simp [Fr.init,Fr.get] at h
 |cons y l aQ=>
  intro k t x h
  simp only [Fr.init,Fr.get] at h
  by_cases e:k=t
  · subst e
    simp at h
    subst h
    simp
  · rw [if_neg e] at h
    obtain ⟨I,J,ai⟩:=aQ (k+1) t x h
    refine ⟨by omega,by simp;omega,?_⟩
    rw [show t- k=(t- (k+1))+1 from by omega,List.getD_cons_succ]
    exact ai
def l9 (P:Program) (fr:Fr) (m:ad):ResultVar→Option (Prop×R)
 | .tmp t=>some (True,a1 fr t)
 | .cell a t=>
   match a1 fr a with
   | .ptr ⟨b,off,none⟩=>
     match m b with
     |some (.cells l)=>some (jA P t l off,(apart P t l off).plain)
     |_=>none
   |_=>none
def uT (P:Program) (fn:Func) (fr:Fr) (m:ad) (K:R→ad→Prop):Prop:=
 match fn.results.toList with
 |[r]=>
  match l9 P fr m r with
  |some (side,x)=>side∧∃m',(∀b o,m' b=some o→m b=some o)∧K x m'
  |none=>False
 |[r,s]=>
  match l9 P fr m r,l9 P fr m s with
  |some (side,x),some (qf,y)=>side∧qf∧∃m',(∀b o,m' b=some o→m b=some o)∧K (.tuple [x,y.plain]) m'
  |_,_=>False
 |[r,s,t]=>
  match l9 P fr m r,l9 P fr m s,l9 P fr m t with
  |some (side,x),some (qf,y),some (xn,z)=>side∧qf∧xn∧∃m',(∀b o,m' b=some o→m b=some o)∧K (.tuple [x,y.plain,z.plain]) m'
  |_,_,_=>False
 |[]=>∃m',(∀b o,m' b=some o→m b=some o)∧K (.tuple []) m'
 |[r,s,t,u]=>
  match l9 P fr m r,l9 P fr m s,l9 P fr m t,l9 P fr m u with
  |some (side,x),some (qf,y),some (xn,z),some (Hh,a)=>side∧qf∧xn∧Hh∧∃m',(∀b o,m' b=some o→m b=some o)∧K (.tuple [x.plain,y.plain,z.plain,a.plain]) m'
  |_,_,_,_=>False
 |_=>False
def Pw (P:Program) (fn:Func) (K:R→ad→Prop):Exit→Fr→ad→Prop
 | .ret,fr,m| .normal,fr,m=>uT P fn fr m K
 |_,_,_=>False
end
end Go.bh
end
section
namespace Go.bh
open Go
section
variable {P:Program} {F:Nat→Prop} {lim:Nat→Nat} {w:World} {n:Nat} {fr:Fr} {m:ad} {ca:Act} {bu:List Nat}
theorem bd.toMem (h:bd F lim w n fr m ca bu):bd F lim w 0 [] m oP bu:=by
 obtain ⟨os,b6,bA,h⟩:=h
 exact ⟨os,b6,bA,rfl,rfl,fun t x ah=>by simp [Fr.get] at ah,h.mem,fun t x ah=>by simp [Fr.get] at ah,h.ds,h.fL,h.free,h.fresh⟩
theorem bd.defers (h:bd F lim w n fr m ca bu):ca.defers=[]:=by
 obtain ⟨os,b6,bA,h⟩:=h
 exact h.defers
theorem bd.Hi (h:bd F lim w n fr m ca []) (s:Nat):∃os,bd F lim w 0 [] m oP os∧aF w lim (ca.tmps.getD s undef) (a1 fr s) os:=by
 cases a8:fr.get s with
 |none=>exact ⟨[],h.toMem,by simp [a1,a8];exact .aP _⟩
 |some x=>
  obtain ⟨os,I,J⟩:=h.take a8
  exact ⟨os,I.toMem,by simpa [a1,a8] using J⟩
def n6 (P:Program) (tmps:Array Value) (w:World) (v:Value):ResultVar→Prop
 | .tmp t=>v=tmps.getD t undef
 | .cell a t=>∃p,tmps.getD a undef= .pointer (some p)∧(loadVar t p).run P w= .ok v w
theorem qg {r:ResultVar} {side:Prop} {x:R} (h:l9 P fr m r=some (side,x)) (al:side) (st:bd F lim w n fr m ca []):∃v os,n6 P ca.tmps w v r∧bd F lim w 0 [] m oP os∧aF w lim v x os:=by
 cases r with
 |tmp t=>
  obtain ⟨rfl,rfl⟩:=some_inj h
  obtain ⟨os,I,J⟩:=st.Hi t
  exact ⟨_,os,rfl,I,J⟩
 |cell a t=>
  simp only [l9] at h
  split at h
  · next b off lF=>
    split at h
    · next l hm=>
      obtain ⟨rfl,rfl⟩:=some_inj h
      obtain ⟨os,eI⟩:=st.uK b _ hm
      obtain ⟨cs,e,oss,px,b2,au⟩:=B9 eI
      have aB:ca.tmps.getD a undef= .pointer (some ⟨b,off,none⟩):=by
       obtain ⟨dS,_,J⟩:=st.Hi a
       rw [lF] at J
       exact oN J
      obtain ⟨v,I,J⟩:=wR (P:=P) (w:=w) (lim:=lim) (t:=t) (b:=b) (off:=0) (l:=R.fe l) (f:=fun i=>cs.getD i undef) (k:=off) (by simpa [jA,R.iI] using al)
       (fun i ab=>by
         have eH:i<cs.size:=by simpa [R.iI,b2] using ab
         simp [World.cell?,px,Array.getD,eH])
       (fun i ab=>by rw [oJ];exact (au i (by simpa [R.iI] using ab)).plain)
      simp only [Nat.zero_add] at I
      have:apart P t (R.fe l) off=(apart P t l off).plain:=by
       unfold apart
       split
       · simp [R.plain,R.iI,List.map_drop,List.map_take]
       · rw [oJ]
      exact ⟨v,[],⟨_,aB,I⟩,st.toMem,by rw [←this];exact J⟩
    · cases h
  · cases h
def CE (tmps:Array Value):ResultVar→Sem Value
 | .tmp t=>pure (tmps.getD t undef)
 | .cell a t=>do loadVar t (←asAddr (tmps.getD a undef))
theorem zJ (fn:Func) (tmps:Array Value):results fn tmps=(do let vs ←fn.results.mapM (CE tmps);pure (if h:vs.size=1 then vs[0] else .tuple vs):Sem Value):=by
 unfold results
 congr 1
theorem qh {tmps:Array Value} {v:Value} {r:ResultVar} (h:n6 P tmps w v r):(CE tmps r).run P w= .ok v w:=by
 cases r with
 |tmp t=>simp only [n6] at h;subst h;rfl
 |cell a t=>
  obtain ⟨p,I,J⟩:=h
  simp [CE,I,asAddr,J]
theorem Px {fn:Func} {tmps:Array Value} {r:ResultVar} {v:Value} (aW:fn.results.toList=[r]) (h:n6 P tmps w v r):(results fn tmps).run P w= .ok v w:=by
 have e:fn.results=#[r]:=by apply Array.ext';simpa using aW
 rw [zJ,e]
 simp [qh h]
theorem Py {fn:Func} {tmps:Array Value} {r s:ResultVar} {v u:Value} (aW:fn.results.toList=[r,s]) (h:n6 P tmps w v r) (k:n6 P tmps w u s):(results fn tmps).run P w= .ok (.tuple #[v,u]) w:=by
 have e:fn.results=#[r,s]:=by apply Array.ext';simpa using aW
 rw [zJ,e]
 simp [qh h,qh k]
theorem Pz {fn:Func} {tmps:Array Value} {r s t:ResultVar} {v u x:Value} (aW:fn.results.toList=[r,s,t]) (h:n6 P tmps w v r) (k:n6 P tmps w u s) (j:n6 P tmps w x t):(results fn tmps).run P w= .ok (.tuple #[v,u,x]) w:=by
 have e:fn.results=#[r,s,t]:=by apply Array.ext';simpa using aW
 rw [zJ,e]
 simp [qh h,qh k,qh j]
theorem PA {fn:Func} {tmps:Array Value} {r s t q:ResultVar} {v u x y:Value} (aW:fn.results.toList=[r,s,t,q]) (h:n6 P tmps w v r) (k:n6 P tmps w u s) (j:n6 P tmps w x t) (i:n6 P tmps w y q):(results fn tmps).run P w= .ok (.tuple #[v,u,x,y]) w:=by
 have e:fn.results=#[r,s,t,q]:=by apply Array.ext';simpa using aW
 rw [zJ,e]
 simp [qh h,qh k,qh j,qh i]
theorem PB {v u s t:Value} {x y z a:R} (h:aF w lim v x []) (k:aF w lim u y []) (j:aF w lim s z []) (l:aF w lim t a []):aF w lim (.tuple #[v,u,s,t]) (.tuple [x,y,z,a]) []:=by
 have:=aF.tuple (w:=w) (lim:=lim) #[v,u,s,t] [x,y,z,a] (fun _=>[]) (by simp) (fun i ab=>by
  have:i=0∨i=1∨i=2∨i=3:=by simp at ab;omega
  rcases this with rfl|rfl|rfl|rfl
  · exact h
  · exact k
  · exact j
  · exact l)
 rw [flatMap_nil] at this
 exact this
theorem PC {v u:Value} {x y:R} {os:List Nat} (h:aF w lim v x os) (k:aF w lim u y []):aF w lim (.tuple #[v,u]) (.tuple [x,y]) os:=by
 have:=aF.tuple (w:=w) (lim:=lim) #[v,u] [x,y] (fun i=>if i=0 then os else []) (by simp) (fun i ab=>by
  have:i=0∨i=1:=by simp at ab;omega
  rcases this with rfl|rfl
  · exact h
  · exact k)
 simpa [List.range_succ] using this
theorem PD {v u s:Value} {x y z:R} {os:List Nat} (h:aF w lim v x os) (k:aF w lim u y []) (j:aF w lim s z []):aF w lim (.tuple #[v,u,s]) (.tuple [x,y,z]) os:=by
 have:=aF.tuple (w:=w) (lim:=lim) #[v,u,s] [x,y,z] (fun i=>if i=0 then os else []) (by simp) (fun i ab=>by
  have:i=0∨i=1∨i=2:=by simp at ab;omega
  rcases this with rfl|rfl|rfl
  · exact h
  · exact k
  · exact j)
 simpa [List.range_succ] using this
theorem PE {fn:Func} {K:R→ad→Prop} (h:uT P fn fr m K) (st:bd F lim w n fr m ca []):
 ∃v x m' os,(results fn ca.tmps).run P w= .ok v w∧K x m'∧aF w lim v x os∧bd F lim w 0 [] m' oP os:=by
 unfold uT at h
 split at h
 · next r au=>
   split at h
   · next side x he=>
     obtain ⟨al,m',hm,U⟩:=h
     obtain ⟨v,os,I,J,ai⟩:=qg (P:=P) he al st
     exact ⟨v,x,m',os,Px au I,U,ai,J.rG hm⟩
   · exact h.elim
 · next r s au=>
   split at h
   · next side x qf y he qS=>
     obtain ⟨al,ti,m',hm,U⟩:=h
     obtain ⟨v,os,I,J,ai⟩:=qg (P:=P) he al st
     obtain ⟨u,dS,jW,jX,nq⟩:=qg (P:=P) qS ti st
     exact ⟨_,_,m',os,Py au I jW,U,PC ai nq.plain,J.rG hm⟩
   · exact h.elim
 · next r s t au=>
   split at h
   · next side x qf y xn z he qS CF=>
     obtain ⟨al,ti,CG,m',hm,U⟩:=h
     obtain ⟨v,os,I,J,ai⟩:=qg (P:=P) he al st
     obtain ⟨u,dS,jW,jX,nq⟩:=qg (P:=P) qS ti st
     obtain ⟨s,PF,CH,PG,CI⟩:=qg (P:=P) CF CG st
     exact ⟨_,_,m',os,Pz au I jW CH,U,PD ai nq.plain CI.plain,J.rG hm⟩
   · exact h.elim
 · next au=>
   obtain ⟨m',hm,U⟩:=h
   have e:fn.results=#[]:=by apply Array.ext';simpa using au
   refine ⟨.tuple #[],_,m',[],?_,U,?_,st.toMem.rG hm⟩
   · simp [results,e]
   · have:=aF.tuple (w:=w) (lim:=lim) #[] [] (fun _=>[]) rfl (fun i ab=>by simp at ab)
     simpa using this
 · next r s t q au=>
   split at h
   · next side x qf y xn z Hh a he qS CF PH=>
     obtain ⟨al,ti,CG,pJ,m',hm,U⟩:=h
     obtain ⟨v,os,I,J,ai⟩:=qg (P:=P) he al st
     obtain ⟨u,dS,jW,jX,nq⟩:=qg (P:=P) qS ti st
     obtain ⟨s,PF,CH,PG,CI⟩:=qg (P:=P) CF CG st
     obtain ⟨t,Z5,i1,i2,i3⟩:=qg (P:=P) PH pJ st
     exact ⟨_,_,m',[],PA au I jW CH i1,U,PB ai.plain nq.plain CI.plain i3.plain,st.toMem.rG hm⟩
   · exact h.elim
 · exact h.elim
theorem oS {f:FuncId} {fn:Func} {c:Code} {args:List R} {K:R→ad→Prop} (aW:P.funcs[f]?=some fn) (ae:fn.body=some c) (CJ:(fn.name== "runtime.NumGoroutine")=false) (jU:args.length≤fn.ntmps)
 (h:b7 P fn.ntmps c (Pw P fn K) (Fr.init 0 args) m):bn P f args m K:=by
 refine ⟨⟨fn,aW,by rw [ae];rfl,CJ⟩,fun F lim w cargs al au st=>calls_of_wp aW ae ?_⟩
 have fM:bd F lim w fn.ntmps (Fr.init 0 args) m {tmps:=cargs++Array.replicate (fn.ntmps- cargs.size) undef,defers:=[]} []:=by
  obtain ⟨os,b6,bA,k⟩:=st
  refine ⟨fun _=>[],b6,bA,by simp;omega,rfl,fun t x ah=>?_,k.mem,fun t x ah=>by simp,k.ds,k.fL,k.free,k.fresh⟩
  obtain ⟨_,I,J⟩:=Fr.Pv args 0 t x ah
  simp only [Nat.sub_zero] at I J
  refine ⟨by omega,?_⟩
  have e:(cargs++Array.replicate (fn.ntmps- cargs.size) undef).getD t undef=cargs.getD t undef:=by
   simp [Array.getD_eq_getD_getElem?,Array.getElem?_append,show t<cargs.size from by omega]
  rw [e,←J]
  exact au t I
 refine wp_mono (h F lim w _ fM) fun e a w' ⟨lim',bb,m',q,s1,dL⟩=>?_
 have Hj:uT P fn bb m' K→a.defers=[]∧∃v,(results fn a.tmps).run P w'= .ok v w'∧∃fX x lim' m' os,Ending.returned v= .returned fX∧K x m'∧aF w' lim' fX x os∧bd F lim' w' 0 [] m' oP os∧dc F w lim w' lim':=fun q=>by
  obtain ⟨v,x,nj,os,I,J,ai,aC⟩:=PE q s1
  exact ⟨s1.defers,v,I,v,x,lim',nj,os,rfl,J,ai,aC,dL⟩
 cases e with
 |ret=>exact Hj q
 |normal=>exact Hj q
 |_=>exact q.elim
end
end Go.bh
end
section
namespace Go.bh
open Go
section
variable {P:Program}
theorem PI {m:ad} {a cw:Operand→R}:∀(op:Op),(∀y∈op.operands.toList,a y=cw y)→bw P m a op=bw P m cw op:=by
 intro op h
 cases op with
 |call c=>
  obtain ⟨Ce,args,bC⟩:=c
  cases Ce with
  |builtin b=>
   have cb:∀y∈args.toList,a y=cw y:=fun y aE=>h y (by simpa [Op.operands,Call.operands] using aE)
   cases b with
   |len=>
    simp only [bw]
    cases ah:args[0]? with
    |none=>rfl
    |some x=>
     have:=cb x (by rw [Array.mem_toList_iff];exact Array.mem_of_getElem? ah)
     cases bC[0]?<;>simp only [this]
   |max=>
    simp only [bw]
    split
    · next x y qi=>rw [cb x (by rw [qi];simp),cb y (by rw [qi];simp)]
    · rfl
   |min=>
    simp only [bw]
    split
    · next x y qi=>rw [cb x (by rw [qi];simp),cb y (by rw [qi];simp)]
    · rfl
   |_=>rfl
  |_=>rfl
 |slice t x bD ab wW=>
  cases wW with
  |some z=>rfl
  |none=>
   have ax:bD.map a=bD.map cw:=by cases bD with
    |none=>rfl
    |some y=>simp [h y (by simp [Op.operands])]
   have aI:ab.map a=ab.map cw:=by cases ab with
    |none=>rfl
    |some y=>simp [h y (by simp [Op.operands])]
   simp only [bw,ax,aI,h x (by simp [Op.operands])]
 |typeAssert x t u ok=>cases ok<;>simp [bw,h x (by simp [Op.operands])]
 |pick c x y=>simp only [bw,h c (by simp [Op.operands]),h x (by simp [Op.operands]),h y (by simp [Op.operands])]
 |binOp op t x y t2=>simp only [bw,h x (by simp [Op.operands]),h y (by simp [Op.operands])]
 |indexAddr t x y=>simp only [bw,h x (by simp [Op.operands]),h y (by simp [Op.operands])]
 |index t x y=>simp only [bw,h x (by simp [Op.operands]),h y (by simp [Op.operands])]
 |move x=>simp only [bw,h x (by simp [Op.operands])]
 |assign x=>simp only [bw,h x (by simp [Op.operands])]
 |load t x=>simp only [bw,h x (by simp [Op.operands])]
 |nilCheck x=>simp only [bw,h x (by simp [Op.operands])]
 |unOp op t x=>simp only [bw,h x (by simp [Op.operands])]
 |convert s d x=>simp only [bw,h x (by simp [Op.operands])]
 |makeInterface t x=>simp only [bw,h x (by simp [Op.operands])]
 |fieldAddr t x f=>simp only [bw,h x (by simp [Op.operands])]
 |field t x f=>simp only [bw,h x (by simp [Op.operands])]
 |extract x i=>simp only [bw,h x (by simp [Op.operands])]
 |_=>rfl
def tmpsOf (op:Op):List Nat:=op.operands.toList.flatMap nZ
def slotsOf (ops:Array Oper) (o:Oper):List Nat:=
 (match o.guard with
 |some (j,_)=>(match (ops[j]?).bind (·.dst) with|some g=>[g]|none=>[])
 |none=>[])++tmpsOf o.op
theorem uU {raw jY:Nat→R} {op:Op} (h:∀t∈tmpsOf op,raw t=jY t):∀y∈op.operands.toList,bx raw y=bx jY y:=by
 intro y aE
 cases y with
 |tmp t=>simp only [bx,h t (List.mem_flatMap.2 ⟨_,aE,by simp [nZ]⟩)]
 |_=>rfl
def rV:R→Bool→Option Bool
 | .bool c,true=>some c
 | .bool c,false=>some (!c)
 | .lazy false _,_=>some false
 |_,_=>none
def eW (ops:Array Oper) (fr:Fr):Option (Nat×Bool)→Option Bool
 |none=>some true
 |some (j,b)=>
  match (ops[j]?).bind (·.dst) with
  |some g=>rV (a1 fr g) b
  |none=>none
def kt (P:Program) (m:ad) (c:R) (raw:Nat→R) (o:Oper):Option (Prop×R):=
 match o.op with
 | .call ⟨.value (.func f),args,_⟩=>some (uL P f (args.toList.map (bx raw)) m c,c.plain)
 | .buildSlice t len parts=>
   match eo P m raw [] o.dst (.buildSlice t len parts) with
   | .val side [] _ x=>some (side,x.plain)
   |_=>none
 | .build t parts=>
   match eo P m raw [] o.dst (.build t parts) with
   | .val side [] _ x=>some (side,x.plain)
   |_=>none
 | .pick b x y=>
   match bx raw b with
   | .bool true=>some (True,bx raw x)
   | .bool false=>some (True,bx raw y)
   |_=>none
 |op=>bw P m (bx raw) op
def pv (P:Program) (ops:Array Oper) (m:ad) (c:R) (raw:Nat→R) (o:Oper):Option (Prop×R):=
 match o.guard with
 |none=>kt P m c raw o
 |some (j,b)=>
  match (ops[j]?).bind (·.dst) with
  |some g=>
   match rV (raw g) b with
   |some true=>kt P m c raw o
   |some false=>some (True, .lazy false .aP)
   |none=>none
  |none=>none
theorem Hk {m:ad} {c:R} {raw jY:Nat→R} {o:Oper} (ao:∀t∈tmpsOf o.op,raw t=jY t):kt P m c raw o=kt P m c jY o:=by
 unfold kt
 split
 · next f args bC bI=>
   have:args.toList.map (bx raw)=args.toList.map (bx jY):=List.map_congr_left fun y aE=>uU ao y (by rw [bI];simp [Op.operands,Call.operands];exact .inr (by simpa using aE))
   rw [this]
 · next t len parts bI=>
   have aB:∀q∈parts.toList,bx raw q.2=bx jY q.2:=fun q aO=>uU ao q.2 (by rw [bI];simp [Op.operands];exact ⟨q.1,by simpa using aO⟩)
   have:eo P m raw [] o.dst (.buildSlice t len parts)=eo P m jY [] o.dst (.buildSlice t len parts):=by
    simp only [eo]
    split
    · rfl
    split
    · have ax:(parts.toList.map fun p=>bx raw p.2)=parts.toList.map fun p=>bx jY p.2:=List.map_congr_left aB
      have aI:(∀q∈parts.toList,(bx raw q.2).eg=true∧(bx raw q.2).cells.length=P.cellsOf ‹TypeId›)=(∀q∈parts.toList,(bx jY q.2).eg=true∧(bx jY q.2).cells.length=P.cellsOf ‹TypeId›):=by
       apply propext
       constructor
       · intro h q aO;rw [←aB q aO];exact h q aO
       · intro h q aO;rw [aB q aO];exact h q aO
      rw [ax,aI]
    · rfl
   rw [this]
 · next t parts bI=>
   have aB:∀q∈parts.toList,bx raw q.2=bx jY q.2:=fun q aO=>uU ao q.2 (by rw [bI];simp [Op.operands];exact ⟨q.1,by simpa using aO⟩)
   have:eo P m raw [] o.dst (.build t parts)=eo P m jY [] o.dst (.build t parts):=by
    simp only [eo]
    split
    · rfl
    split
    · have ax:(parts.toList.map fun p=>(p.1,bx raw p.2))=parts.toList.map fun p=>(p.1,bx jY p.2):=List.map_congr_left fun q aO=>by rw [aB q aO]
      have aI:(∀q∈parts.toList,(bx raw q.2).eg=true)=(∀q∈parts.toList,(bx jY q.2).eg=true):=by
       apply propext
       constructor
       · intro h q aO;rw [←aB q aO];exact h q aO
       · intro h q aO;rw [aB q aO];exact h q aO
      rw [ax,aI]
    · rfl
   rw [this]
 · next b x y bI=>
   have e:∀q∈[b,x,y],bx raw q=bx jY q:=fun q aO=>uU ao q (by rw [bI];simpa [Op.operands] using aO)
   rw [e b (by simp),e x (by simp),e y (by simp)]
 · exact PI _ (uU ao)
theorem Hl {ops:Array Oper} {m:ad} {c:R} {raw jY:Nat→R} {o:Oper} (h:∀t∈slotsOf ops o,raw t=jY t):pv P ops m c raw o=pv P ops m c jY o:=by
 have ao:∀t∈tmpsOf o.op,raw t=jY t:=fun t ao=>h t (List.mem_append.2 (.inr ao))
 unfold pv
 cases a8:o.guard with
 |none=>exact Hk ao
 |some CK=>
  obtain ⟨j,b⟩:=CK
  simp only
  cases ay:(ops[j]?).bind (·.dst) with
  |none=>rfl
  |some g=>
   have PJ:raw g=jY g:=h g (by simp [slotsOf,a8,ay])
   simp only [PJ,Hk ao]
def hN (P:Program) (ops:Array Oper) (m:ad):List R→List Oper→Fr→(Fr→Prop)→Prop
 |_,[],fr,K=>K fr
 |cs,o::r,fr,K=>
  match pv P ops m (cs.headD .aP) (a1 fr) o with
  |some (side,x)=>side∧hN P ops m (match o.op with| .call ⟨.value (.func _),_,_⟩=>cs.tail|_=>cs) r (dR fr o.dst x) K
  |none=>False
theorem PK {ops:Array Oper} {m:ad}:∀(l:List Oper) (cs:List R) (fr:Fr) (K:Fr→Prop),hN P ops m cs l fr K→∃(T:Nat→Fr) (c:Nat→R) (val:Nat→R),T 0=fr∧K (T l.length)∧
 ∀i o,l[i]?=some o→(∃side,pv P ops m (c i) (a1 (T i)) o=some (side,val i)∧side)∧T (i+1)=dR (T i) o.dst (val i):=by
 intro l
 induction l with
 |nil=>intro cs fr K h;exact ⟨fun _=>fr,fun _=> .aP,fun _=> .aP,rfl,h,fun i o ab=>by simp at ab⟩
 |cons o l aQ=>
  intro cs fr K h
  simp only [hN] at h
  split at h
  · next side x aB=>
    obtain ⟨al,h⟩:=h
    obtain ⟨T,c,val,I,J,ai⟩:=aQ _ _ K h
    refine ⟨fun i=>match i with|0=>fr|i+1=>T i,fun i=>match i with|0=>cs.headD .aP|i+1=>c i,fun i=>match i with|0=>x|i+1=>val i,rfl,J,fun i dn ab=>?_⟩
    cases i with
    |zero=>simp at ab;subst ab;exact ⟨⟨side,aB,al⟩,I⟩
    |succ i=>exact ai i dn (by simpa using ab)
  · exact h.elim
def uV (o:Oper) (j:Nat):Bool:=o.after.toList.any fun e=>e.on==j&&Region.binds .any e
def CL (ops:Array Oper):Bool:=
 (ops.toList.all fun o=>o.dst.isSome)&&
 (List.range ops.size).all fun i=>
   match ops[i]? with
   |some o=>
    (o.after.toList.all fun e=>!Region.binds .any e||decide (e.on<i))&&
    (List.range ops.size).all fun j=>
      match ops[j]? with
      |some p=>
       (decide (i=j)||!(o.dst==p.dst))&&
       (match p.dst with
       |some d=>!((slotsOf ops o).contains d)||(if j<i then uV o j else if i<j then uV p i else true)
       |none=>true)
      |none=>true
   |none=>true
variable {F:Nat→Prop} {lim:Nat→Nat} {w:World} {n:Nat} {fr:Fr} {m:ad} {ca:Act} {bu:List Nat}
theorem PL {f:FuncId} {args:List R} {x:R} (ag:uL P f args m x) (st:bd F lim w n fr m ca []) {cargs:Array Value} (al:cargs.size=args.length) (au:∀i,i<args.length→aF w lim (cargs.getD i undef) (args.getD i .aP) [])
 {o:Oper} {next:Act→World→Prop} {Q:Exit→Act→World→Prop} (he:∀fn,P.funcs[f]?=some fn→fn.body.isSome=true→(fn.name== "runtime.NumGoroutine")=false→(execOp ca.eval o).run P w= .ok (.enter f cargs) w)
 (aL:∀v lim' w',bd F lim' w' n fr m ca []→aF w' lim' v x.plain []→dc F w lim w' lim'→next (ca.put o.dst v) w'):o.wp P ca w next Q:=
 xj (ag (fun bR m'=>bR=x∧m'=m) ⟨rfl,rfl⟩) st al au he fun v bR lim' w' m' os U c1 kU ee=>by
  obtain ⟨rfl,rfl⟩:=U
  exact aL v lim' w' kU.drop c1.plain ee
theorem Hm {v:Value} {x:R} {b z:Bool} {os:List Nat} (aA:rV x b=some z) (au:aF w lim v x os):(Hf v==some b)=z:=by
 unfold rV at aA
 split at aA
 · obtain rfl:=Option.some.inj aA
   cases au
   rename_i c
   cases c<;>rfl
 · obtain rfl:=Option.some.inj aA
   cases au
   rename_i c
   cases c<;>rfl
 · obtain rfl:=Option.some.inj aA
   cases au with
   |mD=>rfl
 · cases aA
theorem Hn {ops:Array Oper} {o:Oper} {j g:Nat} {b z:Bool} (a8:o.guard=some (j,b)) (ay:(ops[j]?).bind (·.dst)=some g) (st:bd F lim w n fr m ca bu) (aA:rV (a1 fr g) b=some z):
 Region.wanted o (yielded ops ca.tmps)=z:=by
 obtain ⟨os,b6,bA,h⟩:=st
 cases ba:fr.get g with
 |none=>simp [a1,ba,rV] at aA
 |some x=>
  simp only [a1,ba,Option.getD_some] at aA
  obtain ⟨bG,au⟩:=h.dX g _ ba
  have jI:g<ca.tmps.size:=by rw [h.size];exact bG
  have xl:ca.tmps[g]?=some (ca.tmps.getD g undef):=by
   rw [Array.getElem?_eq_getElem jI]
   simp [Array.getD,jI]
  have:=Hm aA au
  simp only [Region.wanted,a8,yielded,ay,Option.bind_some,xl]
  rw [←this]
  generalize ca.tmps.getD g undef=v
  cases v<;>rfl
theorem PM {o:Oper} {c:R} {side:Prop} {x:R} (aj:eQ n o=true) (aL:gv n o=true) (h:kt P m c (a1 fr) o=some (side,x)) (al:side) (st:bd F lim w n fr m ca [])
 {next:Act→World→Prop} {Q:Exit→Act→World→Prop} (lH:∀v lim' w',bd F lim' w' n fr m ca []→aF w' lim' v x []→dc F w lim w' lim'→(∀s,o.op= .move (.tmp s)→v=ca.tmps.getD s undef)→next (ca.put o.dst v) w'):o.wp P ca w next Q:=by
 have ft:=hV aj
 unfold kt at h
 split at h
 · next f args bC bI=>
   replace lH:∀v lim' w',bd F lim' w' n fr m ca []→aF w' lim' v x []→dc F w lim w' lim'→next (ca.put o.dst v) w':=fun v lim' w' I J ai=>lH v lim' w' I J ai fun s al=>by rw [bI] at al;cases al
   obtain ⟨rfl,rfl⟩:=some_inj h
   have ck:=uS (ca:=ca) (a:=bx (a1 fr)) (args:=args) (fun y aE=>ff st (ft y (by rw [bI];simp [Op.operands,Call.operands];exact .inr (by simpa using aE))))
   exact PL al st ck.1 ck.2 (fun fn g1 g2 g3=>by simp [execOp,bI,resolve,Deferred.ofValue,Act.eval,invoke,uR _ g1 g2 g3]) lH
 · next t len parts bI=>
   split at h
   · next qf m' bR aH=>
     obtain ⟨rfl,rfl⟩:=some_inj h
     rw [←bI] at aH
     have xo:m'=m:=by
      rw [bI] at aH
      simp only [eo] at aH
      split at aH
      · cases aH
      split at aH
      · injection aH with _ _ e;exact e.symm
      · cases aH
     subst xo
     obtain ⟨v,w',lim',os,I,J,ai,aC⟩:=Cy (P:=P) aH al st aj aL
     exact nk I (lH v lim' w' J.drop ai.plain aC fun s al=>by rw [bI] at al;cases al)
   · cases h
 · next t parts bI=>
   split at h
   · next qf m' bR aH=>
     obtain ⟨rfl,rfl⟩:=some_inj h
     rw [←bI] at aH
     have xo:m'=m:=by
      rw [bI] at aH
      simp only [eo] at aH
      split at aH
      · cases aH
      split at aH
      · split at aH
        · injection aH with _ _ e;exact e.symm
        · cases aH
      · cases aH
     subst xo
     obtain ⟨v,w',lim',os,I,J,ai,aC⟩:=Cy (P:=P) aH al st aj aL
     exact nk I (lH v lim' w' J.drop ai.plain aC fun s al=>by rw [bI] at al;cases al)
   · cases h
 · next c7 bR p6 bI=>
   have Ho:∀(rW:Bool),bx (a1 fr) c7= .bool rW→x=bx (a1 fr) (if rW then bR else p6)→o.wp P ca w next Q:=by
    intro rW ae ah
    have CM:=ff st (ft c7 (by rw [bI];simp [Op.operands]))
    rw [ae] at CM
    have PN:ca.eval c7= .bool rW:=by
     generalize ca.eval c7=v at CM
     cases CM
     rfl
    have xp:=ff st (ft (if rW then bR else p6) (by rw [bI];cases rW<;>simp [Op.operands]))
    rw [←ah] at xp
    refine nk (v:=ca.eval (if rW then bR else p6)) ?_ (lH _ lim w st xp (.refl _ _ _) fun s al=>by rw [bI] at al;cases al)
    cases rW<;>simp [execOp,bI,PN,asBool]
   split at h
   · next ae=>obtain ⟨rfl,rfl⟩:=some_inj h;exact Ho true ae rfl
   · next ae=>obtain ⟨rfl,rfl⟩:=some_inj h;exact Ho false ae rfl
   · cases h
 · obtain ⟨v,I,J⟩:=wV (P:=P) (w:=w) (lim:=lim) h al (ca:=ca) (fun y aE=>ff st (ft y aE)) st.uK
   exact nk I (lH v lim w st J (.refl _ _ _) fun s al=>by
    rw [execOp,al] at I
    simp only [Sem.run_pure,Result.ok.injEq] at I
    have:=I.1
    injection this with this
    rw [←this];rfl)
theorem Hp {ops:Array Oper} {o:Oper} {c:R} {side:Prop} {x:R} {d:Nat} (aj:eQ n o=true) (aL:gv n o=true) (h:pv P ops m c (a1 fr) o=some (side,x)) (al:side) (aY:o.dst=some d) (st:bd F lim w n fr m ca [])
 {next:Act→World→Prop} {Q:Exit→Act→World→Prop} (aO:∀lim' w' v,bd F lim' w' n (fr.put d x) m (ca.put o.dst v) []→dc F w lim w' lim'→(∀s,o.op= .move (.tmp s)→o.guard=none→v=ca.tmps.getD s undef)→next (ca.put o.dst v) w'):
 if Region.wanted o (yielded ops ca.tmps) then o.wp P ca w next Q∨(o.asks P ca w∧LetsOut Q) else next (ca.put o.dst undef) w:=by
 have fl:=iJ aj aY
 have run:kt P m c (a1 fr) o=some (side,x)→o.wp P ca w next Q:=fun h=>PM aj aL h al st fun v lim' w' I J ai aC=>aO lim' w' _ (by rw [aY];exact I.set fl J) ai fun s al _=>aC s al
 unfold pv at h
 split at h
 · next a8=>
   rw [if_pos (by simp [Region.wanted,a8])]
   exact .inl (run h)
 · next j b a8=>
   split at h
   · next g ay=>
     split at h
     · next aA=>
       rw [if_pos (Hn a8 ay st aA)]
       exact .inl (run h)
     · next aA=>
       rw [Hn a8 ay st aA,if_neg (by simp)]
       obtain ⟨rfl,rfl⟩:=some_inj h
       refine aO lim w _ ?_ (.refl _ _ _) fun s _ zK=>by rw [a8] at zK;cases zK
       rw [aY];exact st.set fl (.mD _)
     · cases h
   · cases h
end
end Go.bh
end
section
namespace Go.bh
open Go
theorem filter_lt {α:Type} (p gr:α→Bool) (Hq:∀x,gr x=true→p x=true):∀(l:List α) (i:α),i∈l→p i=true→gr i=false→(l.filter gr).length<(l.filter p).length:=by
 have hle:∀l:List α,(l.filter gr).length≤(l.filter p).length:=fun l=>by
  induction l with
  |nil=>simp
  |cons x l aQ=>
   simp only [List.filter_cons]
   cases I:gr x with
   |true=>simp [Hq x I];exact aQ
   |false=>cases J:p x<;>simp<;>omega
 intro l
 induction l with
 |nil=>intro i ab;cases ab
 |cons x l aQ=>
  intro i ab I J
  simp only [List.filter_cons]
  rcases List.mem_cons.1 ab with rfl|ab
  · simp [I,J]
    have:=hle l;omega
  · have:=aQ i ab I J
    cases ai:gr x with
    |true=>simp [Hq x ai];exact this
    |false=>cases aC:p x<;>simp<;>omega
section
variable {P:Program} {n:Nat} {fr:Fr} {m:ad}
structure Hr (ops:Array Oper):Prop where
 dst:∀(i:Nat) (o:Oper),ops[i]?=some o→∃d,o.dst=some d
 back:∀(i:Nat) (o:Oper) (e:Edge),ops[i]?=some o→e∈o.after→Region.binds .any e=true→e.on<i
 apart:∀(i j:Nat) (o p:Oper),ops[i]?=some o→ops[j]?=some p→o.dst=p.dst→i=j
 looks:∀(i j:Nat) (o p:Oper) (d:Nat),ops[i]?=some o→ops[j]?=some p→p.dst=some d→d∈slotsOf ops o→(j<i→∃e∈o.after,e.on=j∧Region.binds .any e=true)∧(i<j→∃e∈p.after,e.on=i∧Region.binds .any e=true)
theorem zL {o:Oper} {j:Nat} (h:uV o j=true):∃e∈o.after,e.on=j∧Region.binds .any e=true:=by
 simp only [uV,List.any_eq_true] at h
 obtain ⟨e,I,J⟩:=h
 simp only [Bool.and_eq_true,beq_iff_eq] at J
 exact ⟨e,by simpa using I,J.1,J.2⟩
theorem PO {ops:Array Oper} (h:CL ops=true):Hr ops:=by
 simp only [CL,Bool.and_eq_true,List.all_eq_true,List.mem_range] at h
 obtain ⟨I,J⟩:=h
 have bG:∀{i:Nat} {o:Oper},ops[i]?=some o→i<ops.size:=fun ab=>(Array.getElem?_eq_some_iff.1 ab).1
 refine ⟨fun i o ab=>?_,fun i o e ab he ae=>?_,fun i j o p ab ay aY=>?_,fun i j o p d ab ay aB aY=>?_⟩
 · have:=I o (by rw [Array.mem_toList_iff];exact Array.mem_of_getElem? ab)
   exact Option.isSome_iff_exists.1 this
 · have:=J i (bG ab)
   simp only [ab,Bool.and_eq_true,List.all_eq_true] at this
   have:=this.1 e (by simpa using he)
   simpa [ae] using this
 · have:=J i (bG ab)
   simp only [ab,Bool.and_eq_true,List.all_eq_true,List.mem_range] at this
   have:=this.2 j (bG ay)
   simp only [ay,Bool.and_eq_true,Bool.or_eq_true,decide_eq_true_eq] at this
   rcases this.1 with h|h
   · exact h
   · rw [aY] at h;simp at h
 · have:=J i (bG ab)
   simp only [ab,Bool.and_eq_true,List.all_eq_true,List.mem_range] at this
   have:=this.2 j (bG ay)
   simp only [ay,aB,Bool.and_eq_true,Bool.or_eq_true] at this
   have:=this.2
   have ag:(slotsOf ops o).contains d=true:=by simpa using aY
   rw [ag] at this
   simp only [Bool.not_true,Bool.false_eq_true,false_or] at this
   refine ⟨fun iM=>?_,fun hH=>?_⟩
   · rw [if_pos iM] at this;exact zL this
   · rw [if_neg (by omega),if_pos hH] at this;exact zL this
theorem uW (fr:Fr) (d t:Nat) (x:R):a1 (fr.put d x) t=if d=t then x else a1 fr t:=by
 simp only [a1,Fr.qC]
 split<;>rfl
def Fr.Hs (t:Nat) (x:R):Fr→Fr
 |[]=>[]
 |(s,y)::r=>if s=t then (s,x)::r else (s,y)::Fr.Hs t x r
def Fr.over (fr:Fr):List (Nat×R)→Fr
 |[]=>fr
 |(t,x)::r=>Fr.over (Fr.Hs t x fr) r
end
end Go.bh
end
section
namespace Go.bh
open Go Go.RowKit Go.WideShapes Go.ChangeShapes
def ma (W:World) (b:Nat):Nat:=match W.heap[b]? with
 |some (.cells cs _ _)=>cs.size
 |_=>0
section
variable {P:Program}
theorem PQ {W:World} {b o:Nat} {v:Value} (h:W.cell? ⟨b,o,none⟩=some v):o<ma W b:=by
 unfold World.cell? at h
 unfold ma
 split at h
 · next cs e Ht ae=>
   rw [ae]
   simp only at h ⊢
   exact (Array.getElem?_eq_some_iff.1 h).1
 · cases h
end
section
variable {H:Type} {enc:TypeId×Value→H} {P:Program}
theorem PR {f:Func} {s:ChangeSpec} {apart fresh handsOn again:Bool} {W mb:World} {args:Array Value} {v:Value} {fC gs:List (DataW H)} {before pa pv:List MemPlace}
 (qj:DataW.Whole enc P f.params.toList s.vars apart W args.toList fC gs before)
 (xq:∀(b:Nat) (sp:Nat→Bool) (aY:Bool),DataW.TrodAll enc P mb b sp aY f.resultTypes.toList (v.resultList f.resultTypes.size) (s.fn H (fC++gs)).results [])
 (jU:∀sp:Nat→Bool,(∀p∈before,sp p.block=true)→DataW.TrodAll enc P mb 0 sp true f.params.toList args.toList (s.fn H (fC++gs)).args pa)
 (xr:∀sp:Nat→Bool,(∀p∈before,sp p.block=true)→DataW.TrodVars enc P mb sp s.vars (s.fn H (fC++gs)).vars pv)
 (qk:before=pa++pv) (ae:Below W.heap.size W mb)
 (cO:∀(j:Nat) (t:TypeId) (r:Value),f.resultTypes[j]?=some t→(v.resultList f.resultTypes.size)[j]?=some r→Value.okWide P mb .any 0 t r):
 s.post enc P f apart fresh handsOn again W args v mb:=by
 have bG:∀p∈before,p.block<W.heap.size:=fun p aB=>qj.lt p aB
 have hold:∀p∈before,(fun b=>decide (b<W.heap.size)) p.block=true:=fun p aB=>by simpa using bG p aB
 refine ⟨fC,gs,before,[],pa,pv,qj,xq _ _ _,jU _ hold,xr _ hold,World.keptBut_mono (fun p aB=>⟨aB,?_⟩) (ae.frame (· ∈before)),fun _=>?_⟩
 · rw [qk,List.mem_append] at aB
   exact Or.inr aB
 · obtain ⟨_,_,_,_,_,aA,aL⟩:=qj
   refine ⟨cO,_,_,([]++pa)++pv,⟨[]++pa,pv,trodAll_append (jU _ (fun _ _=>rfl)) (xq _ _ _),xr _ (fun _ _=>rfl),rfl,?_,?_⟩,?_⟩
   · intro b off aB
     have hW:MemPlace.cell b off∈before:=by rw [qk];simpa using aB
     rw [ae.frozen (bG _ hW)]
     exact aA b off hW
   · intro aH
     have:=aL aH
     rw [qk] at this
     simpa using this
   · intro p aB _
     rw [qk]
     simpa using aB
def zM (P:Program) (bC:List TypeId):Bool:=bC.all fun t=>P.readableRec t&&decide (t<P.types.size)
theorem Hu (ar:laidOutB P=true) {W mb:World} (ae:Below W.heap.size W mb) {sp:Nat→Bool}:∀{bC:List TypeId} {vs:List Value} {fC:List (DataW H)} {ps:List MemPlace},zM P bC=true→
 DataW.TrodAll enc P W 0 (fun _=>true) true bC vs fC ps→(∀p∈ps,p.block<W.heap.size)→(∀p∈ps,sp p.block=true)→DataW.TrodAll enc P mb 0 sp true bC vs fC ps
 |[],[],[],_,_,h,_,_=>h
 |t::bC,v::vs,d::fC,ps,aB,h,bG,mc=>by
  obtain ⟨p,q,I,J,rfl⟩:=h
  simp only [zM,List.all_cons,Bool.and_eq_true,decide_eq_true_eq] at aB
  exact ⟨p,q,WideElems.Trod_stays ar aB.1.1 aB.1.2 I (fun x ah=>ae.same (bG x (by simp [ah]))) (fun x ah=>mc x (by simp [ah])),
   Hu ar ae (by simpa [zM] using aB.2) J (fun x ah=>bG x (by simp [ah])) (fun x ah=>mc x (by simp [ah])),rfl⟩
 |[],_::_,_,_,_,h,_,_=>h.elim
 |[],[],_::_,_,_,h,_,_=>h.elim
 |_::_,[],_,_,_,h,_,_=>h.elim
 |_::_,_::_,[],_,_,h,_,_=>h.elim
theorem PS {f:Func} {s:ChangeSpec} {tb:TypeId} {apart fresh handsOn again:Bool} (xr:s.vars=[]) (xq:f.resultTypes=#[tb]) (Hv:P.underlying tb=some .bool) (ar:laidOutB P=true)
 (PT:zM P f.params.toList=true) {W mb:World} {args:Array Value} {fC gs:List (DataW H)} {before:List MemPlace}
 (qj:DataW.Whole enc P f.params.toList s.vars apart W args.toList fC gs before) (xt:s.fn H (fC++gs)={results:=[.lit (.bool true)],args:=fC}) (ae:Below W.heap.size W mb):
 s.post enc P f apart fresh handsOn again W args (.bool true) mb:=by
 have bG:∀p∈before,p.block<W.heap.size:=fun p aB=>qj.lt p aB
 have zN:=qj
 obtain ⟨p,q,ck,oT,rfl,Hw,l6⟩:=zN
 rw [xr] at oT
 have PU:gs=[]∧q=[]:=by
  cases gs with
  |nil=>exact ⟨rfl,oT⟩
  |cons g gs=>exact oT.elim
 obtain ⟨rfl,rfl⟩:=PU
 refine PR (pa:=p) (pv:=[]) qj (fun b sp aY=>?_) (fun sp mc=>?_) (fun sp mc=>?_) rfl ae (ok_one xq rfl (okWide_bool_mk Hv true))
 · rw [xt,xq]
   exact trodAll_mk1 (shut_bool Hv true)
 · rw [xt]
   exact Hu ar ae PT ck (fun x ah=>bG x (by simp [ah])) (fun x ah=>mc x (by simp [ah]))
 · rw [xt,xr]
   rfl
end
end Go.bh
end
