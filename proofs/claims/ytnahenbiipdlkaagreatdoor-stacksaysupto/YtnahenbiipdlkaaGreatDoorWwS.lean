/-
  The abstract layer, part 9: what keeps frames and memory where a step takes, makes and writes.
-/
import Derived.Test.YtnahenbiipdlkaaGreatDoorWwH
import Derived.Great.BuildSlice
import Derived.ProofKit
import Derived.Below
import Derived.ChangeSame
import Derived.Carry
section
namespace Go.bg
open Go
section
variable {P:Program} {F:Nat→Prop} {lim lim':Nat→Nat} {w w':World} {n:Nat} {fr:Fr} {m:ae} {ca:Act} {bL:List Nat}
theorem bd.NC (h:bd F lim w n fr m ca bL) {B6:List Nat} (aM:B6.Nodup) (aw:∀c∈B6,c∈bL):bd F lim w n fr m ca B6:=by
 obtain ⟨os,cI,bW,h⟩:=h
 exact ⟨os,cI,bW,h.size,h.defers,h.eL,h.mem,h.fj,h.eF,⟨aM,fun c ao=>h.gK.2 c (aw c ao)⟩,h.free,h.fresh⟩
theorem bd.ND (h:bd F lim w n fr m ca bL):bL.Nodup:=by
 obtain ⟨os,cI,bW,h⟩:=h
 exact h.gK.1
theorem bd.NF (h:bd F lim w n fr m ca bL):∀c∈bL,¬F c∧m c=none∧c<w.heap.size:=by
 obtain ⟨os,cI,bW,h⟩:=h
 exact fun c ao=>h.free c (by rw [h.gK.2 c ao];simp)
theorem Gt {os:Nat→List Nat} {n:Nat} (h:((List.range n).flatMap os).Nodup):(∀i,i<n→(os i).Nodup)∧∀i j c,i<n→j<n→c∈os i→c∈os j→i=j:=by
 induction n with
 |zero=>exact ⟨fun i ad=>absurd ad (Nat.not_lt_zero _),fun i j c ad=>absurd ad (Nat.not_lt_zero _)⟩
 |succ n aO=>
  rw [List.range_succ,List.flatMap_append,List.nodup_append] at h
  obtain ⟨J,aa,aj⟩:=h
  obtain ⟨i1,i2⟩:=aO J
  simp only [List.flatMap_cons,List.flatMap_nil,List.append_nil] at aa aj
  have an:∀i c,i<n→c∈os i→c∈os n→False:=fun i c ad ao aM=>aj c (List.mem_flatMap.2 ⟨i,by simpa using ad,ao⟩) c aM rfl
  refine ⟨fun i ad=>?_,fun i j c ad aD B7 B8=>?_⟩
  · by_cases e:i=n
    · subst e;exact aa
    · exact i1 i (by omega)
  · by_cases e:i=n<;>by_cases bR:j=n
    · omega
    · subst e;exact (an j c (by omega) B8 B7).elim
    · subst bR;exact (an i c (by omega) B7 B8).elim
    · exact i2 i j c (by omega) (by omega) B7 B8
theorem Gu {os:Nat→List Nat} {n c:Nat}:c∈(List.range n).flatMap os↔∃i,i<n∧c∈os i:=by
 simp [List.mem_flatMap]
theorem B9 {v:Value} {x:ab} {os:List Nat} (h:aN w lim v x os) (an:x.eH=true):∃oss:Nat→List Nat,v.cells.size=x.cells.length∧(∀i,i<x.cells.length→aN w lim (v.cells.getD i undef) (x.cells.getD i .aV) (oss i))∧
 os=(List.range x.cells.length).flatMap oss:=by
 have single:∀(v:Value) (x:ab) (os:List Nat),aN w lim v x os→v.cells=#[v]→x.cells=[x]→∃oss:Nat→List Nat,v.cells.size=x.cells.length∧(∀i,i<x.cells.length→aN w lim (v.cells.getD i undef) (x.cells.getD i .aV) (oss i))∧
  os=(List.range x.cells.length).flatMap oss:=fun v x os h bw ao=>by
  refine ⟨fun _=>os,by simp [bw,ao],fun i ad=>?_,by simp [ao,List.range_succ]⟩
  have:i=0:=by simp [ao] at ad;exact ad
  subst this
  simpa [bw,ao] using h
 cases h with
 |agg cs xs oss aw aA=>exact ⟨oss,aw,aA,rfl⟩
 |tuple cs xs oss aw aA=>simp [ab.eH] at an
 |oI v x os h=>simp [ab.eH] at an
 |mg x=>simp [ab.eH] at an
 |aV v=>simp [ab.eH] at an
 |bool b=>exact single _ _ _ (.bool b) rfl rfl
 |int k n ba ad=>exact single _ _ _ (.int k n ba ad) rfl rfl
 |str s h=>exact single _ _ _ (.str s h) rfl rfl
 |ptr a=>exact single _ _ _ (.ptr a) rfl rfl
 |fT=>exact single _ _ _ .fT rfl rfl
 |ref b off l cv J aa aj=>exact single _ _ _ (.ref b off l cv J aa aj) rfl rfl
 |gb own=>exact single _ _ _ (.gb own) rfl rfl
 |empty a cap hm=>exact single _ _ _ (.empty a cap hm) rfl rfl
 |slice b off n cap sz l cv J aa aj aG aR bu cD cK=>exact single _ _ _ (.slice b off n cap sz l cv J aa aj aG aR bu cD cK) rfl rfl
 |own b n cap sz l cv cur e J aa aj aG aR bu cD cK cC eg fJ=>exact single _ _ _ (.own b n cap sz l cv cur e J aa aj aG aR bu cD cK cC eg fJ) rfl rfl
 |ms a len cap J aa=>exact single _ _ _ (.ms a len cap J aa) rfl rfl
 |map b=>exact single _ _ _ (.map b) rfl rfl
 |jm=>exact single _ _ _ .jm rfl rfl
 |func fn f c bL gj J aa aj aG=>exact single _ _ _ (.func fn f c bL gj J aa aj aG) rfl rfl
 |jU=>exact single _ _ _ .jU rfl rfl
 |oF a=>exact single _ _ _ (.oF a) rfl rfl
 |iface t v x h=>exact single _ _ _ (.iface t v x h) rfl rfl
 |nilIface=>exact single _ _ _ .nilIface rfl rfl
 |mf t=>exact single _ _ _ (.mf t) rfl rfl
 |jn t e h ba ad=>exact single _ _ _ (.jn t e h ba ad) rfl rfl
 |oG=>exact single _ _ _ .oG rfl rfl
 |oH t v=>exact single _ _ _ (.oH t v) rfl rfl
theorem NG {v:Value} {x:ab} {os:List Nat} (h:aN w lim v x os) (an:x.one=true):v.oneCell'=true:=by
 cases h<;>first|rfl|simp [ab.one] at an
theorem bd.Gv (h:bd F lim w n fr m ca bL) {b off:Nat} {l xs:List ab} {vs:List Value} {cs:Array Value} {e:TypeId} {oss:Nat→List Nat} (hm:m b=some (.cells l)) (ah:w.heap[b]?=some (.cells cs e (0,0)))
 (av:off+xs.length≤l.length) (bw:vs.length=xs.length) (aA:∀i,i<xs.length→aN w lim (vs.getD i undef) (xs.getD i .aV) (oss i)) (rq:bL=(List.range xs.length).flatMap oss):
 bd F lim (w.setRow b (cs.toList.take off++vs++cs.toList.drop (off+vs.length)).toArray) n fr (m.cE b (some (.cells (l.take off++xs++l.drop (off+xs.length))))) ca []∧
 dW F w lim (w.setRow b (cs.toList.take off++vs++cs.toList.drop (off+vs.length)).toArray) lim:=by
 obtain ⟨os,cI,bW,h⟩:=h
 have gu:=h.mem b _ hm
 obtain ⟨ze,fU,ez⟩:=gu
 have la:cs.size=l.length:=by
  cases ze with
  |cells mo bR l' _ gf aw jK=>rw [ah] at gf;cases gf;exact aw
 have Gw:∀i,i<l.length→aN w lim (cs.getD i undef) (l.getD i .aV) (cI b i):=by
  cases ze with
  |cells mo bR l' _ gf aw jK=>rw [ah] at gf;cases gf;exact jK
 have k9:bL.Nodup:=h.gK.1
 rw [rq] at k9
 obtain ⟨NH,NI⟩:=Gt k9
 have Gx:∀c,c∈bL↔∃i,i<xs.length∧c∈oss i:=fun c=>by rw [rq];exact Gu
 generalize hw:w.setRow b (cs.toList.take off++vs++cs.toList.drop (off+vs.length)).toArray=cU
 have lb:∀k,k≠b→cU.heap[k]?=w.heap[k]?:=fun k al=>by rw [←hw];exact setRow_other w b k _ al
 have pr:cU.heap[b]?=some (.cells (cs.toList.take off++vs++cs.toList.drop (off+vs.length)).toArray e (0,0)):=by rw [←hw];exact setRow_heap w b cs _ e (0,0) ah
 have qj:cU.heap.size=w.heap.size:=by rw [←hw];simp
 have iT:∀k o,o<lim k→cU.cell? ⟨k,o,none⟩=w.cell? ⟨k,o,none⟩:=fun k o aL=>by
  have:k≠b:=fun e=>by subst e;omega
  simp [World.cell?,lb k this]
 have NJ:dW F w lim cU lim:=⟨by rw [←hw];rfl,by rw [←hw];rfl,by rw [←hw];rfl,by rw [qj];exact Nat.le_refl _,fun k al=>⟨lb k (fun e=>by subst e;exact ez al),rfl⟩,fun _=>Nat.le_refl _,iT⟩
 refine ⟨?_,NJ⟩
 have mh:∀c,m c=none→c≠b:=fun c ao e=>by subst e;rw [hm] at ao;cases ao
 have b4:∀{v x e0},aN w lim v x e0→(∀c∈e0,bW c≠ .none)→aN cU lim v x e0:=fun fM aL=>fM.ho (fun _=>Nat.le_refl _) iT (fun c ao=>⟨lb c (mh c (h.free c (aL c ao)).2.1),rfl⟩)
 classical
 refine ⟨os,fun k i=>if k=b then (if off≤i∧i<off+xs.length then oss (i- off) else cI b i) else cI k i,
  fun c=>if c∈bL then (if ao:∃i,i<xs.length∧c∈oss i then .ph b (off+Classical.choose ao) else .none) else
   match bW c with
   | .k4=> .none
   | .ph k i=>if k=b∧off≤i∧i<off+xs.length then .none else .ph k i
   |p=>p,h.size,h.defers,fun t x an=>⟨(h.eL t x an).1,b4 (h.eL t x an).2 (fun c ao=>by rw [(h.fj t x an).2 c ao];simp)⟩,fun k o al=>?_,fun t x an=>⟨(h.fj t x an).1,fun c ao=>?_⟩,fun k o al i=>?_,⟨by simp,by simp⟩,fun c ao=>?_,fun k al=>?_⟩
 · by_cases hp:k=b
   · subst hp
     simp only [ae.cE,↓reduceIte,Option.some.injEq] at al ⊢
     subst al
     refine ⟨?_,fU,ez⟩
     refine .cells _ e _ _ pr (by simp [bw];omega) (fun i ad=>?_)
     have hlen:(l.take off++xs++l.drop (off+xs.length)).length=l.length:=by simp;omega
     rw [hlen] at ad
     have ki:∀{α:Type} (A B:List α) (rr:α),off+B.length≤A.length→(A.take off++B++A.drop (off+B.length)).getD i rr=if off≤i∧i<off+B.length then B.getD (i- off) rr else A.getD i rr:=by
      intro α A B rr NK
      simp only [List.getD_eq_getElem?_getD]
      by_cases J:i<off
      · rw [if_neg (by omega),List.append_assoc,List.getElem?_append_left (by simp;omega),List.getElem?_take,if_pos J]
      · by_cases aa:i<off+B.length
        · rw [if_pos ⟨by omega,aa⟩,List.append_assoc,List.getElem?_append_right (by simp;omega),List.getElem?_append_left (by simp;omega)]
          simp [show min off A.length=off from by omega]
        · rw [if_neg (by omega),List.getElem?_append_right (by simp;omega),List.getElem?_drop]
          congr 2
          simp;omega
     have aF:(cs.toList.take off++vs++cs.toList.drop (off+vs.length)).toArray.getD i undef=if off≤i∧i<off+xs.length then vs.getD (i- off) undef else cs.getD i undef:=by
      have:=ki cs.toList vs undef (by simp [la];omega)
      rw [bw] at this ⊢
      simp only [Array.getD_eq_getD_getElem?,List.getElem?_toArray,List.getD_eq_getElem?_getD,Array.getElem?_toList] at this ⊢
      exact this
     rw [aF,ki l xs .aV av]
     by_cases js:off≤i∧i<off+xs.length
     · rw [if_pos js,if_pos js,if_pos js]
       exact b4 (aA _ (by omega)) (fun c ao=>by rw [h.gK.2 c ((Gx c).2 ⟨i- off,by omega,ao⟩)];simp)
     · rw [if_neg js,if_neg js,if_neg js]
       exact b4 (Gw i ad) (fun c ao=>by rw [(h.eF k _ hm i).2 c ao];simp)
   · simp only [ae.cE,if_neg hp] at al ⊢
     exact ⟨(h.mem k o al).1.ho (lb k hp) (fun _=>Nat.le_refl _) iT (fun i c ao=>⟨lb c (mh c (h.free c (by rw [(h.eF k o al i).2 c ao];simp)).2.1),rfl⟩),(h.mem k o al).2⟩
 · have J:=(h.fj t x an).2 c ao
   have aa:c∉bL:=fun aZ=>by rw [h.gK.2 c aZ] at J;cases J
   simp [J,aa]
 · by_cases hp:k=b
   · subst hp
     simp only [↓reduceIte]
     by_cases js:off≤i∧i<off+xs.length
     · simp only [if_pos js]
       refine ⟨NH _ (by omega),fun c ao=>?_⟩
       have NL:c∈bL:=(Gx c).2 ⟨i- off,by omega,ao⟩
       have hex:∃j,j<xs.length∧c∈oss j:=⟨i- off,by omega,ao⟩
       have Gy:=Classical.choose_spec hex
       have:Classical.choose hex=i- off:=NI _ _ c Gy.1 (by omega) Gy.2 ao
       simp only [if_pos NL,dif_pos hex,this]
       congr 1;omega
     · simp only [if_neg js]
       refine ⟨(h.eF k _ hm i).1,fun c ao=>?_⟩
       have J:=(h.eF k _ hm i).2 c ao
       have aa:c∉bL:=fun aZ=>by rw [h.gK.2 c aZ] at J;cases J
       simp [J,aa,js]
   · simp only [ae.cE,if_neg hp] at al ⊢
     refine ⟨(h.eF k o al i).1,fun c ao=>?_⟩
     have J:=(h.eF k o al i).2 c ao
     have aa:c∉bL:=fun aZ=>by rw [h.gK.2 c aZ] at J;cases J
     simp [J,aa,hp]
 · have fk:bW c≠ .none:=by
    by_cases aa:c∈bL
    · rw [h.gK.2 c aa];simp
    · intro J;simp [J,aa] at ao
   have:=h.free c fk
   refine ⟨this.1,?_,by rw [qj];exact this.2.2⟩
   simp only [ae.cE,if_neg (mh c this.2.1)]
   exact this.2.1
 · rw [qj] at al
   have:=h.fresh k al
   refine ⟨this.1,this.2.1,?_⟩
   simp only [ae.cE,if_neg (mh k this.2.2)]
   exact this.2.2
end
end Go.bg
end
section
namespace Go.bg
open Go
def oO (lim:Nat→Nat) (b k:Nat):Nat→Nat:=fun c=>if c=b then k else lim c
section
variable {P:Program} {F:Nat→Prop} {lim lim':Nat→Nat} {w w':World} {n:Nat} {fr:Fr} {m:ae} {ca:Act} {bL:List Nat} {os:Nat→List Nat} {cI:Nat→Nat→List Nat} {bW:Nat→Place}
theorem p8.world (h:p8 F lim w n fr m ca bL os cI bW) (cF:w.heap.size≤w'.heap.size) (av:∀b,lim b≤lim' b) (ao:∀b o,o<lim b→w'.cell? ⟨b,o,none⟩=w.cell? ⟨b,o,none⟩)
 (jG:∀c,bW c≠ .none→w'.heap[c]?=w.heap[c]?∧lim' c=lim c) (hm:∀b,m b≠none→w'.heap[b]?=w.heap[b]?∧lim' b=lim b)
 (BI:∀b,w'.heap.size≤b→lim' b=0):p8 F lim' w' n fr m ca bL os cI bW:=by
 refine ⟨h.size,h.defers,fun t x an=>⟨(h.eL t x an).1,(h.eL t x an).2.ho av ao (fun c nf=>jG c (by rw [(h.fj t x an).2 c nf];simp))⟩,fun b o ah=>?_,h.fj,h.eF,h.gK,
  fun c p9=>⟨(h.free c p9).1,(h.free c p9).2.1,Nat.lt_of_lt_of_le (h.free c p9).2.2 cF⟩,fun b ah=>⟨BI b ah,(h.fresh b (Nat.le_trans cF ah)).2⟩⟩
 have mh:=hm b (by rw [ah];simp)
 exact ⟨(h.mem b o ah).1.ho mh.1 av ao (fun i c nf=>jG c (by rw [(h.eF b o ah i).2 c nf];simp)),mh.2.trans (h.mem b o ah).2.1,(h.mem b o ah).2.2⟩
theorem p8.Gz (h:p8 F lim w n fr m ca bL os cI bW):p8 F lim w n fr m ca [] os cI (fun c=>if bW c= .k4 then .none else bW c):=by
 refine ⟨h.size,h.defers,h.eL,h.mem,fun t x an=>⟨(h.fj t x an).1,fun c ao=>by simp [(h.fj t x an).2 c ao]⟩,fun b o ah i=>⟨(h.eF b o ah i).1,fun c ao=>by simp [(h.eF b o ah i).2 c ao]⟩,⟨by simp,by simp⟩,fun c ao=>?_,h.fresh⟩
 by_cases J:bW c= .k4
 · simp [J] at ao
 · exact h.free c (by simpa [J] using ao)
theorem p8.GA (h:p8 F lim w n fr m ca [] os cI bW) {c:Nat} (ao:bW c= .none) (ez:¬F c) (hm:m c=none) (cl:c<w.heap.size):bd F lim w n fr m ca [c]:=by
 refine ⟨os,cI,fun d=>if d=c then .k4 else bW d,h.size,h.defers,h.eL,h.mem,fun t x an=>⟨(h.fj t x an).1,fun d aY=>?_⟩,fun b o ah i=>⟨(h.eF b o ah i).1,fun d aY=>?_⟩,by simp,fun d aY=>?_,h.fresh⟩
 · have:=(h.fj t x an).2 d aY
   have fk:d≠c:=fun e=>by subst e;rw [ao] at this;cases this
   simpa [fk] using this
 · have:=(h.eF b o ah i).2 d aY
   have fk:d≠c:=fun e=>by subst e;rw [ao] at this;cases this
   simpa [fk] using this
 · by_cases fk:d=c
   · subst fk;exact ⟨ez,hm,cl⟩
   · exact h.free d (by simpa [fk] using aY)
theorem sI (lim:Nat→Nat) (b k:Nat):oO lim b k b=k:=by simp [oO]
theorem oP (lim:Nat→Nat) {b c:Nat} (k:Nat) (h:c≠b):oO lim b k c=lim c:=by simp [oO,h]
theorem bd.zf (h:bd F lim w n fr m ca bL) (hw:w'.heap=w.heap) (o:Obj) (k:Nat):bd F (oO lim w.heap.size k) (w'.alloc o) n fr m ca [w.heap.size]:=by
 have cl:=fun {b o} (ah:o<lim b)=>h.rh ah
 have GB:=fun {b} (ah:m b≠none)=>h.qb ah
 obtain ⟨os,cI,bW,h⟩:=h
 have cF:(w'.alloc o).heap.size=w.heap.size+1:=by simp [hw]
 have hold:∀c,c<w.heap.size→(w'.alloc o).heap[c]?=w.heap[c]?:=fun c ao=>by rw [k5 w' o c (by rw [hw];exact ao),hw]
 have Ca:=h.fresh _ (Nat.le_refl _)
 have aa:=(h.Gz).world (w':=w'.alloc o) (lim':=oO lim w.heap.size k) (by omega) (fun b=>?_) (fun b i ad=>?_) (fun c ao=>?_) (fun b ah=>?_) (fun b ah=>?_)
 · refine aa.GA (c:=w.heap.size) ?_ Ca.2.1 Ca.2.2 (by omega)
   have:bW w.heap.size= .none:=by
    cases e:bW w.heap.size with
    |none=>rfl
    |_=>exact absurd (h.free w.heap.size (by rw [e];simp)).2.2 (Nat.lt_irrefl _)
   simp [this]
 · by_cases ah:b=w.heap.size
   · subst ah;rw [Ca.1];exact Nat.zero_le _
   · rw [oP _ _ ah];exact Nat.le_refl _
 · simp [World.cell?,hold b (cl ad)]
 · have la:c<w.heap.size:=(h.free c (by by_cases e:bW c= .k4<;>simp_all)).2.2
   exact ⟨hold c la,oP _ _ (by omega)⟩
 · exact ⟨hold b (GB ah),oP _ _ (by have:=GB ah;omega)⟩
 · rw [cF] at ah
   rw [oP _ _ (by omega)]
   exact (h.fresh b (by omega)).1
theorem dW.zg (h:bd F lim w n fr m ca bL) (hw:w'.heap=w.heap) (aL:w'.os=w.os) (aq:w'.tape=w.tape) (Cb:w'.output=w.output) (o:Obj) (k:Nat):dW F w lim (w'.alloc o) (oO lim w.heap.size k):=by
 have hold:∀c,c<w.heap.size→(w'.alloc o).heap[c]?=w.heap[c]?:=fun c ao=>by rw [k5 w' o c (by rw [hw];exact ao),hw]
 refine ⟨aL,aq,Cb,by simp [hw],fun b ah=>⟨hold b (h.qa ah),oP _ _ (by have:=h.qa ah;omega)⟩,fun b=>?_,fun b i ad=>by simp [World.cell?,hold b (h.rh ad)]⟩
 by_cases ah:b=w.heap.size
 · subst ah;rw [h.ri];exact Nat.zero_le _
 · rw [oP _ _ ah];exact Nat.le_refl _
theorem bd.GC {b:Nat} (h:bd F lim w n fr m ca [b]) (cF:w'.heap.size=w.heap.size) (lb:∀c,c≠b→w'.heap[c]?=w.heap[c]?) (k:Nat) (al:lim b≤k) (iT:∀o,o<lim b→w'.cell? ⟨b,o,none⟩=w.cell? ⟨b,o,none⟩)
 (aL:w'.os=w.os) (aq:w'.tape=w.tape) (Cb:w'.output=w.output):bd F (oO lim b k) w' n fr m ca [b]∧dW F w lim w' (oO lim b k):=by
 have ah:=h.NF b (by simp)
 have av:∀c,lim c≤oO lim b k c:=fun c=>by
  by_cases e:c=b
  · subst e;rw [sI];exact al
  · rw [oP _ _ e];exact Nat.le_refl _
 have ao:∀c o,o<lim c→w'.cell? ⟨c,o,none⟩=w.cell? ⟨c,o,none⟩:=fun c o cl=>by
  by_cases e:c=b
  · subst e;exact iT o cl
  · simp [World.cell?,lb c e]
 refine ⟨?_,⟨aL,aq,Cb,by omega,fun c ao=>⟨lb c (fun e=>by subst e;exact ah.1 ao),oP _ _ (fun e=>by subst e;exact ah.1 ao)⟩,av,ao⟩⟩
 obtain ⟨os,cI,bW,h⟩:=h
 have GD:bW b= .k4:=h.gK.2 b (by simp)
 have aa:=(h.Gz).world (w':=w') (lim':=oO lim b k) (by omega) av ao (fun c ao=>?_) (fun c ao=>?_) (fun c ao=>?_)
 · exact aa.GA (c:=b) (by simp [GD]) ah.1 ah.2.1 (by omega)
 · have e:c≠b:=fun e=>by subst e;simp [GD] at ao
   exact ⟨lb c e,oP _ _ e⟩
 · have e:c≠b:=fun e=>by subst e;exact ao ah.2.1
   exact ⟨lb c e,oP _ _ e⟩
 · rw [oP _ _ (by omega)]
   exact (h.fresh c (by omega)).1
def jt (cv:Nat→Nat→Value) (n sz:Nat):List Value:=(List.range (n*sz)).map fun i=>cv (i/sz) (i%sz)
theorem GF {cv:Nat→Nat→Value} {n sz i j:Nat} (ad:i<n) (aD:j<sz):(jt cv n sz)[i*sz+j]?=some (cv i j):=by
 have cl:i*sz+j<n*sz:=by
  have:i*sz+sz≤n*sz:=by rw [←Nat.succ_mul];exact Nat.mul_le_mul_right _ ad
  omega
 have J:(i*sz+j)/sz=i:=by rw [Nat.mul_comm,Nat.mul_add_div (by omega),Nat.div_eq_of_lt aD,Nat.add_zero]
 have aa:(i*sz+j)%sz=j:=by rw [Nat.mul_comm,Nat.mul_add_mod,Nat.mod_eq_of_lt aD]
 simp [jt,cl,J,aa]
theorem GG {cv:Nat→Nat→Value} {n sz b off:Nat} (cF:0<sz) (ao:∀i j,i<n→j<sz→w.cell? ⟨b,off+i*sz+j,none⟩=some (cv i j)):
 ∀k u,(jt cv n sz)[k]?=some u→w.cell? ((⟨b,off,none⟩:Addr).add k)=some u:=by
 intro k u hu
 rw [addr_add]
 have al:k<n*sz:=by
  rcases Nat.lt_or_ge k (n*sz) with h|h
  · exact h
  · simp [jt,h] at hu
 simp [jt,al] at hu
 have ad:k/sz<n:=Nat.div_lt_of_lt_mul (by rw [Nat.mul_comm];exact al)
 have:=ao (k/sz) (k%sz) ad (Nat.mod_lt _ cF)
 rw [show off+k/sz*sz+k%sz=off+k from by rw [Nat.add_assoc,Nat.mul_comm,Nat.div_add_mod]] at this
 rw [this,hu]
theorem uH {b iw cap sz:Nat} {l:List ab} {cv:Nat→Nat→Value} {cur:Array Value} {e:TypeId} (av:l.length=iw) (fB:iw≤cap) (hm:cap≤maxLen) (dI:iw≤140737488355328) (aJ:0<iw∨cap=0)
 (ah:w.heap[b]?=some (.cells cur e (0,0))) (kD:cur.size=cap*sz) (cF:∀i,i<iw→(l.getD i .aV).cells.length=sz) (fU:iw*sz=lim b)
 (ki:∀i j,i<iw→j<sz→cur[i*sz+j]?=some (cv i j)) (aA:∀i j,i<iw→j<sz→aN w lim (cv i j) ((l.getD i .aV).cells.getD j .aV) []):
 aN w lim (.slice (some ⟨b,0,none⟩) iw cap) (.slice true l) [b]:=
 .own b iw cap sz l cv cur e av fB hm dI aJ ah kD cF fU (fun i j ad aD=>by simp [World.cell?,ah,ki i j ad aD]) aA
theorem w5 {e:TypeId} {i:TypeInfo} (h:P.info? e=some i):P.cellsOf e=i.size∧P.bytesOf e=i.bytes:=by simp [Program.cellsOf,Program.bytesOf,h]
theorem Cc {e:TypeId} (h:(hY P e).isSome=true):∃i z,P.info? e=some i∧i.zero=some z∧pk z=true∧hY P e=some (jX z):=by
 unfold hY at h ⊢
 cases ad:P.info? e with
 |none=>simp [ad] at h
 |some i=>
  cases ak:i.zero with
  |none=>simp [ad,ak] at h
  |some z=>
   simp only [ad,ak,Option.bind_some] at h ⊢
   by_cases ao:pk z=true
   · exact ⟨i,z,rfl,ak,ao,by simp [ao]⟩
   · simp [ao] at h
theorem zh (v:Value):(jX v).cells.length=v.cells.size:=by
 cases v with
 |agg cs=>simp [jX,ab.cells,Value.cells]
 |iface t v=>rfl
 |pointer a=>cases a<;>rfl
 |slice a n c=>cases a<;>rfl
 |map r=>cases r<;>rfl
 |_=>rfl
theorem Cd {e:TypeId} (h:kJ P e=true):∃i z,P.info? e=some i∧i.zero=some z∧pk z=true∧hY P e=some (jX z)∧z.cells.size=i.size:=by
 have aw:(hY P e).isSome=true:=by
  unfold kJ at h
  cases ak:hY P e with
  |none=>simp [ak] at h
  |some z=>rfl
 obtain ⟨i,z,ad,ak,ao,dZ⟩:=Cc aw
 refine ⟨i,z,ad,ak,ao,dZ,?_⟩
 simp only [kJ,dZ,beq_iff_eq,zh] at h
 rw [h,(w5 ad).1]
theorem GH (t e ty:TypeId) (i:TypeInfo) (aq:P.underlying t=some (.slice e)) (ad:P.info? e=some i) (base:Option Addr) (b9 cap:Nat) (ru:b9≤cap) (a:Option Addr) (c:Nat):
 (Builtin.append_ #[t,t] ty #[.slice base b9 cap, .slice a 0 c]).run P w= .ok (.slice base b9 cap) w:=by
 cases a with
 |none=>cases base<;>simp [Builtin.append_,run_underlying aq,sizeOf,typeInfo,ad,Builtin.lenOf,Builtin.firstCells,ru,storeCells]
 |some a=>cases base<;>simp [Builtin.append_,run_underlying aq,sizeOf,typeInfo,ad,Builtin.lenOf,Builtin.firstCells,ru,storeCells,loadCells,loadCellsFrom]
theorem NM (t e ty:TypeId) (i:TypeInfo) (aq:P.underlying t=some (.slice e)) (ad:P.info? e=some i) (g sJ Ce:Nat) (cur:Array Value) (bR:TypeId) (bc:w.heap[g]?=some (.cells cur bR (0,0)))
 (a:Addr) (k c:Nat) (news:List Value) (av:news.length=k*i.size) (w6:∀j u,news[j]?=some u→w.cell? (a.add j)=some u) (J:∀u∈news,u.oneCell'=true)
 (rv:sJ+k≤Ce) (Cf:sJ*i.size+news.length≤cur.size):
 (Builtin.append_ #[t,t] ty #[.slice (some ⟨g,0,none⟩) sJ Ce, .slice (some a) k c]).run P w=
   .ok (.slice (some ⟨g,0,none⟩) (sJ+k) Ce) (w.setRow g (cur.toList.take (sJ*i.size)++news++cur.toList.drop (sJ*i.size+news.length)).toArray):=by
 have aZ:=run_firstCells_some (P:=P) w i.size k a k c news av w6
 have b4:=run_storeCells_at P g (sJ*i.size) bR news 0 cur w bc (by simpa using Cf) J
 simp only [Nat.add_zero] at b4
 simp [Builtin.append_,run_underlying aq,sizeOf,typeInfo,ad,Builtin.lenOf,rv,aZ,Addr.add_lit,b4]
end
end Go.bg
end
section
namespace Go.bg
open Go
section
variable {P:Program} {F:Nat→Prop} {lim:Nat→Nat} {w:World} {n:Nat} {fr:Fr} {m:ae} {ca:Act} {bL:List Nat}
theorem GI {v:Value} {x:ab} {os:List Nat} {k:Nat} (an:(x.cells.all ab.one)=true) (al:k<x.cells.length) (h:aN w lim v (x.cells.getD k .aV) os):v.oneCell'=true:=by
 refine NG h ?_
 rw [List.all_eq_true] at an
 exact an _ (by simp [List.getD_eq_getElem?_getD,al])
theorem oQ {l l':List ab} {i:Nat} (h:i<l.length):(l++l').getD i .aV=l.getD i .aV:=by
 simp [List.getD_eq_getElem?_getD,List.getElem?_append_left h]
theorem qk {l l':List ab} {i:Nat} (h:l.length≤i):(l++l').getD i .aV=l'.getD (i- l.length) .aV:=by
 simp [List.getD_eq_getElem?_getD,List.getElem?_append_right h]
theorem Cg (i j k s:Nat) (ad:i<k) (aD:j<s):i*s+j<k*s:=by
 have:i*s+s≤k*s:=by rw [←Nat.succ_mul];exact Nat.mul_le_mul_right _ ad
 omega
theorem GJ {a b:Nat} {sz:Nat} {A B C:List Value} {eG GK:Nat→Nat→Value} (dZ:A.length=a*sz) (df:B.length=b*sz) (Ch:∀i j,i<a→j<sz→A[i*sz+j]?=some (eG i j)) (NN:∀i j,i<b→j<sz→B[i*sz+j]?=some (GK i j)):
 ∀i j,i<a+b→j<sz→(A++B++C)[i*sz+j]?=some (if i<a then eG i j else GK (i- a) j):=by
 intro i j ad aD
 by_cases h:i<a
 · rw [if_pos h,List.append_assoc,List.getElem?_append_left (by rw [dZ];exact Cg _ _ _ _ h aD)]
   exact Ch i j h aD
 · have zi:a*sz≤i*sz:=Nat.mul_le_mul_right _ (by omega)
   have ql:i*sz+j- a*sz=(i- a)*sz+j:=by rw [Nat.sub_mul];omega
   have cl:(i- a)*sz+j<b*sz:=Cg _ _ _ _ (by omega) aD
   rw [if_neg h,List.getElem?_append_left (by simp [dZ,df];omega),List.getElem?_append_right (by omega),dZ,ql]
   exact NN (i- a) j (by omega) aD
set_option maxHeartbeats 1000000 in
theorem GL (st:bd F lim w n fr m ca bL) {t e ty:TypeId} (aq:P.underlying t=some (.slice e)) (ak:kJ P e=true) (kj:0<P.cellsOf e) {ry jH:Value} {l l':List ab} (ah:aN w lim ry (.slice true l) bL) (aK:aN w lim jH (.slice false l') [])
 (GM:(l.length+l'.length)*P.bytesOf e≤140737488355328) (dI:l.length+l'.length≤140737488355328) (av:∀x∈l,x.cells.length=P.cellsOf e) (nc:∀x∈l',x.cells.length=P.cellsOf e∧x.cells.all ab.one=true):
 ∃hD w' lim' e0,(Builtin.append_ #[t,t] ty #[ry,jH]).run P w= .ok hD w'∧bd F lim' w' n fr m ca e0∧aN w' lim' hD (.slice true (l++l')) e0∧dW F w lim w' lim':=by
 obtain ⟨i,z,ad,nn,GN,GO,zj⟩:=Cd ak
 obtain ⟨jL,pt⟩:=w5 ad
 have w7:∀k:Nat,k≤140737488355328→k≤maxLen:=fun k al=>by simp only [maxLen];omega
 have sK:∀(l:List ab) i,i<l.length→l.getD i .aV∈l:=fun l i ad=>by simp [List.getD_eq_getElem?_getD,ad]
 by_cases lL:l'=[]
 · subst lL
   have NO:∃a c,jH= .slice a 0 c:=by
    obtain ⟨a,c,rfl,_⟩:=BT aK
    exact ⟨a,c,rfl⟩
   obtain ⟨a,c,rfl⟩:=NO
   refine ⟨ry,w,lim,bL,?_,st,by simpa using ah, .refl _ _ _⟩
   cases ah with
   |gb own=>exact GH t e ty i aq ad none 0 0 (Nat.le_refl _) a c
   |own b iw cap sz l cv cur bR J aa aj aG aR bu cD cK cC eg fJ=>exact GH t e ty i aq ad _ iw cap aa a c
 have Ci:0<l'.length:=List.length_pos_iff.2 lL
 rcases wX aK with ⟨rfl,_⟩|⟨rfl,_⟩|⟨Cj,Ck,Cl,NP,lM,rfl,Ws,Wt,Wu,zk,Wv,NQ,uI⟩
 · exact (lL rfl).elim
 · exact (lL rfl).elim
 have NR:NP=i.size:=by rw [←zk 0 Ci,(nc _ (sK l' 0 Ci)).1,jL]
 subst NR
 rw [jL] at kj
 have w6:=GG (w:=w) kj NQ
 have mq:(jt lM l'.length i.size).length=l'.length*i.size:=by simp [jt]
 have GP:∀a b,a<l'.length→b<i.size→(jt lM l'.length i.size)[a*i.size+b]?=some (lM a b):=fun a b aT ah=>GF aT ah
 have Cm:∀u∈jt lM l'.length i.size,u.oneCell'=true:=fun u hu=>by
  obtain ⟨k,al,rfl⟩:=List.mem_map.1 hu
  have fm:k<l'.length*i.size:=by simpa using al
  have Cn:k/i.size<l'.length:=Nat.div_lt_of_lt_mul (by rw [Nat.mul_comm];exact fm)
  have GQ:=Nat.mod_lt k kj
  exact GI (nc _ (sK l' _ Cn)).2 (by rw [zk _ Cn];exact GQ) (uI _ _ Cn GQ)
 rw [pt] at GM
 have w8:∀(hZ:List Value) (k ix:Nat) (eG:Nat→Nat→Value),hZ.length=k*i.size→k=l.length→l.length+l'.length≤ix→ix≤maxLen→
  (∀a b,a<k→b<i.size→hZ[a*i.size+b]?=some (eG a b))→(∀a b,a<k→b<i.size→aN w lim (eG a b) ((l.getD a .aV).cells.getD b .aV) [])→
  (hZ.toArray++(jt lM l'.length i.size).toArray++Builtin.zeroCells z.cells (ix- (l.length+l'.length))).size=ix*i.size→
  ∃lim' e0,bd F lim' (w.drew.alloc (.cells (hZ.toArray++(jt lM l'.length i.size).toArray++Builtin.zeroCells z.cells (ix- (l.length+l'.length))) e)) n fr m ca e0∧
   aN (w.drew.alloc (.cells (hZ.toArray++(jt lM l'.length i.size).toArray++Builtin.zeroCells z.cells (ix- (l.length+l'.length))) e)) lim' (.slice (some ⟨w.heap.size,0,none⟩) (l.length+l'.length) ix) (.slice true (l++l')) e0∧
   dW F w lim (w.drew.alloc (.cells (hZ.toArray++(jt lM l'.length i.size).toArray++Builtin.zeroCells z.cells (ix- (l.length+l'.length))) e)) lim':=by
  intro hZ k ix eG aL al fB hm Ch Co qj
  subst al
  have ft:=dW.zg (w':=w.drew) st rfl rfl rfl rfl (.cells (hZ.toArray++(jt lM l'.length i.size).toArray++Builtin.zeroCells z.cells (ix- (l.length+l'.length))) e) ((l.length+l'.length)*i.size)
  refine ⟨_,_,st.zf (w':=w.drew) rfl _ ((l.length+l'.length)*i.size),?_,ft⟩
  have zl:=GJ (C:=(Builtin.zeroCells z.cells (ix- (l.length+l'.length))).toList) aL mq Ch GP
  refine uH (sz:=i.size) (cv:=fun a b=>if a<l.length then eG a b else lM (a- l.length) b) (by simp) fB hm dI (.inl (by omega)) (oJ w.drew _) qj (fun a aT=>?_) (by rw [sI]) (fun a b aT ah=>?_) (fun a b aT ah=>?_)
  · by_cases h:a<l.length
    · rw [oQ h,av _ (sK l a h),jL]
    · rw [qk (by omega),zk _ (by omega)]
  · rw [←Array.getElem?_toList]
    simp only [Array.toList_append]
    exact zl a b aT ah
  · by_cases h:a<l.length
    · simp only [if_pos h]
      rw [oQ h]
      exact (Co a b h ah).ho ft.mono ft.cell (by simp)
    · simp only [if_neg h]
      rw [qk (by omega)]
      exact (uI _ b (by omega) ah).ho ft.mono ft.cell (by simp)
 have GR:∀ix,l.length+l'.length≤ix→∀hZ:List Value,hZ.length=l.length*i.size→(hZ.toArray++(jt lM l'.length i.size).toArray++Builtin.zeroCells z.cells (ix- (l.length+l'.length))).size=ix*i.size:=fun ix ao hZ aL=>by
  simp only [Array.size_append,List.size_toArray,size_zeroCells,zj,aL,mq,←Nat.add_mul]
  congr 1;omega
 have GS:((l.length+l'.length:Nat):Int)≤9223372036854775807:=by omega
 cases ah with
 |gb own=>
  simp only [List.length_nil,Nat.zero_add] at*
  have hq:=run_append_nil (P:=P) w t ty e i z aq ad nn ⟨Cj,Ck,none⟩ l'.length Cl _ mq w6 Ci GS (by omega)
  have fB:=grownCap_ge w l'.length 0 e
  have sL:=grownCap_le_maxLen w l'.length 0 e (w7 _ dI)
  obtain ⟨lim',e0,J,aa,aj⟩:=w8 [] 0 (grownCap w l'.length 0 e) (fun _ _=>undef) (by simp) rfl fB sL (fun a b aT=>absurd aT (Nat.not_lt_zero _)) (fun a b aT=>absurd aT (Nat.not_lt_zero _)) (GR _ fB [] (by simp))
  simp only [List.nil_append] at J aa aj
  exact ⟨_,_,lim',e0,hq,by simpa using J,by simpa using aa,by simpa using aj⟩
 |own b iw cap sz l cv cur bR J aa aj aG aR bu cD cK cC eg fJ=>
  subst J
  have rl:l.length=0∨sz=i.size:=by
   rcases Nat.eq_zero_or_pos l.length with h|h
   · exact .inl h
   · exact .inr (by rw [←cK 0 h,av _ (sK l 0 h),jL])
  have jV:∀a gL,a<l.length→gL<i.size→w.cell? ⟨b,a*i.size+gL,none⟩=some (cv a gL):=fun a gL aT ah=>by
   rcases rl with h|h
   · omega
   · subst h;exact eg a gL aT ah
  have jK:∀a gL,a<l.length→gL<i.size→aN w lim (cv a gL) ((l.getD a .aV).cells.getD gL .aV) []:=fun a gL aT ah=>by
   rcases rl with h|h
   · omega
   · subst h;exact fJ a gL aT ah
  by_cases rv:l.length+l'.length≤cap
  · have cF:sz=i.size:=by
     rcases rl with h|h
     · rcases aR with aR|aR<;>omega
     · exact h
    subst cF
    have Cf:l.length*i.size+(jt lM l'.length i.size).length≤cur.size:=by
     rw [mq,cD,←Nat.add_mul];exact Nat.mul_le_mul_right _ rv
    have hq:=NM (P:=P) (w:=w) t e ty i aq ad b l.length cap cur bR bu ⟨Cj,Ck,none⟩ l'.length Cl _ mq w6 Cm rv Cf
    generalize dZ:(cur.toList.take (l.length*i.size)++jt lM l'.length i.size++cur.toList.drop (l.length*i.size+(jt lM l'.length i.size).length)).toArray=A at hq
    have pr:(w.setRow b A).heap[b]?=some (.cells A bR (0,0)):=setRow_heap w b cur A bR (0,0) bu
    have kD:∀k,k<l.length*i.size→A[k]?=cur[k]?:=fun k al=>by
     rw [←dZ]
     have hle:l.length*i.size≤cur.size:=by omega
     rw [List.getElem?_toArray,List.append_assoc,List.getElem?_append_left (by simp;omega),List.getElem?_take,if_pos al,Array.getElem?_toList]
    obtain ⟨s1,s2⟩:=st.GC (w':=w.setRow b A) (by simp) (fun c ao=>setRow_other w b c A ao) ((l.length+l'.length)*i.size) (by rw [←cC,Nat.add_mul];omega) (fun o aL=>by
     rw [←cC] at aL
     simp [World.cell?,pr,bu,kD o aL]) rfl rfl rfl
    refine ⟨_,_,_,[b],hq,s1,?_,s2⟩
    refine uH (sz:=i.size) (cv:=fun a b=>if a<l.length then cv a b else lM (a- l.length) b) (by simp) rv aj dI (.inl (by omega)) pr (by rw [←dZ];simp;omega) (fun a aT=>?_) (by rw [sI]) (fun a gL aT ah=>?_) (fun a gL aT ah=>?_)
    · by_cases h:a<l.length
      · rw [oQ h];exact cK a h
      · rw [qk (by omega),zk _ (by omega)]
    · rw [←dZ,List.getElem?_toArray]
      refine GJ (by simp;omega) mq (fun a gL aT ah=>?_) GP a gL aT ah
      have:=jV a gL aT ah
      simp only [World.cell?,bu] at this
      rw [List.getElem?_take,if_pos (Cg _ _ _ _ aT ah),Array.getElem?_toList]
      exact this
    · by_cases h:a<l.length
      · simp only [if_pos h]
        rw [oQ h]
        exact (jK a gL h ah).ho s2.mono s2.cell (by simp)
      · simp only [if_neg h]
        rw [qk (by omega)]
        exact (uI _ gL (by omega) ah).ho s2.mono s2.cell (by simp)
  · have holds:=GG (w:=w) (cv:=cv) (n:=l.length) (sz:=i.size) (b:=b) (off:=0) kj (fun a gL aT ah=>by rw [Nat.zero_add];exact jV a gL aT ah)
    have zm:(jt cv l.length i.size).length=l.length*i.size:=by simp [jt]
    have Cp:=growslice_fits (need:=l.length+l'.length) (old:=cap) (bytes:=i.bytes) (by omega) GM
    have hq:=run_append_grow (P:=P) w t ty e i z aq ad nn ⟨b,0,none⟩ l.length cap _ zm holds ⟨Cj,Ck,none⟩ l'.length Cl _ mq w6 (by omega) GS Cp
    have fB:=grownCap_ge w (l.length+l'.length) cap e
    have sL:=grownCap_le_maxLen w (l.length+l'.length) cap e (w7 _ dI)
    obtain ⟨lim',e0,s1,s2,j5⟩:=w8 (jt cv l.length i.size) l.length (grownCap w (l.length+l'.length) cap e) cv zm rfl fB sL (fun a gL aT ah=>GF aT ah) jK (GR _ fB _ zm)
    exact ⟨_,_,lim',e0,hq,s1,s2,j5⟩
end
end Go.bg
end
section
namespace Go.bg
open Go
section
variable {P:Program} {F:Nat→Prop} {lim:Nat→Nat} {w:World} {n:Nat} {fr:Fr} {m:ae} {ca:Act} {bL:List Nat}
def w9 (w:World) (lim:Nat→Nat) (cs:Array Value) (xs:List ab):Prop:=cs.size=xs.length∧∀i,i<xs.length→aN w lim (cs.getD i undef) (xs.getD i .aV) []
theorem GU {oss:Nat→List Nat} {k:Nat} (h:[]=(List.range k).flatMap oss):∀i,i<k→oss i=[]:=fun i ad=>BR h.symm i ad
theorem sM {v:Value} {x:ab} (h:aN w lim v x []) (an:x.eH=true):w9 w lim v.cells x.cells:=by
 obtain ⟨oss,J,aa,aj⟩:=B9 h an
 exact ⟨J,fun i ad=>by have:=aa i ad;rwa [GU aj i ad] at this⟩
theorem NS {α:Type} (A B:List α) (rr:α) (off i:Nat) (NK:off+B.length≤A.length):(A.take off++B++A.drop (off+B.length)).getD i rr=if off≤i∧i<off+B.length then B.getD (i- off) rr else A.getD i rr:=by
 simp only [List.getD_eq_getElem?_getD]
 by_cases J:i<off
 · rw [if_neg (by omega),List.append_assoc,List.getElem?_append_left (by simp;omega),List.getElem?_take,if_pos J]
 · by_cases aa:i<off+B.length
   · rw [if_pos ⟨by omega,aa⟩,List.append_assoc,List.getElem?_append_right (by simp;omega),List.getElem?_append_left (by simp;omega)]
     simp [show min off A.length=off from by omega]
   · rw [if_neg (by omega),List.getElem?_append_right (by simp;omega),List.getElem?_drop]
     congr 2
     simp;omega
theorem NT (place:Nat→Option (Nat×Nat)):∀(ps:List (Nat×ab)) (qm:List (Nat×Value)) (cs:Array Value) (xs dn:List ab),mn place xs ps=some dn→w9 w lim cs xs→qm.map (·.1)=ps.map (·.1)→
 (∀i (ad:i<ps.length),w9 w lim (qm.getD i (0,undef)).2.cells (ps[i]).2.cells)→∃gk,Instr.fill place cs qm=some gk∧w9 w lim gk dn:=by
 intro ps
 induction ps with
 |nil=>
  intro qm cs xs dn h ao hm aQ
  have:qm=[]:=by simpa using hm
  subst this
  simp only [mn,Option.some.injEq] at h
  subst h
  exact ⟨cs,rfl,ao⟩
 |cons p ps aO=>
  intro qm cs xs dn h ao hm aQ
  cases qm with
  |nil=>simp at hm
  |cons q qm=>
   obtain ⟨i,x⟩:=p
   obtain ⟨j,v⟩:=q
   simp only [List.map_cons,List.cons.injEq] at hm
   obtain ⟨rfl,hm⟩:=hm
   have an:=aQ 0 (by simp)
   simp only [List.getD_cons_zero,List.getElem_cons_zero] at an
   simp only [mn] at h
   cases qn:place j with
   |none=>simp [qn] at h
   |some os=>
    obtain ⟨off,size⟩:=os
    simp only [qn] at h
    split at h
    · next NU=>
      obtain ⟨aw,hle⟩:=NU
      have pw:v.cells.size=size:=an.1.trans aw
      simp only [Instr.fill,qn]
      rw [if_neg (by simp [pw,ao.1];omega)]
      refine aO qm _ _ dn h ?_ hm (fun k al=>by have:=aQ (k+1) (by simp;omega);simpa using this)
      obtain ⟨f1,f2⟩:=Great.foldl_set off v.cells.toList 0 cs
      have NV:(v.cells.zipIdx.foldl (fun cs (c,j)=>cs.setIfInBounds (off+j) c) cs)=((v.cells.toList.zipIdx 0).foldl (fun cs (x:Value×Nat)=>cs.setIfInBounds (off+x.2) x.1) cs):=by
       rw [←Array.foldl_toList];simp
      rw [NV]
      refine ⟨by rw [f1,ao.1];simp;omega,fun k al=>?_⟩
      have hlen:(xs.take off++x.cells++xs.drop (off+size)).length=xs.length:=by simp;omega
      rw [hlen] at al
      rw [←aw,NS xs x.cells .aV off k (by omega)]
      have aF:((v.cells.toList.zipIdx 0).foldl (fun cs (x:Value×Nat)=>cs.setIfInBounds (off+x.2) x.1) cs).getD k undef=if off≤k∧k<off+x.cells.length then v.cells.getD (k- off) undef else cs.getD k undef:=by
       rw [Array.getD_eq_getD_getElem?,f2 k]
       by_cases js:off≤k∧k<off+x.cells.length
       · rw [if_pos (by simp [pw,ao.1];omega),if_pos js]
         simp [Array.getD_eq_getD_getElem?]
       · rw [if_neg (by simp [pw];omega),if_neg js,Array.getD_eq_getD_getElem?]
      rw [aF]
      by_cases js:off≤k∧k<off+x.cells.length
      · rw [if_pos js,if_pos js];exact an.2 _ (by omega)
      · rw [if_neg js,if_neg js];exact ao.2 k al
    · cases h
theorem zn {t:TypeId} {z:ab} (h:hY P t=some z):∃v,(zeroValue t).run P w= .ok v w∧pk v=true∧z=jX v∧aN w lim v z []:=by
 obtain ⟨i,v,J,aa,aj,aG⟩:=Cc (P:=P) (e:=t) (by rw [h];rfl)
 rw [h] at aG
 have ak:z=jX v:=by simpa using aG
 exact ⟨v,by simp [zeroValue,typeInfo,J,aa],aj,ak,by rw [ak];exact BL aj⟩
theorem run_places (c6:List Field) (h:∀f∈c6,eV P f.type=true):(c6.mapM fun f=>do pure (f.offset,←sizeOf f.type):Sem (List (Nat×Nat))).run P w= .ok (c6.map fun f=>(f.offset,P.cellsOf f.type)) w:=by
 induction c6 with
 |nil=>rfl
 |cons f c6 aO=>
  rw [List.mapM_cons]
  have NW:=aO (fun g bc=>h g (by simp [bc]))
  simp only [Sem.run_bind,mj (h f (by simp)),Result.andThen_ok,Sem.run_pure,NW,List.map_cons]
theorem Cq {t:TypeId} {c6:Array Field} {z:ab} {cells:List ab} (hu:P.underlying t=some (.struct c6)) (ak:hY P t=some z) (rz:z.eH=true) (jJ:∀f∈c6.toList,eV P f.type=true)
 {parts:Array (Nat×Operand)} {a:Operand→ab} (aZ:mn (fun i=>(c6[i]?).map fun f=>(f.offset,P.cellsOf f.type)) z.cells (parts.toList.map fun p=>(p.1,a p.2))=some cells)
 (aA:∀p∈parts.toList,aN w lim (ca.eval p.2) (a p.2) []) (aq:∀p∈parts.toList,(a p.2).eH=true):
 ∃v,(Instr.build t (parts.map fun (i,x)=>(i,ca.eval x))).run P w= .ok v w∧aN w lim v (.agg cells) []:=by
 obtain ⟨NX,px,zo,rfl,n3⟩:=zn (w:=w) (lim:=lim) ak
 have NY:((c6.mapM fun f=>do pure (f.offset,←sizeOf f.type):Sem (Array (Nat×Nat)))).run P w= .ok (c6.map fun f=>(f.offset,P.cellsOf f.type)) w:=by
  have:=run_places (P:=P) (w:=w) c6.toList jJ
  rw [←Array.toList_mapM] at this
  simp only [Sem.run_map] at this
  cases aC:(c6.mapM fun f=>do pure (f.offset,←sizeOf f.type):Sem (Array (Nat×Nat))).run P w with
  |ok a w'=>
   rw [aC] at this
   simp only [Result.andThen_ok,Result.ok.injEq] at this
   obtain ⟨J,rfl⟩:=this
   congr 1
   apply Array.ext'
   simpa using J
  |halt e w'=>rw [aC] at this;simp at this
 obtain ⟨gk,J,aa⟩:=NT (w:=w) (lim:=lim) _ _ (parts.toList.map fun p=>(p.1,ca.eval p.2)) NX.cells _ _ aZ (sM n3 rz) (by simp) (fun i ad=>by
  simp only [List.length_map] at ad
  have iv:parts.toList[i]∈parts.toList:=List.getElem_mem ad
  have:=sM (aA _ iv) (aq _ iv)
  have aF:(parts.toList.map fun p=>(p.1,ca.eval p.2)).getD i (0,undef)=(parts.toList[i].1,ca.eval parts.toList[i].2):=by
   rw [List.getD_eq_getElem?_getD,List.getElem?_map,List.getElem?_eq_getElem ad];rfl
  have az:(parts.toList.map fun p=>(p.1,a p.2))[i]=(parts.toList[i].1,a parts.toList[i].2):=by rw [List.getElem_map]
  rw [aF,az];exact this)
 refine ⟨.agg gk,?_,?_⟩
 · have qn:(fun (i:Nat)=>(c6.map fun (f:Field)=>(f.offset,P.cellsOf f.type))[i]?)=fun (i:Nat)=>(c6[i]?).map fun (f:Field)=>(f.offset,P.cellsOf f.type):=by funext i;simp
   have Cr:(parts.map fun (i,x)=>(i,ca.eval x)).toList=parts.toList.map fun p=>(p.1,ca.eval p.2):=by simp
   simp only [Instr.build,Sem.run_bind,px,Result.andThen_ok,fV hu,NY,qn,Cr,J]
   rfl
 · have:=aN.agg (w:=w) (lim:=lim) gk cells (fun _=>[]) aa.1 aa.2
   rw [flatMap_nil] at this
   exact this
theorem NZ {β:Type} (l:List (Nat×β)) (h:l.map (·.1)=List.range l.length):l=((l.map (·.2)).zipIdx 0).map fun x=>(x.2,x.1):=by
 apply List.ext_getElem?
 intro i
 have ad:=congrArg (·[i]?) h
 simp only [List.getElem?_map] at ad
 by_cases cl:i<l.length
 · simp [cl] at ad ⊢
   exact Prod.ext ad rfl
 · simp [cl]
set_option maxHeartbeats 1000000 in
theorem N0 (st:bd F lim w n fr m ca bL) {t e:TypeId} {len:Nat} {parts:Array (Nat×Operand)} {a:Operand→ab} (hu:P.underlying t=some (.slice e)) (kj:0<P.cellsOf e) (ak:kJ P e=true) (N1:len*P.cellsOf e≤16777216)
 (GV:parts.toList.map (·.1)=List.range len) (aA:∀p∈parts.toList,aN w lim (ca.eval p.2) (a p.2) []) (aq:∀p∈parts.toList,(a p.2).eH=true∧(a p.2).cells.length=P.cellsOf e):
 ∃v w' lim' os,(Instr.buildSlice t len (parts.map fun (i,x)=>(i,ca.eval x))).run P w= .ok v w'∧bd F lim' w' n fr m ca os∧aN w' lim' v (.slice true (parts.toList.map fun p=>a p.2)) os∧dW F w lim w' lim':=by
 obtain ⟨i,z,ad,nn,GN,GO,zj⟩:=Cd ak
 obtain ⟨jL,pt⟩:=w5 ad
 rw [jL] at kj N1 aq
 have hlen:parts.toList.length=len:=by have:=congrArg List.length GV;simpa using this
 have cF:∀p∈parts.toList,(ca.eval p.2).cells.size=i.size:=fun p aQ=>by rw [(sM (aA p aQ) (aq p aQ).1).1];exact (aq p aQ).2
 by_cases aJ:len=0
 · subst aJ
   have uJ:parts=#[]:=by simpa using hlen
   subst uJ
   have ft:=dW.zg (w':=w) st rfl rfl rfl rfl (.cells #[] e) 0
   refine ⟨.slice (some ⟨w.heap.size,0,none⟩) 0 0,w.alloc (.cells #[] e),_,_,by
    have mr:Array.range 0=#[]:=by apply Array.ext';simp
    simp [Instr.buildSlice,fV hu,sizeOf,typeInfo,ad,Instr.fill,newRow,mr],st.zf (w':=w) rfl _ 0,?_,ft⟩
   exact uH (sz:=i.size) (cv:=fun _ _=>undef) (by simp) (Nat.le_refl _) (by simp [maxLen]) (by omega) (.inr rfl) (oJ w _) (by simp) (fun _ h=>by omega) (by rw [sI];simp) (fun _ _ h=>by omega) (fun _ _ h=>by omega)
 · have Cr:(parts.map fun (i,x)=>(i,ca.eval x)).toList=(((parts.toList.map fun p=>ca.eval p.2)).zipIdx 0).map fun x=>(x.2,x.1):=by
    have J:(parts.toList.map fun p=>(p.1,ca.eval p.2)).map (·.1)=List.range (parts.toList.map fun p=>(p.1,ca.eval p.2)).length:=by
     simp only [List.map_map,List.length_map,hlen]
     exact GV
    have aa:=NZ _ J
    simp only [List.map_map] at aa
    have e:(parts.map fun (i,x)=>(i,ca.eval x)).toList=parts.toList.map fun p=>(p.1,ca.eval p.2):=by simp
    rw [e];exact aa
   have GW:=Great.fill_whole (s:=i.size) kj (parts.toList.map fun p=>ca.eval p.2) ((Array.range (len*i.size)).map (z.cells[· %z.cells.size]!)) (fun v bw=>by
    obtain ⟨p,aQ,rfl⟩:=List.mem_map.1 bw;exact cF p aQ) (by simp [hlen])
   rw [←Cr] at GW
   have fk:¬len*i.size=0:=by
    have:=Nat.mul_pos (Nat.pos_of_ne_zero aJ) kj;omega
   have hq:=run_buildSlice (P:=P) w t e len (parts.map fun (i,x)=>(i,ca.eval x)) _ i z hu ad nn (by omega) fk GW
   have ft:=dW.zg (w':=w) st rfl rfl rfl rfl (.cells ((parts.toList.map fun p=>ca.eval p.2).flatMap fun v=>v.cells.toList).toArray e) (len*i.size)
   refine ⟨_,_,_,_,hq,st.zf (w':=w) rfl _ (len*i.size),?_,ft⟩
   have oL:∀k,k<len→(parts.toList.map fun p=>a p.2).getD k .aV=a (parts.toList.getD k (0, .tmp 0)).2∧(parts.toList.map fun p=>ca.eval p.2)[k]?=some (ca.eval (parts.toList.getD k (0, .tmp 0)).2)∧parts.toList.getD k (0, .tmp 0)∈parts.toList:=fun k al=>by
    have fm:k<parts.toList.length:=by omega
    have np:k<parts.size:=by simpa using fm
    simp [List.getD_eq_getElem?_getD,np]
   have Ww:len≤len*i.size:=Nat.le_mul_of_pos_right _ kj
   refine uH (sz:=i.size) (cv:=fun k j=>(ca.eval (parts.toList.getD k (0, .tmp 0)).2).cells.getD j undef) (by simp only [List.length_map];exact hlen) (Nat.le_refl _) (by simp only [maxLen];omega) (by omega) (.inl (by omega)) (oJ w _) ?_ (fun k al=>?_) (by rw [sI]) (fun k j al aD=>?_) (fun k j al aD=>?_)
   · have:∀(l:List Value),(∀v∈l,v.cells.size=i.size)→(l.flatMap fun v=>v.cells.toList).length=l.length*i.size:=fun l av=>by
      induction l with
      |nil=>simp
      |cons v l aO=>rw [List.flatMap_cons,List.length_append,aO (fun u hu=>av u (by simp [hu]))];simp [av v (by simp),Nat.add_mul,Nat.add_comm]
     rw [List.size_toArray,this _ (fun v bw=>by obtain ⟨p,aQ,rfl⟩:=List.mem_map.1 bw;exact cF p aQ),List.length_map,hlen]
   · obtain ⟨J,aa,aj⟩:=oL k al
     rw [J];exact (aq _ aj).2
   · obtain ⟨J,aa,aj⟩:=oL k al
     rw [List.getElem?_toArray,Great.flat_get kj _ (fun v bw=>by obtain ⟨p,aQ,rfl⟩:=List.mem_map.1 bw;exact cF p aQ)]
     have aF:(k*i.size+j)/i.size=k:=by rw [Nat.mul_comm,Nat.mul_add_div kj,Nat.div_eq_of_lt aD,Nat.add_zero]
     have az:(k*i.size+j)%i.size=j:=by rw [Nat.mul_comm,Nat.mul_add_mod,Nat.mod_eq_of_lt aD]
     rw [aF,az,aa,Option.bind_some]
     have:j<(ca.eval (parts.toList.getD k (0, .tmp 0)).2).cells.size:=by rw [cF _ aj];exact aD
     simp only [Array.getD_eq_getD_getElem?,Array.getElem?_eq_getElem this,Option.getD_some]
   · obtain ⟨J,aa,aj⟩:=oL k al
     rw [J]
     exact ((sM (aA _ aj) (aq _ aj).1).2 j (by rw [(aq _ aj).2];exact aD)).ho ft.mono ft.cell (by simp)
theorem bd.N2 (h:bd F lim w n fr m ca []) {b off:Nat} {l:List ab} (hm:m b=some (.cells l)) (aL:off<l.length):
 ∃v os,w.cell? ⟨b,off,none⟩=some v∧bd F lim w n fr (m.cE b (some (.cells (l.set off (l.getD off .aV).plain)))) ca os∧aN w lim v (l.getD off .aV) os:=by
 obtain ⟨os,cI,bW,h⟩:=h
 have gu:=h.mem b _ hm
 obtain ⟨ze,fU,ez⟩:=gu
 cases ze with
 |cells cs e _ _ ah aw aA=>
  have N3:off<cs.size:=by omega
  refine ⟨cs.getD off undef,cI b off,by simp [World.cell?,ah,Array.getD,N3],⟨os,fun k i=>if k=b∧i=off then [] else cI k i,fun c=>if bW c= .ph b off then .k4 else if bW c= .k4 then .none else bW c,h.size,h.defers,h.eL,fun k o al=>?_,fun t x an=>⟨(h.fj t x an).1,fun c ao=>?_⟩,fun k o al i=>?_,?_,fun c ao=>?_,fun k al=>?_⟩,aA off aL⟩
  · by_cases hp:k=b
    · subst hp
      simp only [ae.cE,↓reduceIte,Option.some.injEq] at al ⊢
      subst al
      refine ⟨.cells cs e _ _ ah (by simp [aw]) (fun i ad=>?_),fU,ez⟩
      simp only [List.length_set] at ad
      by_cases lN:i=off
      · subst lN
        simp only [List.getD_eq_getElem?_getD,List.getElem?_set,aL,if_true,Option.getD_some,and_self]
        have:=(aA i ad).plain
        simpa [List.getD_eq_getElem?_getD] using this
      · have:¬off=i:=fun e=>lN e.symm
        simp only [List.getD_eq_getElem?_getD,List.getElem?_set,this,if_false,lN,and_false]
        have:=aA i ad
        simpa [List.getD_eq_getElem?_getD] using this
    · simp only [ae.cE,if_neg hp] at al ⊢
      simpa [hp] using h.mem k o al
  · have:=(h.fj t x an).2 c ao
    simp [this]
  · by_cases hp:k=b
    · subst hp
      by_cases lN:i=off
      · simp [lN]
      · refine ⟨by simpa [lN] using (h.eF k _ hm i).1,fun c ao=>?_⟩
        have:=(h.eF k _ hm i).2 c (by simpa [lN] using ao)
        simp [this,lN]
    · simp only [ae.cE,if_neg hp] at al
      refine ⟨by simpa [hp] using (h.eF k o al i).1,fun c ao=>?_⟩
      have:=(h.eF k o al i).2 c (by simpa [hp] using ao)
      simp [this,hp]
  · exact ⟨(h.eF b _ hm off).1,fun c ao=>by simp [(h.eF b _ hm off).2 c ao]⟩
  · have fk:bW c≠ .none:=by
     intro e;simp [e] at ao
    have:=h.free c fk
    refine ⟨this.1,?_,this.2.2⟩
    have jh:c≠b:=fun e=>by subst e;rw [hm] at this;cases this.2.1
    simp only [ae.cE,if_neg jh]
    exact this.2.1
  · have:=h.fresh k al
    refine ⟨this.1,this.2.1,?_⟩
    have jh:k≠b:=fun e=>by subst e;rw [hm] at this;cases this.2.2
    simp only [ae.cE,if_neg jh]
    exact this.2.2
end
end Go.bg
end
section
namespace Go.bg
open Go
section
variable {P:Program} {F:Nat→Prop} {lim:Nat→Nat} {w:World} {n:Nat} {fr:Fr} {m:ae} {ca:Act} {bL:List Nat}
theorem zp (s:Nat):fr.strip [s]=fr.put s (br fr s).plain:=rfl
theorem bd.uK (h:bd F lim w n fr m ca []) (s:Nat) (aw:s<n):∃os,bd F lim w n (fr.strip [s]) m ca os∧aN w lim (ca.tmps.getD s undef) (br fr s) os:=by
 cases bc:fr.get s with
 |some x=>
  obtain ⟨os,J,aa⟩:=h.take bc
  refine ⟨os,?_,?_⟩
  · rw [zp];simpa [br,bc] using J
  · simpa [br,bc] using aa
 |none=>
  refine ⟨[],?_,by simp [br,bc];exact .aV _⟩
  rw [zp]
  refine h.sub fun t x an=>?_
  rw [Fr.p6] at an
  by_cases e:s=t
  · subst e
    simp [br,bc,ab.plain] at an
    exact .inr ⟨an.symm,aw⟩
  · rw [if_neg e] at an;exact .inl an
theorem bd.GX (h:bd F lim w n fr m ca []) (y:Operand) (aK:k6 y=true) (aw:∀t,y= .tmp t→t<n):∃os,bd F lim w n (fr.strip (n1 y)) m ca os∧aN w lim (ca.eval y) (gF (br fr) y) os:=by
 cases y with
 |tmp t=>exact h.uK t (aw t rfl)
 |const v=>exact ⟨[],h,BL aK⟩
 |global g=>exact ⟨[],h, .ptr _⟩
 |func f=>exact ⟨[],h, .func _ #[] #[] [] [] rfl rfl (by simp) (by simp)⟩
theorem hE (h:bd F lim w n fr m ca bL) {x:Operand} (an:k6 x=true):aN w lim (ca.eval x) (cA (br fr) x) []:=by
 rw [w4]
 obtain ⟨_,aA,rfl⟩:=wU h an
 exact aA
def xa (P:Program) (F:Nat→Prop) (lim:Nat→Nat) (w:World) (n:Nat) (ca:Act) (o:Oper) (bf:Fr) (m':ae) (x:ab):Prop:=
 ∃v w' lim' os,(execOp ca.eval o).run P w= .ok (.value v) w'∧bd F lim' w' n bf m' ca os∧aN w' lim' v x os∧dW F w lim w' lim'
theorem Cs {o:Oper} {side:Prop} {x:ab} (h:bS P m (cA (br fr)) o.op=some (side,x)) (aw:side) (st:bd F lim w n fr m ca []) (al:fp n o=true):xa P F lim w n ca o fr m x:=by
 obtain ⟨v,J,aa⟩:=zb (P:=P) (w:=w) (lim:=lim) h aw (ca:=ca) (fun y aK=>hE st (kI al y aK)) st.uE
 exact ⟨v,w,lim,[],J,st,aa, .refl _ _ _⟩
theorem GY {stl:List Nat} {o:Oper} {side:Prop} {ss:List Nat} {m':ae} {x:ab} (h:(match bS P m (cA (br fr)) o.op with|some (side,x)=>jr.val side [] m x|none=> .stuck)= .val side ss m' x) (aw:side)
 (st:bd F lim w n fr m ca []) (al:fp n o=true):xa P F lim w n ca o (fr.strip ss) m' x:=by
 cases aU:bS P m (cA (br fr)) o.op with
 |none=>simp [aU] at h
 |some p=>
  obtain ⟨zq,y⟩:=p
  simp only [aU,jr.val.injEq] at h
  obtain ⟨rfl,rfl,rfl,rfl⟩:=h
  exact Cs aU aw st al
theorem N4 {v:Value} {l:List ab} {os:List Nat} (h:aN w lim v (.tuple l) os) {i:Nat} (ad:i<l.length):∃cs:Array Value,∃xb:List Nat,v= .tuple cs∧i<cs.size∧aN w lim (cs.getD i undef) (l.getD i .aV) xb∧(∀c∈xb,c∈os)∧(os.Nodup→xb.Nodup):=by
 cases h with
 |tuple cs _ oss h aA=>exact ⟨cs,oss i,rfl,by omega,aA i ad,fun c ao=>Gu.2 ⟨i,ad,ao⟩,fun aM=>(Gt aM).1 i ad⟩
theorem N5 {o:Oper} {t:Nat} (al:fp n o=true) (aM:(o.op.operands.toList.all fun y=>match y with| .tmp t=>decide (t<n)|_=>true)=true) (aq:Operand.tmp t∈o.op.operands.toList):t<n:=by
 rw [List.all_eq_true] at aM
 simpa using aM _ aq
set_option maxHeartbeats 2000000 in
theorem Ct {stl:List Nat} {o:Oper} {side:Prop} {ss:List Nat} {m':ae} {x:ab} (h:fl P m (br fr) stl o.dst o.op= .val side ss m' x) (aw:side) (st:bd F lim w n fr m ca []) (al:fp n o=true)
 (aM:(o.op.operands.toList.all fun y=>match y with| .tmp t=>decide (t<n)|_=>true)=true):xa P F lim w n ca o (fr.strip ss) m' x:=by
 have aq:∀t,Operand.tmp t∈o.op.operands.toList→t<n:=fun t=>N5 al aM
 have gR:=kI al
 have taken:∀s,s<n→(∀a:Act,execOp a.eval o=pure (.value (a.eval (.tmp s))))→xa P F lim w n ca o (fr.strip [s]) m (br fr s):=fun s uv he=>by
  obtain ⟨os,J,aa⟩:=st.uK s uv
  exact ⟨ca.eval (.tmp s),w,lim,os,by rw [he ca];rfl,J,aa, .refl _ _ _⟩
 unfold fl at h
 split at h
 · next s cM=>
   simp only [jr.val.injEq] at h
   obtain ⟨rfl,rfl,rfl,rfl⟩:=h
   exact taken s (aq s (by rw [cM];simp [Op.operands])) (fun a=>by simp [execOp,cM])
 · next s cM=>
   split at h
   · simp only [jr.val.injEq] at h
     obtain ⟨rfl,rfl,rfl,rfl⟩:=h
     exact taken s (aq s (by rw [cM];simp [Op.operands])) (fun a=>by simp [execOp,cM])
   · simp only [jr.val.injEq] at h
     obtain ⟨rfl,rfl,rfl,rfl⟩:=h
     exact Cs (by rw [cM];rfl) trivial st al
 · next s i cM=>
   split at h
   · next l av=>
     split at h
     · simp only [jr.val.injEq] at h
       obtain ⟨rfl,rfl,rfl,rfl⟩:=h
       obtain ⟨os,J,aa⟩:=st.uK s (aq s (by rw [cM];simp [Op.operands]))
       rw [av] at aa
       obtain ⟨cs,xb,he,N6,aA,ql,k9⟩:=N4 aa aw
       refine ⟨cs.getD i undef,w,lim,xb,?_,J.NC (k9 J.ND) ql,aA, .refl _ _ _⟩
       simp [execOp,cM,Act.eval,he,Instr.extract,N6]
     · simp only [jr.val.injEq] at h
       obtain ⟨rfl,rfl,rfl,rfl⟩:=h
       show xa P F lim w n ca o fr m _
       refine Cs (fr:=fr) (side:=i<(ab.fD l).length) ?_ (by simpa [ab.iG] using aw) st al
       rw [cM]
       have bc:=nV l i
       simp only [bS,cA,av,ab.plain,bc]
   · cases h
 · next t y cM=>
   split at h
   · split at h
     · next b off qo=>
       split at h
       · next l hm=>
         simp only [jr.val.injEq] at h
         obtain ⟨rfl,rfl,rfl,rfl⟩:=h
         obtain ⟨hu,N7,N8⟩:=aw
         have aK:=hE st (gR y (by rw [cM];simp [Op.operands]))
         rw [qo] at aK
         obtain ⟨v,os,J,aa,aj⟩:=st.N2 hm N8
         refine ⟨v,w,lim,os,?_,aa,aj, .refl _ _ _⟩
         simp [execOp,cM,rj aK,Instr.loadAt,Instr.sureAddr,loadVar,uw hu,N7,J]
       · cases h
     · cases h
   · exact GY (stl:=stl) (by rw [cM];exact h) aw st al
 · split at h
   · split at h<;>cases h
   · cases h
 · cases h
 · split at h<;>cases h
 · split at h
   · split at h<;>cases h
   · cases h
 · split at h<;>cases h
 · next t parts cM=>
   split at h
   · cases h
   · split at h
     · next c6 z hu ak=>
       split at h
       · next cells aZ=>
         simp only [jr.val.injEq] at h
         obtain ⟨rfl,rfl,rfl,rfl⟩:=h
         obtain ⟨J,aa,aj⟩:=aw
         obtain ⟨v,aG,aR⟩:=Cq (P:=P) (w:=w) (lim:=lim) (ca:=ca) hu ak J aa aZ (fun p aQ=>hE st (gR p.2 (by rw [cM];simp [Op.operands];exact ⟨p.1,by simpa using aQ⟩))) aj
         exact ⟨v,w,lim,[],by simp [execOp,cM,aG],st,aR, .refl _ _ _⟩
       · cases h
     · cases h
 · next t len parts cM=>
   split at h
   · cases h
   · split at h
     · next e hu=>
       simp only [jr.val.injEq] at h
       obtain ⟨rfl,rfl,rfl,rfl⟩:=h
       obtain ⟨J,aa,aj,aG,aR,bu⟩:=aw
       obtain ⟨v,w',lim',os,jf,jI,sN,xc⟩:=N0 (P:=P) st hu aa aj aG aR (a:=cA (br fr)) (fun p aQ=>hE st (gR p.2 (by rw [cM];simp [Op.operands];exact ⟨p.1,by simpa using aQ⟩))) bu
       exact ⟨v,w',lim',os,by simp [execOp,cM,jf],jI,sN,xc⟩
     · cases h
 · next args di cM=>
   split at h
   · next s y t u j3 Cu=>
     split at h
     · next e bR l own l' hu Cv nq qo=>
       simp only [jr.val.injEq] at h
       obtain ⟨rfl,rfl,rfl,rfl⟩:=h
       obtain ⟨rfl,J,aa,aj,aG,aR,bu,cD⟩:=aw
       have iv:∀z∈args.toList,z∈o.op.operands.toList:=fun z ak=>by rw [cM];simpa [Op.operands,Call.operands] using ak
       obtain ⟨os,s1,s2⟩:=st.uK s (aq s (iv _ (by rw [j3];simp)))
       rw [nq] at s2
       have aK:=hE st (gR y (iv _ (by rw [j3];simp)))
       rw [qo] at aK
       have qf:aN w lim (ca.eval y) (.slice false l') []:=by simpa [ab.plain] using aK.plain
       obtain ⟨v,w',lim',e0,jf,jI,sN,xc⟩:=GL (P:=P) (ty:=o.type) s1 hu aj aa s2 qf aG aR bu cD
       refine ⟨v,w',lim',e0,?_,jI,sN,xc⟩
       have aF:args.map ca.eval=#[ca.eval (.tmp s),ca.eval y]:=by apply Array.ext';simp [j3]
       have az:di=#[t,t]:=by apply Array.ext';simp [Cu]
       simp only [execOp,cM,resolve,invoke,builtin,Sem.run_bind,Sem.run_pure,Result.andThen_ok,aF,az]
       simp only [Act.eval] at jf ⊢
       rw [jf];rfl
     · cases h
   · next y t u j3 Cu=>
     split at h
     · next e bR own l' hu Cv qo=>
       simp only [jr.val.injEq] at h
       obtain ⟨rfl,rfl,rfl,rfl⟩:=h
       obtain ⟨rfl,J,aa,aj,aG,aR⟩:=aw
       have iv:∀z∈args.toList,z∈o.op.operands.toList:=fun z ak=>by rw [cM];simpa [Op.operands,Call.operands] using ak
       have aK:=hE st (gR y (iv _ (by rw [j3];simp)))
       rw [qo] at aK
       have qf:aN w lim (ca.eval y) (.slice false l') []:=by simpa [ab.plain] using aK.plain
       obtain ⟨qg,kK,_,dI⟩:=BT qf
       obtain ⟨v,w',lim',e0,jf,jI,sN,xc⟩:=GL (P:=P) (ty:=o.type) st hu aj aa (.gb true) qf (by simpa using aG) (by simpa using dI) (by simp) aR
       refine ⟨v,w',lim',e0,?_,jI,by simpa using sN,xc⟩
       have aF:args.map ca.eval=#[.slice none 0 0,ca.eval y]:=by apply Array.ext';simp [j3,Act.eval]
       have az:di=#[t,t]:=by apply Array.ext';simp [Cu]
       simp only [execOp,cM,resolve,invoke,builtin,Sem.run_bind,Sem.run_pure,Result.andThen_ok,aF,az]
       rw [jf];rfl
     · cases h
   · cases h
 · cases h
 · split at h<;>cases h
 · exact GY (stl:=stl) h aw st al
end
end Go.bg
end
section
namespace Go.bg
open Go
section
variable {P:Program} {F:Nat→Prop} {lim:Nat→Nat} {w:World} {n:Nat} {fr:Fr} {m:ae} {ca:Act} {bL:List Nat}
def gS (n:Nat) (o:Oper):Bool:=o.op.operands.toList.all fun y=>match y with| .tmp t=>decide (t<n)|_=>true
theorem zr {o:Oper} (aM:gS n o=true) {y:Operand} (aK:y∈o.op.operands.toList):∀t,y= .tmp t→t<n:=by
 intro t aq
 subst aq
 simp only [gS,List.all_eq_true] at aM
 simpa using aM _ aK
set_option maxHeartbeats 2000000 in
theorem N9 {stl:List Nat} {o:Oper} {side:Prop} {ss:List Nat} {m':ae} (h:fl P m (br fr) stl o.dst o.op= .pq side ss m') (aw:side) (st:bd F lim w n fr m ca []) (al:fp n o=true) (aM:gS n o=true):
 ∃w' lim',(execOp ca.eval o).run P w= .ok .skip w'∧bd F lim' w' n (fr.strip ss) m' ca []∧dW F w lim w' lim':=by
 have gR:=kI al
 unfold fl at h
 split at h
 case h_5 t a x cM=>
  split at h
  · next b off qo=>
    split at h
    · next l hm=>
      simp only [jr.pq.injEq] at h
      obtain ⟨rfl,rfl,rfl⟩:=h
      obtain ⟨J,aa,aj,aG,aR⟩:=aw
      have aT:=hE st (gR a (by rw [cM];simp [Op.operands]))
      rw [qo] at aT
      obtain ⟨os,s1,s2⟩:=st.GX x (gR x (by rw [cM];simp [Op.operands])) (zr aM (by rw [cM];simp [Op.operands]))
      obtain ⟨oss,hF,c2,c3⟩:=B9 s2 J
      obtain ⟨e0,gu⟩:=st.uE b _ hm
      obtain ⟨cs,e,_,rk,cF,_⟩:=BS gu
      rw [←aj] at aR
      have Oa:(ca.eval x).cells.toList.length=(gF (br fr) x).cells.length:=by simpa using hF
      obtain ⟨jf,jI⟩:=s1.Gv (vs:=(ca.eval x).cells.toList) hm rk aR Oa (fun i ad=>by
       have:=c2 i ad
       simpa [Array.getD_eq_getD_getElem?,List.getD_eq_getElem?_getD] using this) c3
      have Cm:∀v∈(ca.eval x).cells.toList,v.oneCell'=true:=fun v bw=>by
       obtain ⟨k,py,rfl⟩:=List.mem_iff_getElem.1 bw
       have np:k<(gF (br fr) x).cells.length:=by omega
       have:=c2 k np
       have bc:(ca.eval x).cells.getD k undef=(ca.eval x).cells.toList[k]:=by
        simp [Array.getD_eq_getD_getElem?,show k<(ca.eval x).cells.size from by simpa using py]
       rw [bc] at this
       exact GI aa np this
      have b4:=run_storeCells_at P b off e (ca.eval x).cells.toList 0 cs w rk (by simp [cF];omega) Cm
      simp only [Nat.add_zero] at b4
      rw [←aj]
      refine ⟨_,lim,?_,jf,jI⟩
      simp only [execOp,cM,rj aT,Instr.storeAt,Instr.sureAddr,storeVar,Sem.run_bind,Sem.run_pure,Result.andThen_ok,mj aG]
      have fk:¬(ca.eval x).cells.size≠P.cellsOf t:=by rw [hF,aj];simp
      simp only [fk,if_false,Sem.run_bind,Sem.run_pure,Result.andThen_ok,b4]
    · cases h
  · cases h
 all_goals first
  |cases h
  |(split at h<;>cases h)
  |(split at h<;>(first|cases h|(split at h<;>first|cases h|(split at h<;>cases h))))
theorem Ob (k s:Nat) (z:List ab) (ak:z.length=s) (aw:0<s):∀i,i<k*s→(List.replicate k z).flatten.getD i .aV=z.getD (i%s) .aV:=by
 induction k with
 |zero=>intro i ad;omega
 |succ k aO=>
  intro i ad
  rw [List.replicate_succ,List.flatten_cons]
  by_cases h:i<s
  · rw [oQ (by omega),Nat.mod_eq_of_lt h]
  · rw [qk (by omega),ak,aO (i- s) (by rw [Nat.add_mul] at ad;omega)]
    rw [←Nat.mod_eq_sub_mod (by omega:s≤i)]
def GZ (P:Program) (F:Nat→Prop) (lim:Nat→Nat) (w:World) (n:Nat) (ca:Act) (o:Oper) (bf:Fr) (m:ae) (mk:Nat→ab) (hf:gr):Prop:=
 ∃v w' b,(execOp ca.eval o).run P w= .ok (.value v) w'∧m b=none∧bd F lim w' n bf (m.cE b (some hf)) ca []∧aN w' lim v (mk b) []∧dW F w lim w' lim
theorem uL (st:bd F lim w n fr m ca bL) (o:Obj):dW F w lim (w.alloc o) lim:=by
 have ft:=dW.alloc st o 0
 have ak:=st.ri
 have fU:(fun b=>if b=w.heap.size then 0 else lim b)=lim:=by funext b;by_cases ah:b=w.heap.size<;>simp [ah,ak]
 rwa [fU] at ft
theorem G0 (st:bd F lim w n fr m ca []):m w.heap.size=none∧bd F lim (w.alloc (.map #[] 0)) n fr (m.cE w.heap.size (some (.map []))) ca []:=by
 have ft:=uL st (.map #[] 0)
 have ak:=st.ri
 have ez:¬F w.heap.size:=fun aZ=>absurd (st.qa aZ) (Nat.lt_irrefl _)
 have hm:m w.heap.size=none:=by
  cases ah:m w.heap.size with
  |none=>rfl
  |some o=>exact absurd (st.qb (b:=w.heap.size) (by rw [ah];simp)) (Nat.lt_irrefl _)
 have dZ:=st.alloc (.map #[] 0) 0
 have fU:(fun b=>if b=w.heap.size then 0 else lim b)=lim:=by funext b;by_cases ah:b=w.heap.size<;>simp [ah,ak]
 rw [fU] at dZ
 refine ⟨hm,?_⟩
 obtain ⟨os,cI,bW,h⟩:=st
 have cl:∀c,bW c≠ .none→c<w.heap.size:=fun c ao=>(h.free c ao).2.2
 refine ⟨os,fun b i=>if b=w.heap.size then [] else cI b i,bW,h.size,h.defers,fun t x an=>⟨(h.eL t x an).1,(h.eL t x an).2.ho ft.mono ft.cell (fun c ao=>⟨k5 w _ c (cl c (by rw [(h.fj t x an).2 c ao];simp)),rfl⟩)⟩,fun b o ah=>?_,h.fj,fun b o ah i=>?_,h.gK,fun c ao=>?_,fun b ah=>?_⟩
 · by_cases nX:b=w.heap.size
   · subst nX
     simp only [ae.cE,↓reduceIte,Option.some.injEq] at ah ⊢
     subst ah
     exact ⟨.map #[] 0 [] (oJ w _) rfl (by simp) (fun i ad=>by simp at ad) (fun i ad=>by simp at ad) (fun i j _ aD=>by simp at aD) (fun i ad=>by simp at ad) _,ak,ez⟩
   · simp only [ae.cE,if_neg nX] at ah ⊢
     have oR:b<w.heap.size:=by
      rcases Nat.lt_or_ge b w.heap.size with gf|gf
      · exact gf
      · have:=(h.fresh b gf).2.2;rw [ah] at this;cases this
     have Wx:¬b=w.heap.size:=nX
     exact ⟨(h.mem b o ah).1.ho (k5 w _ b oR) ft.mono ft.cell (fun i c ao=>⟨k5 w _ c (cl c (by rw [(h.eF b o ah i).2 c ao];simp)),rfl⟩),(h.mem b o ah).2⟩
 · by_cases nX:b=w.heap.size
   · subst nX
     simp
   · simp only [ae.cE,if_neg nX] at ah ⊢
     exact h.eF b o ah i
 · have:=h.free c ao
   refine ⟨this.1,?_,by simp;omega⟩
   simp only [ae.cE]
   rw [if_neg (by omega)]
   exact this.2.1
 · simp at ah
   have:=h.fresh b (by omega)
   refine ⟨this.1,this.2.1,?_⟩
   simp only [ae.cE]
   rw [if_neg (by omega)]
   exact this.2.2
set_option maxHeartbeats 2000000 in
theorem Oc {stl:List Nat} {o:Oper} {side:Prop} {ss:List Nat} {mk:Nat→ab} {hf:gr} (h:fl P m (br fr) stl o.dst o.op= .new side ss mk hf) (aw:side) (st:bd F lim w n fr m ca []) (al:fp n o=true):
 GZ P F lim w n ca o (fr.strip ss) m mk hf:=by
 have gR:=kI al
 have Cw:∀(cs:Array Value) (e:TypeId) (l:List ab),w9 w lim cs l→∀v,(execOp ca.eval o).run P w= .ok (.value v) (w.alloc (.cells cs e))→aN (w.alloc (.cells cs e)) lim v (mk w.heap.size) []→hf= .cells l→GZ P F lim w n ca o fr m mk hf:=fun cs e l ao v aA bw aL=>by
  obtain ⟨J,aa⟩:=st.BJ cs e l ao.1 ao.2
  subst aL
  exact ⟨v,_,w.heap.size,aA,J,aa,bw,uL st _⟩
 unfold fl at h
 split at h
 case h_6 t x cM=>
  simp only [jr.new.injEq] at h
  obtain ⟨rfl,rfl,rfl,rfl⟩:=h
  have an:=hE st (gR x (by rw [cM];simp [Op.operands]))
  exact Cw _ t _ (sM an aw) (.pointer (some ⟨w.heap.size,0,none⟩)) (by simp [execOp,cM,Instr.box,newVar,newRow]) (.ptr _) rfl
 case h_7 t cM=>
  split at h
  · next z ak=>
    simp only [jr.new.injEq] at h
    obtain ⟨rfl,rfl,rfl,rfl⟩:=h
    obtain ⟨v,J,aa,rfl,aG⟩:=zn (w:=w) (lim:=lim) ak
    exact Cw _ t _ (sM aG aw) (.pointer (some ⟨w.heap.size,0,none⟩)) (by simp [execOp,cM,Instr.alloc,newVar,newRow,J]) (.ptr _) rfl
  · cases h
 case h_8 t x y cM=>
  split at h
  · next e k en hu an aK=>
    split at h
    · next z ak=>
      simp only [jr.new.injEq] at h
      obtain ⟨rfl,rfl,rfl,rfl⟩:=h
      obtain ⟨J,aa,aj,aG,rfl,bu,cD,cK⟩:=aw
      obtain ⟨v,g1,g2,rfl,g4⟩:=zn (w:=w) (lim:=lim) ak
      have zs:=hE st (gR x (by rw [cM];simp [Op.operands]))
      have uI:=hE st (gR y (by rw [cM];simp [Op.operands]))
      rw [an] at zs;rw [aK] at uI
      obtain ⟨ex,Od,Oe⟩:=mm zs
      obtain ⟨Cx,_,_⟩:=mm uI
      have hw:=BM .i64 k Od Oe
      cases ad:P.info? e with
      |none=>simp [eV,Program.underlying,ad] at aa
      |some i=>
       obtain ⟨jL,pt⟩:=w5 ad
       rw [jL] at aj aG;rw [pt] at cD
       have pw:v.cells.size=i.size:=by rw [←zh];exact aj
       obtain ⟨Cy,hD,cq,bl,_,gG⟩:=Cc (P:=P) (e:=e) (by rw [ak];rfl)
       rw [ad] at cq
       obtain rfl:i=Cy:=by simpa using cq
       have zt:hD=v:=by
        have:=g1
        simp [zeroValue,typeInfo,ad,bl] at this
        exact this
       subst zt
       have hmul:(i.bytes:Int)*k=k*i.bytes:=Int.mul_comm _ _
       have hq:=run_make (P:=P) w t e i hD hu ad bl .i64 .i64 k k bu (Int.le_refl _) (by omega) (by omega)
       refine Cw (madeCells hD.cells (k.toNat*i.size)) e _ ?_ (.slice (some ⟨w.heap.size,0,none⟩) k.toNat k.toNat) ?_ (.ms _ _ _ (Nat.le_refl _) (by simp only [maxLen];omega)) rfl
       · refine ⟨by simp [zh,pw,size_madeCells],fun j aD=>?_⟩
         have kk:j<k.toNat*i.size:=by simpa [zh,pw] using aD
         have G1:=Nat.mod_lt j aG
         rw [Ob _ i.size _ aj aG j kk]
         have aF:(madeCells hD.cells (k.toNat*i.size)).getD j undef=hD.cells.getD (j%i.size) undef:=by
          unfold madeCells
          rw [Array.getD_eq_getD_getElem?,Array.getElem?_map,Array.getElem?_range,if_pos kk]
          simp [getElem!_pos,pw,G1,Array.getD]
         rw [aF]
         exact (sM g4 J).2 _ (by rw [aj];exact G1)
       · simp only [execOp,cM,ex,Cx,Sem.run_bind,hq,Result.andThen_ok];rfl
    · cases h
  · cases h
 case h_9 t r cM=>
  split at h
  · next k e hu aA=>
    simp only [jr.new.injEq] at h
    obtain ⟨rfl,rfl,rfl,rfl⟩:=h
    obtain ⟨J,aa⟩:=G0 st
    refine ⟨.map (some w.heap.size),_,w.heap.size,?_,J,aa, .map _,uL st _⟩
    cases r with
    |none=>simp [execOp,cM,Instr.makeMap,fV hu]
    |some y=>simp at aA
  · next k e Wy bB hu aA=>
    simp only [jr.new.injEq] at h
    obtain ⟨rfl,rfl,rfl,rfl⟩:=h
    obtain ⟨J,aa⟩:=G0 st
    refine ⟨.map (some w.heap.size),_,w.heap.size,?_,J,aa, .map _,uL st _⟩
    cases r with
    |none=>simp at aA
    |some y=>
     simp at aA
     have aK:=hE st (gR y (by rw [cM];simp [Op.operands]))
     rw [aA] at aK
     obtain ⟨Cx,_,_⟩:=mm aK
     simp [execOp,cM,Instr.makeMap,fV hu,Cx,asInt,asIntOf]
  · cases h
 all_goals first
  |cases h
  |(split at h<;>cases h)
  |(split at h<;>(first|cases h|(split at h<;>first|cases h|(split at h<;>cases h))))
end
end Go.bg
end
section
namespace Go.bg
open Go
section
variable {P:Program} {F:Nat→Prop} {lim:Nat→Nat} {w:World} {n:Nat} {fr:Fr} {m:ae} {ca:Act} {bL:List Nat}
def Place.oS:Place→Bool
 | .slot _=>true
 |_=>false
theorem bd.split (h:bd F lim w n fr m ca []):∃nW:Nat→Prop,(∀b,F b→nW b)∧bd nW lim w 0 [] m nZ []∧
 ∀lim' w' m' os,bd nW lim' w' 0 [] m' nZ os→dW nW w lim w' lim'→bd F lim' w' n fr m' ca os:=by
 obtain ⟨os,cI,bW,h⟩:=h
 refine ⟨fun b=>F b∨(bW b).oS=true,fun b ah=> .inl ah,⟨os,cI,fun c=>if (bW c).oS then .none else bW c,rfl,rfl,fun t x an=>by simp [Fr.get] at an,fun b o ah=>?_,fun t x an=>by simp [Fr.get] at an,fun b o ah i=>⟨(h.eF b o ah i).1,fun c ao=>by simp [(h.eF b o ah i).2 c ao,Place.oS]⟩,⟨by simp,by simp⟩,fun c ao=>?_,fun b ah=>?_⟩,?_⟩
 · refine ⟨(h.mem b o ah).1,(h.mem b o ah).2.1,fun aZ=>?_⟩
   rcases aZ with aZ|aZ
   · exact (h.mem b o ah).2.2 aZ
   · have:=(h.free b (by intro e;rw [e] at aZ;simp [Place.oS] at aZ)).2.1
     rw [ah] at this;cases this
 · by_cases aw:(bW c).oS=true
   · simp [aw] at ao
   · simp only [aw] at ao
     have:=h.free c (by simpa using ao)
     exact ⟨fun aZ=>aZ.elim this.1 aw,this.2⟩
 · have:=h.fresh b ah
   refine ⟨this.1,fun aZ=>aZ.elim this.2.1 (fun aw=>?_),this.2.2⟩
   have:=(h.free b (by intro e;rw [e] at aw;simp [Place.oS] at aw)).2.2
   omega
 · intro lim' w' m' bL ⟨M3,Of,G2,k⟩ fg
   have fN:∀c,G2 c≠ .none→¬(bW c).oS=true:=fun c ao aw=>(k.free c ao).1 (.inr aw)
   refine ⟨os,Of,fun c=>if (bW c).oS then bW c else G2 c,h.size,h.defers,fun t x an=>⟨(h.eL t x an).1,(h.eL t x an).2.ho fg.mono fg.cell (fun c ao=>fg.res c (.inr ?_))⟩,fun b o ah=>?_,fun t x an=>⟨(h.fj t x an).1,fun c ao=>?_⟩,fun b o ah i=>⟨(k.eF b o ah i).1,fun c ao=>?_⟩,⟨k.gK.1,fun c ao=>?_⟩,fun c ao=>?_,fun b ah=>?_⟩
   · rw [(h.fj t x an).2 c ao];rfl
   · exact ⟨(k.mem b o ah).1,(k.mem b o ah).2.1,fun aZ=>(k.mem b o ah).2.2 (.inl aZ)⟩
   · have:=(h.fj t x an).2 c ao
     simp [this,Place.oS]
   · have J:=(k.eF b o ah i).2 c ao
     have:=fN c (by rw [J];simp)
     simp [this,J]
   · have J:=k.gK.2 c ao
     have:=fN c (by rw [J];simp)
     simp [this,J]
   · by_cases aw:(bW c).oS=true
     · have J:=h.free c (by intro e;rw [e] at aw;simp [Place.oS] at aw)
       refine ⟨J.1,?_,Nat.lt_of_lt_of_le J.2.2 fg.size⟩
       cases hm:m' c with
       |none=>rfl
       |some o=>exact ((k.mem c o hm).2.2 (.inr aw)).elim
     · have J:=k.free c (by simpa [aw] using ao)
       exact ⟨fun aZ=>J.1 (.inl aZ),J.2⟩
   · have:=k.fresh b ah
     exact ⟨this.1,fun aZ=>this.2.1 (.inl aZ),this.2.2⟩
theorem zu {f:FuncId} {args:List ab} {K:ab→ae→Prop} (ao:bh P f args m K) (st:bd F lim w n fr m ca []) {cargs:Array Value} (aw:cargs.size=args.length) (aA:∀i,i<args.length→aN w lim (cargs.getD i undef) (args.getD i .aV) [])
 {o:Oper} {next:Act→World→Prop} {Q:Exit→Act→World→Prop} (he:∀fn,P.funcs[f]?=some fn→fn.body.isSome=true→(fn.name== "runtime.NumGoroutine")=false→(execOp ca.eval o).run P w= .ok (.enter f cargs) w)
 (aM:∀v x lim' w' m' os,K x m'→aN w' lim' v x os→bd F lim' w' n fr m' ca os→dW F w lim w' lim'→next (ca.put o.dst v) w'):o.wp P ca w next Q:=by
 obtain ⟨⟨fn,J,aa,aj⟩,xd⟩:=ao
 obtain ⟨nW,ez,s1,s2⟩:=st.split
 unfold Oper.wp
 rw [he fn J aa aj,Oper.upon_enter]
 refine (xd nW lim w cargs aw aA s1).mono fun e w' ⟨v,x,lim',m',os,he,U,fM,kL,ft⟩=>?_
 subst he
 exact aM v x lim' w' m' os U fM (s2 lim' w' m' os kL ft) (ft.weaken ez)
theorem xe {f:FuncId} {fn:Func} (args:Array Value) (J:P.funcs[f]?=some fn) (aa:fn.body.isSome=true) (aj:(fn.name== "runtime.NumGoroutine")=false):(callFunc f args).run P w= .ok (.enter f args) w:=by
 have G3:fn.body.isNone=false:=by cases h:fn.body<;>simp_all
 have xf:¬fn.name= "runtime.NumGoroutine":=by simpa using aj
 have Og:¬fn.body=none:=by intro e;rw [e] at aa;cases aa
 simp [callFunc,J,xf,Og]
theorem Oh {ops:Array Oper} {stl:List Nat} {o:Oper} {K jq:Fr→ae→Prop} (U:∀fr m,K fr m→jq fr m) (h:n2 P ops stl o K fr m):n2 P ops stl o jq fr m:=by
 unfold n2 at h ⊢
 split at h
 · split at h
   · exact ⟨h.1,U _ _ h.2⟩
   · exact ⟨h.1,U _ _ h.2⟩
   · exact ⟨h.1,fun b ah=>U _ _ (h.2 b ah)⟩
   · refine h.mono fun x m' an=>?_
     unfold zc at an ⊢
     split at an<;>exact U _ _ an
   · exact h
 · split at h
   · split at h
     · split at h
       · obtain ⟨x,J,aa⟩:=h
         exact ⟨x,J,U _ _ aa⟩
       · split at h
         · obtain ⟨x,J,aa⟩:=h
           exact ⟨x,J,U _ _ aa⟩
         · exact h
       · split at h
         · exact ⟨h.1,U _ _ h.2⟩
         · exact h
     · exact h
   · exact h
theorem bd.fh {d:Option Nat} (h:bd F lim w n fr m ca bL) (aY:∀t,d=some t→t<n) {v:Value} {x:ab} (an:aN w lim v x bL):bd F lim w n (bg.fh fr d x) m (ca.put d v) []:=by
 cases d with
 |none=>exact h.drop
 |some d=>exact h.Gb (aY d rfl) an
theorem G4 {v:Value} {x:ab} {os:List Nat} (h:aN w lim v x os):aN w lim v (zd true x) os:=by
 unfold zd
 split
 · simpa using h
 · exact h
theorem zv {op:Op} (st:bd F lim w n fr m ca bL) {y:Operand} (aK:k6 y=true):aN w lim (ca.eval y) (rp (br fr) true op y) []:=by
 unfold rp
 split
 · exact G4 (hE st aK)
 · exact Gj (G4 (hE st aK))
theorem xg {args:Array Operand} {a:Operand→ab} (h:∀y∈args.toList,aN w lim (ca.eval y) (a y) []):(args.map ca.eval).size=(args.toList.map a).length∧∀i,i<(args.toList.map a).length→aN w lim ((args.map ca.eval).getD i undef) ((args.toList.map a).getD i .aV) []:=by
 refine ⟨by simp,fun i ad=>?_⟩
 simp only [List.length_map] at ad
 have fo:i<args.size:=by simpa using ad
 have aF:(args.map ca.eval).getD i undef=ca.eval args[i]:=by simp [Array.getD,fo]
 have az:(args.toList.map a).getD i .aV=a args[i]:=by simp [List.getD_eq_getElem?_getD,fo]
 rw [aF,az]
 exact h _ (by simp)
theorem Oi {e:Value} {f:FuncId} {first nk args:List ab} {cs:Array Value} (aZ:aN w lim e (.func (.func f) first nk) []) (dZ:cs.size=args.length∧∀i,i<args.length→aN w lim (cs.getD i undef) (args.getD i .aV) []):
 ∃eG kK:Array Value,e= .func (.func f) eG kK∧(eG++cs++kK).size=(first++args++nk).length∧∀i,i<(first++args++nk).length→aN w lim ((eG++cs++kK).getD i undef) ((first++args++nk).getD i .aV) []:=by
 cases aZ with
 |func _ eG kK _ _ J aa aj aG=>
  refine ⟨eG,kK,rfl,by simp [J,aa,dZ.1],fun i ad=>?_⟩
  simp only [List.length_append] at ad
  by_cases i1:i<first.length
  · have aF:(eG++cs++kK).getD i undef=eG.getD i undef:=by
     simp [Array.getD_eq_getD_getElem?,Array.getElem?_append,J,i1,show i<first.length+cs.size from by omega]
    rw [aF,oQ (by simp;omega),oQ i1];exact aj i i1
  · by_cases i2:i<first.length+cs.size
    · have aF:(eG++cs++kK).getD i undef=cs.getD (i- first.length) undef:=by
       simp [Array.getD_eq_getD_getElem?,Array.getElem?_append,J,i1,i2,show i- first.length<cs.size from by omega]
      rw [aF,oQ (by simp;omega),qk (by omega)];exact dZ.2 _ (by omega)
    · have aF:(eG++cs++kK).getD i undef=kK.getD (i- (first.length+cs.size)) undef:=by
       simp [Array.getD_eq_getD_getElem?,Array.getElem?_append,J,i1,i2,show ¬i- first.length<cs.size from by omega,Nat.sub_sub]
      have hlen:(first++args).length=first.length+cs.size:=by simp [dZ.1]
      rw [aF,qk (by omega),hlen];exact aG _ (by omega)
theorem Oj {stl:List Nat} {o:Oper} {f:FuncId} {args:List ab} (h:fl P m (br fr) stl o.dst o.op= .call f args) (st:bd F lim w n fr m ca []) (al:fp n o=true):
 ∃cargs:Array Value,cargs.size=args.length∧(∀i,i<args.length→aN w lim (cargs.getD i undef) (args.getD i .aV) [])∧
  ∀fn,P.funcs[f]?=some fn→fn.body.isSome=true→(fn.name== "runtime.NumGoroutine")=false→(execOp ca.eval o).run P w= .ok (.enter f cargs) w:=by
 have gR:=kI al
 unfold fl at h
 split at h
 case h_13 g ld di cM=>
  simp only [jr.call.injEq] at h
  obtain ⟨rfl,rfl⟩:=h
  have dZ:=xg (ca:=ca) (a:=cA (br fr)) (args:=ld) (fun y aK=>hE st (gR y (by rw [cM];simp [Op.operands,Call.operands];exact .inr (by simpa using aK))))
  refine ⟨ld.map ca.eval,dZ.1,dZ.2,fun fn J aa aj=>?_⟩
  simp [execOp,cM,resolve,Deferred.ofValue,Act.eval,invoke,xe _ J aa aj]
 case h_14 t ld di cM=>
  split at h
  · next g first nk nq=>
    simp only [jr.call.injEq] at h
    obtain ⟨rfl,rfl⟩:=h
    have dZ:=xg (ca:=ca) (a:=cA (br fr)) (args:=ld) (fun y aK=>hE st (gR y (by rw [cM];simp [Op.operands,Call.operands];exact .inr (by simpa using aK))))
    have aZ:=hE st (x:= .tmp t) rfl
    simp only [cA,nq,ab.plain] at aZ
    generalize he:ca.eval (.tmp t)=e at aZ
    cases aZ with
    |func _ eG kK _ _ J aa aj aG=>
     refine ⟨eG++ld.map ca.eval++kK,by simp [J,aa],fun i ad=>?_,fun fn g1 g2 g3=>?_⟩
     · simp only [List.length_append,List.length_map,Array.length_toList] at ad
       by_cases i1:i<first.length
       · have aF:(eG++ld.map ca.eval++kK).getD i undef=eG.getD i undef:=by
          simp [Array.getD_eq_getD_getElem?,Array.getElem?_append,J,i1,show i<first.length+ld.size from by omega]
         rw [aF,oQ (by simp;omega),oQ i1];exact aj i i1
       · by_cases i2:i<first.length+ld.size
         · have aF:(eG++ld.map ca.eval++kK).getD i undef=(ld.map ca.eval).getD (i- first.length) undef:=by
            simp [Array.getD_eq_getD_getElem?,Array.getElem?_append,J,i1,i2,show i- first.length<ld.size from by omega]
           rw [aF,oQ (by simp;omega),qk (by omega)];exact dZ.2 _ (by simp;omega)
         · have aF:(eG++ld.map ca.eval++kK).getD i undef=kK.getD (i- (first.length+ld.size)) undef:=by
            simp [Array.getD_eq_getD_getElem?,Array.getElem?_append,J,i1,i2,show ¬i- first.length<ld.size from by omega,Nat.sub_sub]
           have hlen:(first++ld.toList.map (cA (br fr))).length=first.length+ld.size:=by simp
           rw [aF,qk (by omega),hlen];exact aG _ (by omega)
     · simp [execOp,cM,resolve,he,Deferred.ofValue,invoke,xe _ g1 g2 g3]
  · cases h
 all_goals first
  |cases h
  |(split at h<;>cases h)
  |(split at h<;>(first|cases h|(split at h<;>first|cases h|(split at h<;>cases h))))
def G5:Value→Option Bool
 | .bool b=>some b
 |_=>none
theorem Ol {v:Value} {x:ab} {b z:Bool} {os:List Nat} (ak:uG x b=some z) (aA:aN w lim v x os):(G5 v==some b)=z:=by
 unfold uG at ak
 split at ak
 · obtain rfl:=Option.some.inj ak
   cases aA
   rename_i c
   cases c<;>rfl
 · obtain rfl:=Option.some.inj ak
   cases aA
   rename_i c
   cases c<;>rfl
 · obtain rfl:=Option.some.inj ak
   cases aA with
   |oI _ _ _ aA=>
    cases aA
    rename_i c
    cases c<;>rfl
   |mg=>rfl
 · obtain rfl:=Option.some.inj ak
   cases aA with
   |oI _ _ _ aA=>
    cases aA
    rename_i c
    cases c<;>rfl
   |mg=>rfl
 · cases ak
theorem Om {ops:Array Oper} {o:Oper} {j g:Nat} {b z:Bool} (bc:o.guard=some (j,b)) (aD:(ops[j]?).bind (·.dst)=some g) (st:bd F lim w n fr m ca bL) (ak:uG (br fr g) b=some z):
 Region.wanted o (yielded ops ca.tmps)=z:=by
 obtain ⟨os,cI,bW,h⟩:=st
 cases aC:fr.get g with
 |none=>simp [br,aC,uG] at ak
 |some x=>
  simp only [br,aC,Option.getD_some] at ak
  obtain ⟨cl,aA⟩:=h.eL g _ aC
  have oR:g<ca.tmps.size:=by rw [h.size];exact cl
  have uM:ca.tmps[g]?=some (ca.tmps.getD g undef):=by
   rw [Array.getElem?_eq_getElem oR]
   simp [Array.getD,oR]
  have:=Ol ak aA
  simp only [Region.wanted,bc,yielded,aD,Option.bind_some,uM]
  rw [←this]
  generalize ca.tmps.getD g undef=v
  cases v<;>rfl
theorem Cz {ops:Array Oper} {o:Oper} {l:List Oper} {K:Fr→ae→Prop} {j g d:Nat} {b z:Bool} {x:ab} (bc:o.guard=some (j,b)) (aD:(ops[j]?).bind (·.dst)=some g) (aY:o.dst=some d) (iI:d<n) (ao:uG (br fr g) b=some z)
 (hq:z=true→∀F lim w ca,bd F lim w n fr m ca []→∀(next:Act→World→Prop) Q,(∀v lim' w',bd F lim' w' n fr m ca []→aN w' lim' v x []→dW F w lim w' lim'→next (ca.put o.dst v) w')→o.wp P ca w next Q)
 (U:b6 P n ops l K (fr.put d (.lazy z x)) m):b6 P n ops (o::l) K fr m:=by
 intro F lim w ca Q st aU
 have hw:=Om (ops:=ops) bc aD st ao
 unfold wpList
 by_cases jh:z=true
 · rw [if_pos (by rw [hw];exact jh)]
   refine .inl (hq jh F lim w ca st _ _ fun v lim' w' s1 s2 j5=>?_)
   refine U.from aU ?_ j5
   rw [aY,jh]
   exact s1.set iI (.oI _ _ _ s2)
 · have aZ:z=false:=by simpa using jh
   rw [if_neg (by rw [hw,aZ];simp)]
   refine U.from aU ?_ (.refl _ _ _)
   rw [aY,aZ]
   exact st.set iI (.mg _)
theorem xh {ops:Array Oper} {stl:List Nat} {o:Oper} {l:List Oper} {K:Fr→ae→Prop} (al:fp n o=true) (aM:gS n o=true) (h:n2 P ops stl o (b6 P n ops l K) fr m):b6 P n ops (o::l) K fr m:=by
 unfold n2 at h
 split at h
 · next bc=>
   refine b6.step bc fun F lim w ca st next Q pz=>?_
   split at h
   · next side ss m' x aT=>
     obtain ⟨v,w',lim',os,J,aa,aj,aG⟩:=Ct (P:=P) aT h.1 st al aM
     exact n0 J (pz lim' w' _ _ _ h.2 (aa.fh (fun t aq=>j4 al aq) aj) aG)
   · next side ss m' aT=>
     obtain ⟨w',lim',J,aa,aj⟩:=N9 (P:=P) aT h.1 st al aM
     exact Gs J (pz lim' w' _ _ _ h.2 (aa.fh (fun t aq=>j4 al aq) (.aV _)) aj)
   · next side ss mk hf aT=>
     obtain ⟨v,w',b,J,aa,aj,aG,aR⟩:=Oc (P:=P) aT h.1 st al
     exact n0 J (pz lim w' _ _ _ (h.2 b aa) (aj.fh (fun t aq=>j4 al aq) aG) aR)
   · next f args aT=>
     obtain ⟨cargs,J,aa,aj⟩:=Oj (P:=P) aT st al
     refine zu h st J aa aj fun v x lim' w' m' os U fM kL ft=>pz lim' w' (fh fr o.dst x) m' _ ?_ (kL.fh (fun t aq=>j4 al aq) fM) ft
     unfold zc at U
     cases aY:o.dst<;>simpa [aY,fh] using U
   · exact h.elim
 · next j b bc=>
   split at h
   · next g d aD aY=>
     split at h
     · next c ao=>
       have iI:=j4 al aY
       split at h
       · next f args di cM=>
         obtain ⟨x,J,aa⟩:=h
         refine Cz bc aD aY iI ao (fun jh F lim w ca st next Q pz=>?_) aa
         rw [jh] at J
         have xd:=J rfl (fun bH m'=>bH=x∧m'=m) ⟨rfl,rfl⟩
         have dZ:=xg (ca:=ca) (a:=rp (br fr) true o.op) (args:=args) (fun y aK=>zv st (kI al y (by rw [cM];simp [Op.operands,Call.operands];exact .inr (by simpa using aK))))
         refine zu xd st dZ.1 dZ.2 (fun fn g1 g2 g3=>by simp [execOp,cM,resolve,Deferred.ofValue,Act.eval,invoke,xe _ g1 g2 g3]) fun v bH lim' w' m' os U fM kL ft=>?_
         obtain ⟨rfl,rfl⟩:=U
         exact pz v lim' w' kL.drop fM.plain ft
       · next t args di cM=>
         split at h
         · next f first nk G6=>
           obtain ⟨x,J,aa⟩:=h
           refine Cz bc aD aY iI ao (fun jh F lim w ca st next Q pz=>?_) aa
           rw [jh] at J G6
           have xd:=J rfl (fun bH m'=>bH=x∧m'=m) ⟨rfl,rfl⟩
           have dZ:=xg (ca:=ca) (a:=rp (br fr) true o.op) (args:=args) (fun y aK=>zv st (kI al y (by rw [cM];simp [Op.operands,Call.operands];exact .inr (by simpa using aK))))
           have ez:=zv (op:=o.op) st (y:= .tmp t) rfl
           rw [G6] at ez
           obtain ⟨eG,kK,he,hW,j1⟩:=Oi ez dZ
           refine zu xd st hW j1 (fun fn g1 g2 g3=>by simp [execOp,cM,resolve,he,Deferred.ofValue,invoke,xe _ g1 g2 g3]) fun v bH lim' w' m' os U fM kL ft=>?_
           obtain ⟨rfl,rfl⟩:=U
           exact pz v lim' w' kL.drop fM.plain ft
         · exact h.elim
       · split at h
         · next side x aU=>
           refine Cz bc aD aY iI ao (fun jh F lim w ca st next Q pz=>?_) h.2
           rw [jh] at aU h
           obtain ⟨v,J,aa⟩:=zb (P:=P) (w:=w) (lim:=lim) aU (h.1 rfl) (ca:=ca) (fun y aK=>zv st (kI al y aK)) st.uE
           exact n0 J (pz v lim w st aa (.refl _ _ _))
         · exact h.elim
     · exact h.elim
   · exact h.elim
def kM (n:Nat) (ops:Array Oper) (ks:List Nat):Bool:=(ops.toList.all fun o=>fp n o&&gS n o)&&ks.all fun t=>decide (t<n)
def Fr.init:Nat→List ab→Fr
 |_,[]=>[]
 |i,x::r=>(i,x)::Fr.init (i+1) r
theorem Fr.On:∀(l:List ab) (k t:Nat) (x:ab),(Fr.init k l).get t=some x→k≤t∧t- k<l.length∧l.getD (t- k) .aV=x:=by
 intro l
 induction l with
 |nil=>intro k t x h;simp [Fr.init,Fr.get] at h
 |cons y l aO=>
  intro k t x h
  simp only [Fr.init,Fr.get] at h
  by_cases e:k=t
  · subst e
    simp at h
    subst h
    simp
  · rw [if_neg e] at h
    obtain ⟨J,aa,aj⟩:=aO (k+1) t x h
    refine ⟨by omega,by simp;omega,?_⟩
    rw [show t- k=(t- (k+1))+1 from by omega,List.getD_cons_succ]
    exact aj
def lf (P:Program) (fr:Fr) (m:ae):ResultVar→Option (Prop×ab)
 | .tmp t=>some (True,br fr t)
 | .cell a t=>
   match br fr a with
   | .ptr ⟨b,off,none⟩=>
     match m b with
     |some (.cells l)=>some (jY P t l off,(apart P t l off).plain)
     |_=>none
   |_=>none
def uN (P:Program) (fn:Func) (fr:Fr) (m:ae) (K:ab→ae→Prop):Prop:=
 match fn.results.toList with
 |[r]=>
  match lf P fr m r with
  |some (side,x)=>side∧∃m',(∀b o,m' b=some o→m b=some o)∧K x m'
  |none=>False
 |[r,s]=>
  match lf P fr m r,lf P fr m s with
  |some (side,x),some (pA,y)=>side∧pA∧∃m',(∀b o,m' b=some o→m b=some o)∧K (.tuple [x,y.plain]) m'
  |_,_=>False
 |[r,s,t]=>
  match lf P fr m r,lf P fr m s,lf P fr m t with
  |some (side,x),some (pA,y),some (xi,z)=>side∧pA∧xi∧∃m',(∀b o,m' b=some o→m b=some o)∧K (.tuple [x,y.plain,z.plain]) m'
  |_,_,_=>False
 |[]=>∃m',(∀b o,m' b=some o→m b=some o)∧K (.tuple []) m'
 |[r,s,t,u]=>
  match lf P fr m r,lf P fr m s,lf P fr m t,lf P fr m u with
  |some (side,x),some (pA,y),some (xi,z),some (G7,a)=>side∧pA∧xi∧G7∧∃m',(∀b o,m' b=some o→m b=some o)∧K (.tuple [x.plain,y.plain,z.plain,a.plain]) m'
  |_,_,_,_=>False
 |_=>False
def Oo (P:Program) (fn:Func) (K:ab→ae→Prop):Exit→Fr→ae→Prop
 | .ret,fr,m| .normal,fr,m=>uN P fn fr m K
 |_,_,_=>False
end
end Go.bg
end
section
namespace Go.bg
open Go
section
variable {P:Program} {F:Nat→Prop} {lim:Nat→Nat} {w:World} {n:Nat} {fr:Fr} {m:ae} {ca:Act} {bL:List Nat}
theorem bd.toMem (h:bd F lim w n fr m ca bL):bd F lim w 0 [] m nZ bL:=by
 obtain ⟨os,cI,bW,h⟩:=h
 exact ⟨os,cI,bW,rfl,rfl,fun t x an=>by simp [Fr.get] at an,h.mem,fun t x an=>by simp [Fr.get] at an,h.eF,h.gK,h.free,h.fresh⟩
theorem bd.defers (h:bd F lim w n fr m ca bL):ca.defers=[]:=by
 obtain ⟨os,cI,bW,h⟩:=h
 exact h.defers
theorem bd.G8 (h:bd F lim w n fr m ca []) (s:Nat):∃os,bd F lim w 0 [] m nZ os∧aN w lim (ca.tmps.getD s undef) (br fr s) os:=by
 cases bc:fr.get s with
 |none=>exact ⟨[],h.toMem,by simp [br,bc];exact .aV _⟩
 |some x=>
  obtain ⟨os,J,aa⟩:=h.take bc
  exact ⟨os,J.toMem,by simpa [br,bc] using aa⟩
def nr (P:Program) (tmps:Array Value) (w:World) (v:Value):ResultVar→Prop
 | .tmp t=>v=tmps.getD t undef
 | .cell a t=>∃p,tmps.getD a undef= .pointer (some p)∧(loadVar t p).run P w= .ok v w
theorem pB {r:ResultVar} {side:Prop} {x:ab} (h:lf P fr m r=some (side,x)) (aw:side) (st:bd F lim w n fr m ca []):∃v os,nr P ca.tmps w v r∧bd F lim w 0 [] m nZ os∧aN w lim v x os:=by
 cases r with
 |tmp t=>
  obtain ⟨rfl,rfl⟩:=some_inj h
  obtain ⟨os,J,aa⟩:=st.G8 t
  exact ⟨_,os,rfl,J,aa⟩
 |cell a t=>
  simp only [lf] at h
  split at h
  · next b off nq=>
    split at h
    · next l hm=>
      obtain ⟨rfl,rfl⟩:=some_inj h
      obtain ⟨os,gu⟩:=st.uE b _ hm
      obtain ⟨cs,e,oss,rk,cF,aA⟩:=BS gu
      have aQ:ca.tmps.getD a undef= .pointer (some ⟨b,off,none⟩):=by
       obtain ⟨e0,_,aa⟩:=st.G8 a
       rw [nq] at aa
       exact rj aa
      obtain ⟨v,J,aa⟩:=wW (P:=P) (w:=w) (lim:=lim) (t:=t) (b:=b) (off:=0) (l:=ab.fD l) (f:=fun i=>cs.getD i undef) (k:=off) (by simpa [jY,ab.iG] using aw)
       (fun i ad=>by
         have fo:i<cs.size:=by simpa [ab.iG,cF] using ad
         simp [World.cell?,rk,Array.getD,fo])
       (fun i ad=>by rw [nV];exact (aA i (by simpa [ab.iG] using ad)).plain)
      simp only [Nat.zero_add] at J
      have:apart P t (ab.fD l) off=(apart P t l off).plain:=by
       unfold apart
       split
       · simp [ab.plain,ab.iG,List.map_drop,List.map_take]
       · rw [nV]
      exact ⟨v,[],⟨_,aQ,J⟩,st.toMem,by rw [←this];exact aa⟩
    · cases h
  · cases h
def CA (tmps:Array Value):ResultVar→Sem Value
 | .tmp t=>pure (tmps.getD t undef)
 | .cell a t=>do loadVar t (←asAddr (tmps.getD a undef))
theorem zw (fn:Func) (tmps:Array Value):results fn tmps=(do let vs ←fn.results.mapM (CA tmps);pure (if h:vs.size=1 then vs[0] else .tuple vs):Sem Value):=by
 unfold results
 congr 1
theorem pC {tmps:Array Value} {v:Value} {r:ResultVar} (h:nr P tmps w v r):(CA tmps r).run P w= .ok v w:=by
 cases r with
 |tmp t=>simp only [nr] at h;subst h;rfl
 |cell a t=>
  obtain ⟨p,J,aa⟩:=h
  simp [CA,J,asAddr,aa]
theorem Oq {fn:Func} {tmps:Array Value} {r:ResultVar} {v:Value} (aZ:fn.results.toList=[r]) (h:nr P tmps w v r):(results fn tmps).run P w= .ok v w:=by
 have e:fn.results=#[r]:=by apply Array.ext';simpa using aZ
 rw [zw,e]
 simp [pC h]
theorem Ot {fn:Func} {tmps:Array Value} {r s:ResultVar} {v u:Value} (aZ:fn.results.toList=[r,s]) (h:nr P tmps w v r) (k:nr P tmps w u s):(results fn tmps).run P w= .ok (.tuple #[v,u]) w:=by
 have e:fn.results=#[r,s]:=by apply Array.ext';simpa using aZ
 rw [zw,e]
 simp [pC h,pC k]
theorem Ou {fn:Func} {tmps:Array Value} {r s t:ResultVar} {v u x:Value} (aZ:fn.results.toList=[r,s,t]) (h:nr P tmps w v r) (k:nr P tmps w u s) (j:nr P tmps w x t):(results fn tmps).run P w= .ok (.tuple #[v,u,x]) w:=by
 have e:fn.results=#[r,s,t]:=by apply Array.ext';simpa using aZ
 rw [zw,e]
 simp [pC h,pC k,pC j]
theorem Ov {fn:Func} {tmps:Array Value} {r s t q:ResultVar} {v u x y:Value} (aZ:fn.results.toList=[r,s,t,q]) (h:nr P tmps w v r) (k:nr P tmps w u s) (j:nr P tmps w x t) (i:nr P tmps w y q):(results fn tmps).run P w= .ok (.tuple #[v,u,x,y]) w:=by
 have e:fn.results=#[r,s,t,q]:=by apply Array.ext';simpa using aZ
 rw [zw,e]
 simp [pC h,pC k,pC j,pC i]
theorem Ow {v u s t:Value} {x y z a:ab} (h:aN w lim v x []) (k:aN w lim u y []) (j:aN w lim s z []) (l:aN w lim t a []):aN w lim (.tuple #[v,u,s,t]) (.tuple [x,y,z,a]) []:=by
 have:=aN.tuple (w:=w) (lim:=lim) #[v,u,s,t] [x,y,z,a] (fun _=>[]) (by simp) (fun i ad=>by
  have:i=0∨i=1∨i=2∨i=3:=by simp at ad;omega
  rcases this with rfl|rfl|rfl|rfl
  · exact h
  · exact k
  · exact j
  · exact l)
 rw [flatMap_nil] at this
 exact this
theorem Ox {v u:Value} {x y:ab} {os:List Nat} (h:aN w lim v x os) (k:aN w lim u y []):aN w lim (.tuple #[v,u]) (.tuple [x,y]) os:=by
 have:=aN.tuple (w:=w) (lim:=lim) #[v,u] [x,y] (fun i=>if i=0 then os else []) (by simp) (fun i ad=>by
  have:i=0∨i=1:=by simp at ad;omega
  rcases this with rfl|rfl
  · exact h
  · exact k)
 simpa [List.range_succ] using this
theorem Oy {v u s:Value} {x y z:ab} {os:List Nat} (h:aN w lim v x os) (k:aN w lim u y []) (j:aN w lim s z []):aN w lim (.tuple #[v,u,s]) (.tuple [x,y,z]) os:=by
 have:=aN.tuple (w:=w) (lim:=lim) #[v,u,s] [x,y,z] (fun i=>if i=0 then os else []) (by simp) (fun i ad=>by
  have:i=0∨i=1∨i=2:=by simp at ad;omega
  rcases this with rfl|rfl|rfl
  · exact h
  · exact k
  · exact j)
 simpa [List.range_succ] using this
theorem Oz {fn:Func} {K:ab→ae→Prop} (h:uN P fn fr m K) (st:bd F lim w n fr m ca []):
 ∃v x m' os,(results fn ca.tmps).run P w= .ok v w∧K x m'∧aN w lim v x os∧bd F lim w 0 [] m' nZ os:=by
 unfold uN at h
 split at h
 · next r aA=>
   split at h
   · next side x he=>
     obtain ⟨aw,m',hm,U⟩:=h
     obtain ⟨v,os,J,aa,aj⟩:=pB (P:=P) he aw st
     exact ⟨v,x,m',os,Oq aA J,U,aj,aa.sA hm⟩
   · exact h.elim
 · next r s aA=>
   split at h
   · next side x pA y he xj=>
     obtain ⟨aw,xk,m',hm,U⟩:=h
     obtain ⟨v,os,J,aa,aj⟩:=pB (P:=P) he aw st
     obtain ⟨u,e0,gv,fq,iJ⟩:=pB (P:=P) xj xk st
     exact ⟨_,_,m',os,Ot aA J gv,U,Ox aj iJ.plain,aa.sA hm⟩
   · exact h.elim
 · next r s t aA=>
   split at h
   · next side x pA y xi z he xj CB=>
     obtain ⟨aw,xk,CC,m',hm,U⟩:=h
     obtain ⟨v,os,J,aa,aj⟩:=pB (P:=P) he aw st
     obtain ⟨u,e0,gv,fq,iJ⟩:=pB (P:=P) xj xk st
     obtain ⟨s,OA,zx,xl,CD⟩:=pB (P:=P) CB CC st
     exact ⟨_,_,m',os,Ou aA J gv zx,U,Oy aj iJ.plain CD.plain,aa.sA hm⟩
   · exact h.elim
 · next aA=>
   obtain ⟨m',hm,U⟩:=h
   have e:fn.results=#[]:=by apply Array.ext';simpa using aA
   refine ⟨.tuple #[],_,m',[],?_,U,?_,st.toMem.sA hm⟩
   · simp [results,e]
   · have:=aN.tuple (w:=w) (lim:=lim) #[] [] (fun _=>[]) rfl (fun i ad=>by simp at ad)
     simpa using this
 · next r s t q aA=>
   split at h
   · next side x pA y xi z G7 a he xj CB OB=>
     obtain ⟨aw,xk,CC,oT,m',hm,U⟩:=h
     obtain ⟨v,os,J,aa,aj⟩:=pB (P:=P) he aw st
     obtain ⟨u,e0,gv,fq,iJ⟩:=pB (P:=P) xj xk st
     obtain ⟨s,OA,zx,xl,CD⟩:=pB (P:=P) CB CC st
     obtain ⟨t,Wz,i1,i2,i3⟩:=pB (P:=P) OB oT st
     exact ⟨_,_,m',[],Ov aA J gv zx i1,U,Ow aj.plain iJ.plain CD.plain i3.plain,st.toMem.sA hm⟩
   · exact h.elim
 · exact h.elim
theorem G9 {f:FuncId} {fn:Func} {c:Code} {args:List ab} {K:ab→ae→Prop} (aZ:P.funcs[f]?=some fn) (ah:fn.body=some c) (CE:(fn.name== "runtime.NumGoroutine")=false) (j3:args.length≤fn.ntmps)
 (h:dS P fn.ntmps c (Oo P fn K) (Fr.init 0 args) m):bh P f args m K:=by
 refine ⟨⟨fn,aZ,by rw [ah];rfl,CE⟩,fun F lim w cargs aw aA st=>calls_of_wp aZ ah ?_⟩
 have gE:bd F lim w fn.ntmps (Fr.init 0 args) m {tmps:=cargs++Array.replicate (fn.ntmps- cargs.size) undef,defers:=[]} []:=by
  obtain ⟨os,cI,bW,k⟩:=st
  refine ⟨fun _=>[],cI,bW,by simp;omega,rfl,fun t x an=>?_,k.mem,fun t x an=>by simp,k.eF,k.gK,k.free,k.fresh⟩
  obtain ⟨_,J,aa⟩:=Fr.On args 0 t x an
  simp only [Nat.sub_zero] at J aa
  refine ⟨by omega,?_⟩
  have e:(cargs++Array.replicate (fn.ntmps- cargs.size) undef).getD t undef=cargs.getD t undef:=by
   simp [Array.getD_eq_getD_getElem?,Array.getElem?_append,show t<cargs.size from by omega]
  rw [e,←aa]
  exact aA t J
 refine wp_mono (h F lim w _ gE) fun e a w' ⟨lim',bf,m',q,s1,fg⟩=>?_
 have Ha:uN P fn bf m' K→a.defers=[]∧∃v,(results fn a.tmps).run P w'= .ok v w'∧∃hD x lim' m' os,Ending.returned v= .returned hD∧K x m'∧aN w' lim' hD x os∧bd F lim' w' 0 [] m' nZ os∧dW F w lim w' lim':=fun q=>by
  obtain ⟨v,x,oN,os,J,aa,aj,aG⟩:=Oz q s1
  exact ⟨s1.defers,v,J,v,x,lim',oN,os,rfl,aa,aj,aG,fg⟩
 cases e with
 |ret=>exact Ha q
 |normal=>exact Ha q
 |_=>exact q.elim
end
end Go.bg
end
section
namespace Go.bg
open Go
section
variable {P:Program}
theorem OC {m:ae} {a bZ:Operand→ab}:∀(op:Op),(∀y∈op.operands.toList,a y=bZ y)→bS P m a op=bS P m bZ op:=by
 intro op h
 cases op with
 |call c=>
  obtain ⟨BY,args,di⟩:=c
  cases BY with
  |builtin b=>
   have cN:∀y∈args.toList,a y=bZ y:=fun y aK=>h y (by simpa [Op.operands,Call.operands] using aK)
   cases b with
   |len=>
    simp only [bS]
    cases an:args[0]? with
    |none=>rfl
    |some x=>
     have:=cN x (by rw [Array.mem_toList_iff];exact Array.mem_of_getElem? an)
     cases di[0]?<;>simp only [this]
   |max=>
    simp only [bS]
    split
    · next x y pD=>rw [cN x (by rw [pD];simp),cN y (by rw [pD];simp)]
    · rfl
   |min=>
    simp only [bS]
    split
    · next x y pD=>rw [cN x (by rw [pD];simp),cN y (by rw [pD];simp)]
    · rfl
   |_=>rfl
  |_=>rfl
 |slice t x ba ad BX=>
  cases BX with
  |some z=>rfl
  |none=>
   have aF:ba.map a=ba.map bZ:=by cases ba with
    |none=>rfl
    |some y=>simp [h y (by simp [Op.operands])]
   have az:ad.map a=ad.map bZ:=by cases ad with
    |none=>rfl
    |some y=>simp [h y (by simp [Op.operands])]
   simp only [bS,aF,az,h x (by simp [Op.operands])]
 |typeAssert x t u ok=>cases ok<;>simp [bS,h x (by simp [Op.operands])]
 |pick c x y=>simp only [bS,h c (by simp [Op.operands]),h x (by simp [Op.operands]),h y (by simp [Op.operands])]
 |binOp op t x y t2=>simp only [bS,h x (by simp [Op.operands]),h y (by simp [Op.operands])]
 |indexAddr t x y=>simp only [bS,h x (by simp [Op.operands]),h y (by simp [Op.operands])]
 |index t x y=>simp only [bS,h x (by simp [Op.operands]),h y (by simp [Op.operands])]
 |move x=>simp only [bS,h x (by simp [Op.operands])]
 |assign x=>simp only [bS,h x (by simp [Op.operands])]
 |load t x=>simp only [bS,h x (by simp [Op.operands])]
 |nilCheck x=>simp only [bS,h x (by simp [Op.operands])]
 |unOp op t x=>simp only [bS,h x (by simp [Op.operands])]
 |convert s d x=>simp only [bS,h x (by simp [Op.operands])]
 |makeInterface t x=>simp only [bS,h x (by simp [Op.operands])]
 |fieldAddr t x f=>simp only [bS,h x (by simp [Op.operands])]
 |field t x f=>simp only [bS,h x (by simp [Op.operands])]
 |extract x i=>simp only [bS,h x (by simp [Op.operands])]
 |_=>rfl
def tmpsOf (op:Op):List Nat:=op.operands.toList.flatMap n1
def slotsOf (ops:Array Oper) (o:Oper):List Nat:=
 (match o.guard with
 |some (j,_)=>(match (ops[j]?).bind (·.dst) with|some g=>[g]|none=>[])
 |none=>[])++tmpsOf o.op
theorem xm {raw ju:Nat→ab} {op:Op} (h:∀t∈tmpsOf op,raw t=ju t):∀y∈op.operands.toList,cA raw y=cA ju y:=by
 intro y aK
 cases y with
 |tmp t=>simp only [cA,h t (List.mem_flatMap.2 ⟨_,aK,by simp [n1]⟩)]
 |_=>rfl
def rA:ab→Bool→Option Bool
 | .bool c,true=>some c
 | .bool c,false=>some (!c)
 | .lazy false _,_=>some false
 |_,_=>none
def h0 (ops:Array Oper) (fr:Fr):Option (Nat×Bool)→Option Bool
 |none=>some true
 |some (j,b)=>
  match (ops[j]?).bind (·.dst) with
  |some g=>rA (br fr g) b
  |none=>none
def kl (P:Program) (m:ae) (c:ab) (raw:Nat→ab) (o:Oper):Option (Prop×ab):=
 match o.op with
 | .call ⟨.value (.func f),args,_⟩=>some (uF P f (args.toList.map (cA raw)) m c,c.plain)
 | .buildSlice t len parts=>
   match fl P m raw [] o.dst (.buildSlice t len parts) with
   | .val side [] _ x=>some (side,x.plain)
   |_=>none
 | .build t parts=>
   match fl P m raw [] o.dst (.build t parts) with
   | .val side [] _ x=>some (side,x.plain)
   |_=>none
 | .pick b x y=>
   match cA raw b with
   | .bool true=>some (True,cA raw x)
   | .bool false=>some (True,cA raw y)
   |_=>none
 |op=>bS P m (cA raw) op
def pv (P:Program) (ops:Array Oper) (m:ae) (c:ab) (raw:Nat→ab) (o:Oper):Option (Prop×ab):=
 match o.guard with
 |none=>kl P m c raw o
 |some (j,b)=>
  match (ops[j]?).bind (·.dst) with
  |some g=>
   match rA (raw g) b with
   |some true=>kl P m c raw o
   |some false=>some (True, .lazy false .aV)
   |none=>none
  |none=>none
theorem Hb {m:ae} {c:ab} {raw ju:Nat→ab} {o:Oper} (aq:∀t∈tmpsOf o.op,raw t=ju t):kl P m c raw o=kl P m c ju o:=by
 unfold kl
 split
 · next f args di cM=>
   have:args.toList.map (cA raw)=args.toList.map (cA ju):=List.map_congr_left fun y aK=>xm aq y (by rw [cM];simp [Op.operands,Call.operands];exact .inr (by simpa using aK))
   rw [this]
 · next t len parts cM=>
   have aQ:∀q∈parts.toList,cA raw q.2=cA ju q.2:=fun q aU=>xm aq q.2 (by rw [cM];simp [Op.operands];exact ⟨q.1,by simpa using aU⟩)
   have:fl P m raw [] o.dst (.buildSlice t len parts)=fl P m ju [] o.dst (.buildSlice t len parts):=by
    simp only [fl]
    split
    · rfl
    split
    · have aF:(parts.toList.map fun p=>cA raw p.2)=parts.toList.map fun p=>cA ju p.2:=List.map_congr_left aQ
      have az:(∀q∈parts.toList,(cA raw q.2).eH=true∧(cA raw q.2).cells.length=P.cellsOf ‹TypeId›)=(∀q∈parts.toList,(cA ju q.2).eH=true∧(cA ju q.2).cells.length=P.cellsOf ‹TypeId›):=by
       apply propext
       constructor
       · intro h q aU;rw [←aQ q aU];exact h q aU
       · intro h q aU;rw [aQ q aU];exact h q aU
      rw [aF,az]
    · rfl
   rw [this]
 · next t parts cM=>
   have aQ:∀q∈parts.toList,cA raw q.2=cA ju q.2:=fun q aU=>xm aq q.2 (by rw [cM];simp [Op.operands];exact ⟨q.1,by simpa using aU⟩)
   have:fl P m raw [] o.dst (.build t parts)=fl P m ju [] o.dst (.build t parts):=by
    simp only [fl]
    split
    · rfl
    split
    · have aF:(parts.toList.map fun p=>(p.1,cA raw p.2))=parts.toList.map fun p=>(p.1,cA ju p.2):=List.map_congr_left fun q aU=>by rw [aQ q aU]
      have az:(∀q∈parts.toList,(cA raw q.2).eH=true)=(∀q∈parts.toList,(cA ju q.2).eH=true):=by
       apply propext
       constructor
       · intro h q aU;rw [←aQ q aU];exact h q aU
       · intro h q aU;rw [aQ q aU];exact h q aU
      rw [aF,az]
    · rfl
   rw [this]
 · next b x y cM=>
   have e:∀q∈[b,x,y],cA raw q=cA ju q:=fun q aU=>xm aq q (by rw [cM];simpa [Op.operands] using aU)
   rw [e b (by simp),e x (by simp),e y (by simp)]
 · exact OC _ (xm aq)
theorem OD {ops:Array Oper} {m:ae} {c:ab} {raw ju:Nat→ab} {o:Oper} (h:∀t∈slotsOf ops o,raw t=ju t):pv P ops m c raw o=pv P ops m c ju o:=by
 have aq:∀t∈tmpsOf o.op,raw t=ju t:=fun t aq=>h t (List.mem_append.2 (.inr aq))
 unfold pv
 cases bc:o.guard with
 |none=>exact Hb aq
 |some oU=>
  obtain ⟨j,b⟩:=oU
  simp only
  cases aD:(ops[j]?).bind (·.dst) with
  |none=>rfl
  |some g=>
   have OE:raw g=ju g:=h g (by simp [slotsOf,bc,aD])
   simp only [OE,Hb aq]
def ns (P:Program) (ops:Array Oper) (m:ae):List ab→List Oper→Fr→(Fr→Prop)→Prop
 |_,[],fr,K=>K fr
 |cs,o::r,fr,K=>
  match pv P ops m (cs.headD .aV) (br fr) o with
  |some (side,x)=>side∧ns P ops m (match o.op with| .call ⟨.value (.func _),_,_⟩=>cs.tail|_=>cs) r (fh fr o.dst x) K
  |none=>False
theorem OF {ops:Array Oper} {m:ae}:∀(l:List Oper) (cs:List ab) (fr:Fr) (K:Fr→Prop),ns P ops m cs l fr K→∃(T:Nat→Fr) (c:Nat→ab) (val:Nat→ab),T 0=fr∧K (T l.length)∧
 ∀i o,l[i]?=some o→(∃side,pv P ops m (c i) (br (T i)) o=some (side,val i)∧side)∧T (i+1)=fh (T i) o.dst (val i):=by
 intro l
 induction l with
 |nil=>intro cs fr K h;exact ⟨fun _=>fr,fun _=> .aV,fun _=> .aV,rfl,h,fun i o ad=>by simp at ad⟩
 |cons o l aO=>
  intro cs fr K h
  simp only [ns] at h
  split at h
  · next side x aQ=>
    obtain ⟨aw,h⟩:=h
    obtain ⟨T,c,val,J,aa,aj⟩:=aO _ _ K h
    refine ⟨fun i=>match i with|0=>fr|i+1=>T i,fun i=>match i with|0=>cs.headD .aV|i+1=>c i,fun i=>match i with|0=>x|i+1=>val i,rfl,aa,fun i fE ad=>?_⟩
    cases i with
    |zero=>simp at ad;subst ad;exact ⟨⟨side,aQ,aw⟩,J⟩
    |succ i=>exact aj i fE (by simpa using ad)
  · exact h.elim
def zy (o:Oper) (j:Nat):Bool:=o.after.toList.any fun e=>e.on==j&&Region.binds .any e
variable {F:Nat→Prop} {lim:Nat→Nat} {w:World} {n:Nat} {fr:Fr} {m:ae} {ca:Act} {bL:List Nat}
theorem OG {f:FuncId} {args:List ab} {x:ab} (ao:uF P f args m x) (st:bd F lim w n fr m ca []) {cargs:Array Value} (aw:cargs.size=args.length) (aA:∀i,i<args.length→aN w lim (cargs.getD i undef) (args.getD i .aV) [])
 {o:Oper} {next:Act→World→Prop} {Q:Exit→Act→World→Prop} (he:∀fn,P.funcs[f]?=some fn→fn.body.isSome=true→(fn.name== "runtime.NumGoroutine")=false→(execOp ca.eval o).run P w= .ok (.enter f cargs) w)
 (aM:∀v lim' w',bd F lim' w' n fr m ca []→aN w' lim' v x.plain []→dW F w lim w' lim'→next (ca.put o.dst v) w'):o.wp P ca w next Q:=
 zu (ao (fun bH m'=>bH=x∧m'=m) ⟨rfl,rfl⟩) st aw aA he fun v bH lim' w' m' os U fM kL ft=>by
  obtain ⟨rfl,rfl⟩:=U
  exact aM v lim' w' kL.drop fM.plain ft
theorem Hc {v:Value} {x:ab} {b z:Bool} {os:List Nat} (ak:rA x b=some z) (aA:aN w lim v x os):(G5 v==some b)=z:=by
 unfold rA at ak
 split at ak
 · obtain rfl:=Option.some.inj ak
   cases aA
   rename_i c
   cases c<;>rfl
 · obtain rfl:=Option.some.inj ak
   cases aA
   rename_i c
   cases c<;>rfl
 · obtain rfl:=Option.some.inj ak
   cases aA with
   |mg=>rfl
 · cases ak
theorem Hd {ops:Array Oper} {o:Oper} {j g:Nat} {b z:Bool} (bc:o.guard=some (j,b)) (aD:(ops[j]?).bind (·.dst)=some g) (st:bd F lim w n fr m ca bL) (ak:rA (br fr g) b=some z):
 Region.wanted o (yielded ops ca.tmps)=z:=by
 obtain ⟨os,cI,bW,h⟩:=st
 cases aC:fr.get g with
 |none=>simp [br,aC,rA] at ak
 |some x=>
  simp only [br,aC,Option.getD_some] at ak
  obtain ⟨cl,aA⟩:=h.eL g _ aC
  have oR:g<ca.tmps.size:=by rw [h.size];exact cl
  have uM:ca.tmps[g]?=some (ca.tmps.getD g undef):=by
   rw [Array.getElem?_eq_getElem oR]
   simp [Array.getD,oR]
  have:=Hc ak aA
  simp only [Region.wanted,bc,yielded,aD,Option.bind_some,uM]
  rw [←this]
  generalize ca.tmps.getD g undef=v
  cases v<;>rfl
theorem OH {o:Oper} {c:ab} {side:Prop} {x:ab} (al:fp n o=true) (aM:gS n o=true) (h:kl P m c (br fr) o=some (side,x)) (aw:side) (st:bd F lim w n fr m ca [])
 {next:Act→World→Prop} {Q:Exit→Act→World→Prop} (kN:∀v lim' w',bd F lim' w' n fr m ca []→aN w' lim' v x []→dW F w lim w' lim'→(∀s,o.op= .move (.tmp s)→v=ca.tmps.getD s undef)→next (ca.put o.dst v) w'):o.wp P ca w next Q:=by
 have gR:=kI al
 unfold kl at h
 split at h
 · next f args di cM=>
   replace kN:∀v lim' w',bd F lim' w' n fr m ca []→aN w' lim' v x []→dW F w lim w' lim'→next (ca.put o.dst v) w':=fun v lim' w' J aa aj=>kN v lim' w' J aa aj fun s aw=>by rw [cM] at aw;cases aw
   obtain ⟨rfl,rfl⟩:=some_inj h
   have dZ:=xg (ca:=ca) (a:=cA (br fr)) (args:=args) (fun y aK=>hE st (gR y (by rw [cM];simp [Op.operands,Call.operands];exact .inr (by simpa using aK))))
   exact OG aw st dZ.1 dZ.2 (fun fn g1 g2 g3=>by simp [execOp,cM,resolve,Deferred.ofValue,Act.eval,invoke,xe _ g1 g2 g3]) kN
 · next t len parts cM=>
   split at h
   · next pA m' bH aT=>
     obtain ⟨rfl,rfl⟩:=some_inj h
     rw [←cM] at aT
     have xn:m'=m:=by
      rw [cM] at aT
      simp only [fl] at aT
      split at aT
      · cases aT
      split at aT
      · injection aT with _ _ e;exact e.symm
      · cases aT
     subst xn
     obtain ⟨v,w',lim',os,J,aa,aj,aG⟩:=Ct (P:=P) aT aw st al aM
     exact n0 J (kN v lim' w' aa.drop aj.plain aG fun s aw=>by rw [cM] at aw;cases aw)
   · cases h
 · next t parts cM=>
   split at h
   · next pA m' bH aT=>
     obtain ⟨rfl,rfl⟩:=some_inj h
     rw [←cM] at aT
     have xn:m'=m:=by
      rw [cM] at aT
      simp only [fl] at aT
      split at aT
      · cases aT
      split at aT
      · split at aT
        · injection aT with _ _ e;exact e.symm
        · cases aT
      · cases aT
     subst xn
     obtain ⟨v,w',lim',os,J,aa,aj,aG⟩:=Ct (P:=P) aT aw st al aM
     exact n0 J (kN v lim' w' aa.drop aj.plain aG fun s aw=>by rw [cM] at aw;cases aw)
   · cases h
 · next gL bH po cM=>
   have He:∀(rB:Bool),cA (br fr) gL= .bool rB→x=cA (br fr) (if rB then bH else po)→o.wp P ca w next Q:=by
    intro rB ah an
    have CF:=hE st (gR gL (by rw [cM];simp [Op.operands]))
    rw [ah] at CF
    have OI:ca.eval gL= .bool rB:=by
     generalize ca.eval gL=v at CF
     cases CF
     rfl
    have xo:=hE st (gR (if rB then bH else po) (by rw [cM];cases rB<;>simp [Op.operands]))
    rw [←an] at xo
    refine n0 (v:=ca.eval (if rB then bH else po)) ?_ (kN _ lim w st xo (.refl _ _ _) fun s aw=>by rw [cM] at aw;cases aw)
    cases rB<;>simp [execOp,cM,OI,asBool]
   split at h
   · next ah=>obtain ⟨rfl,rfl⟩:=some_inj h;exact He true ah rfl
   · next ah=>obtain ⟨rfl,rfl⟩:=some_inj h;exact He false ah rfl
   · cases h
 · obtain ⟨v,J,aa⟩:=zb (P:=P) (w:=w) (lim:=lim) h aw (ca:=ca) (fun y aK=>hE st (gR y aK)) st.uE
   exact n0 J (kN v lim w st aa (.refl _ _ _) fun s aw=>by
    rw [execOp,aw] at J
    simp only [Sem.run_pure,Result.ok.injEq] at J
    have:=J.1
    injection this with this
    rw [←this];rfl)
theorem OJ {ops:Array Oper} {o:Oper} {c:ab} {side:Prop} {x:ab} {d:Nat} (al:fp n o=true) (aM:gS n o=true) (h:pv P ops m c (br fr) o=some (side,x)) (aw:side) (aY:o.dst=some d) (st:bd F lim w n fr m ca [])
 {next:Act→World→Prop} {Q:Exit→Act→World→Prop} (aU:∀lim' w' v,bd F lim' w' n (fr.put d x) m (ca.put o.dst v) []→dW F w lim w' lim'→(∀s,o.op= .move (.tmp s)→o.guard=none→v=ca.tmps.getD s undef)→next (ca.put o.dst v) w'):
 if Region.wanted o (yielded ops ca.tmps) then o.wp P ca w next Q∨(o.asks P ca w∧LetsOut Q) else next (ca.put o.dst undef) w:=by
 have iI:=j4 al aY
 have run:kl P m c (br fr) o=some (side,x)→o.wp P ca w next Q:=fun h=>OH al aM h aw st fun v lim' w' J aa aj aG=>aU lim' w' _ (by rw [aY];exact J.set iI aa) aj fun s aw _=>aG s aw
 unfold pv at h
 split at h
 · next bc=>
   rw [if_pos (by simp [Region.wanted,bc])]
   exact .inl (run h)
 · next j b bc=>
   split at h
   · next g aD=>
     split at h
     · next ak=>
       rw [if_pos (Hd bc aD st ak)]
       exact .inl (run h)
     · next ak=>
       rw [Hd bc aD st ak,if_neg (by simp)]
       obtain ⟨rfl,rfl⟩:=some_inj h
       refine aU lim w _ ?_ (.refl _ _ _) fun s _ zz=>by rw [bc] at zz;cases zz
       rw [aY];exact st.set iI (.mg _)
     · cases h
   · cases h
end
end Go.bg
end
section
namespace Go.bg
open Go
theorem filter_lt {α:Type} (p pn:α→Bool) (Hf:∀x,pn x=true→p x=true):∀(l:List α) (i:α),i∈l→p i=true→pn i=false→(l.filter pn).length<(l.filter p).length:=by
 have hle:∀l:List α,(l.filter pn).length≤(l.filter p).length:=fun l=>by
  induction l with
  |nil=>simp
  |cons x l aO=>
   simp only [List.filter_cons]
   cases J:pn x with
   |true=>simp [Hf x J];exact aO
   |false=>cases aa:p x<;>simp<;>omega
 intro l
 induction l with
 |nil=>intro i ad;cases ad
 |cons x l aO=>
  intro i ad J aa
  simp only [List.filter_cons]
  rcases List.mem_cons.1 ad with rfl|ad
  · simp [J,aa]
    have:=hle l;omega
  · have:=aO i ad J aa
    cases aj:pn x with
    |true=>simp [Hf x aj];exact this
    |false=>cases aG:p x<;>simp<;>omega
section
variable {P:Program} {n:Nat} {fr:Fr} {m:ae}
structure WA (ops:Array Oper):Prop where
 dst:∀(i:Nat) (o:Oper),ops[i]?=some o→∃d,o.dst=some d
 back:∀(i:Nat) (o:Oper) (e:Edge),ops[i]?=some o→e∈o.after→Region.binds .any e=true→e.on<i
 apart:∀(i j:Nat) (o p:Oper),ops[i]?=some o→ops[j]?=some p→o.dst=p.dst→i=j
 looks:∀(i j:Nat) (o p:Oper) (d:Nat),ops[i]?=some o→ops[j]?=some p→p.dst=some d→d∈slotsOf ops o→(j<i→∃e∈o.after,e.on=j∧Region.binds .any e=true)∧(i<j→∃e∈p.after,e.on=i∧Region.binds .any e=true)
theorem Hg {o:Oper} {j:Nat} (h:zy o j=true):∃e∈o.after,e.on=j∧Region.binds .any e=true:=by
 simp only [zy,List.any_eq_true] at h
 obtain ⟨e,J,aa⟩:=h
 simp only [Bool.and_eq_true,beq_iff_eq] at aa
 exact ⟨e,by simpa using J,aa.1,aa.2⟩
theorem Hh (fr:Fr) (d t:Nat) (x:ab):br (fr.put d x) t=if d=t then x else br fr t:=by
 simp only [br,Fr.p6]
 split<;>rfl
def Fr.Hi (t:Nat) (x:ab):Fr→Fr
 |[]=>[]
 |(s,y)::r=>if s=t then (s,x)::r else (s,y)::Fr.Hi t x r
def Fr.over (fr:Fr):List (Nat×ab)→Fr
 |[]=>fr
 |(t,x)::r=>Fr.over (Fr.Hi t x fr) r
end
end Go.bg
end
section
namespace Go.bg
open Go Go.RowKit Go.WideShapes Go.ChangeShapes
def mu (W:World) (b:Nat):Nat:=match W.heap[b]? with
 |some (.cells cs _ _)=>cs.size
 |_=>0
section
variable {P:Program}
theorem OK {W:World} {b o:Nat} {v:Value} (h:W.cell? ⟨b,o,none⟩=some v):o<mu W b:=by
 unfold World.cell? at h
 unfold mu
 split at h
 · next cs e Hj ah=>
   rw [ah]
   simp only at h ⊢
   exact (Array.getElem?_eq_some_iff.1 h).1
 · cases h
end
section
variable {H:Type} {enc:TypeId×Value→H} {P:Program}
theorem OL {f:Func} {s:ChangeSpec} {apart fresh handsOn again:Bool} {W lg:World} {args:Array Value} {v:Value} {gk gs:List (DataW H)} {before pa pv:List MemPlace}
 (pE:DataW.Whole enc P f.params.toList s.vars apart W args.toList gk gs before)
 (xp:∀(b:Nat) (sp:Nat→Bool) (aY:Bool),DataW.TrodAll enc P lg b sp aY f.resultTypes.toList (v.resultList f.resultTypes.size) (s.fn H (gk++gs)).results [])
 (j3:∀sp:Nat→Bool,(∀p∈before,sp p.block=true)→DataW.TrodAll enc P lg 0 sp true f.params.toList args.toList (s.fn H (gk++gs)).args pa)
 (xq:∀sp:Nat→Bool,(∀p∈before,sp p.block=true)→DataW.TrodVars enc P lg sp s.vars (s.fn H (gk++gs)).vars pv)
 (n4:before=pa++pv) (ah:Below W.heap.size W lg)
 (dc:∀(j:Nat) (t:TypeId) (r:Value),f.resultTypes[j]?=some t→(v.resultList f.resultTypes.size)[j]?=some r→Value.okWide P lg .any 0 t r):
 s.post enc P f apart fresh handsOn again W args v lg:=by
 have cl:∀p∈before,p.block<W.heap.size:=fun p aQ=>pE.lt p aQ
 have hold:∀p∈before,(fun b=>decide (b<W.heap.size)) p.block=true:=fun p aQ=>by simpa using cl p aQ
 refine ⟨gk,gs,before,[],pa,pv,pE,xp _ _ _,j3 _ hold,xq _ hold,World.keptBut_mono (fun p aQ=>⟨aQ,?_⟩) (ah.frame (· ∈before)),fun _=>?_⟩
 · rw [n4,List.mem_append] at aQ
   exact Or.inr aQ
 · obtain ⟨_,_,_,_,_,ak,aM⟩:=pE
   refine ⟨dc,_,_,([]++pa)++pv,⟨[]++pa,pv,trodAll_append (j3 _ (fun _ _=>rfl)) (xp _ _ _),xq _ (fun _ _=>rfl),rfl,?_,?_⟩,?_⟩
   · intro b off aQ
     have js:MemPlace.cell b off∈before:=by rw [n4];simpa using aQ
     rw [ah.frozen (cl _ js)]
     exact ak b off js
   · intro aT
     have:=aM aT
     rw [n4] at this
     simpa using this
   · intro p aQ _
     rw [n4]
     simpa using aQ
def zA (P:Program) (di:List TypeId):Bool:=di.all fun t=>P.readableRec t&&decide (t<P.types.size)
theorem Hk (av:laidOutB P=true) {W lg:World} (ah:Below W.heap.size W lg) {sp:Nat→Bool}:∀{di:List TypeId} {vs:List Value} {gk:List (DataW H)} {ps:List MemPlace},zA P di=true→
 DataW.TrodAll enc P W 0 (fun _=>true) true di vs gk ps→(∀p∈ps,p.block<W.heap.size)→(∀p∈ps,sp p.block=true)→DataW.TrodAll enc P lg 0 sp true di vs gk ps
 |[],[],[],_,_,h,_,_=>h
 |t::di,v::vs,d::gk,ps,aQ,h,cl,qp=>by
  obtain ⟨p,q,J,aa,rfl⟩:=h
  simp only [zA,List.all_cons,Bool.and_eq_true,decide_eq_true_eq] at aQ
  exact ⟨p,q,WideElems.Trod_stays av aQ.1.1 aQ.1.2 J (fun x an=>ah.same (cl x (by simp [an]))) (fun x an=>qp x (by simp [an])),
   Hk av ah (by simpa [zA] using aQ.2) aa (fun x an=>cl x (by simp [an])) (fun x an=>qp x (by simp [an])),rfl⟩
 |[],_::_,_,_,_,h,_,_=>h.elim
 |[],[],_::_,_,_,h,_,_=>h.elim
 |_::_,[],_,_,_,h,_,_=>h.elim
 |_::_,_::_,[],_,_,h,_,_=>h.elim
theorem OM {f:Func} {s:ChangeSpec} {tb:TypeId} {apart fresh handsOn again:Bool} (xq:s.vars=[]) (xp:f.resultTypes=#[tb]) (Hl:P.underlying tb=some .bool) (av:laidOutB P=true)
 (ON:zA P f.params.toList=true) {W lg:World} {args:Array Value} {gk gs:List (DataW H)} {before:List MemPlace}
 (pE:DataW.Whole enc P f.params.toList s.vars apart W args.toList gk gs before) (xr:s.fn H (gk++gs)={results:=[.lit (.bool true)],args:=gk}) (ah:Below W.heap.size W lg):
 s.post enc P f apart fresh handsOn again W args (.bool true) lg:=by
 have cl:∀p∈before,p.block<W.heap.size:=fun p aQ=>pE.lt p aQ
 have zB:=pE
 obtain ⟨p,q,dZ,n5,rfl,Hm,k9⟩:=zB
 rw [xq] at n5
 have OO:gs=[]∧q=[]:=by
  cases gs with
  |nil=>exact ⟨rfl,n5⟩
  |cons g gs=>exact n5.elim
 obtain ⟨rfl,rfl⟩:=OO
 refine OL (pa:=p) (pv:=[]) pE (fun b sp aY=>?_) (fun sp qp=>?_) (fun sp qp=>?_) rfl ah (ok_one xp rfl (okWide_bool_mk Hl true))
 · rw [xr,xp]
   exact trodAll_mk1 (shut_bool Hl true)
 · rw [xr]
   exact Hk av ah ON dZ (fun x an=>cl x (by simp [an])) (fun x an=>qp x (by simp [an]))
 · rw [xr,xq]
   rfl
end
end Go.bg
end
