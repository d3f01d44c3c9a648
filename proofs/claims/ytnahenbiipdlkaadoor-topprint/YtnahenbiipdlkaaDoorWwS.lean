/-
  The abstract layer, part 9: what keeps frames and memory where a step takes, makes and writes.
-/
import Derived.Test.YtnahenbiipdlkaaDoorWwH
import Derived.Great.BuildSlice
import Derived.ProofKit
import Derived.Below
import Derived.ChangeSame
import Derived.Carry
section
namespace Go.bb
open Go
section
variable {P:Program} {F:Nat→Prop} {lim lim':Nat→Nat} {w w':World} {n:Nat} {fr:Fr} {m:ae} {ca:Act} {bn:List Nat}
theorem aV.I0 (h:aV F lim w n fr m ca bn) {yc:List Nat} (aJ:yc.Nodup) (aj:∀c∈yc,c∈bn):aV F lim w n fr m ca yc:=by
 obtain ⟨os,b3,bu,h⟩:=h
 exact ⟨os,b3,bu,h.size,h.defers,h.dv,h.mem,h.ea,h.dn,⟨aJ,fun c ah=>h.fs.2 c (aj c ah)⟩,h.free,h.fresh⟩
theorem aV.I1 (h:aV F lim w n fr m ca bn):bn.Nodup:=by
 obtain ⟨os,b3,bu,h⟩:=h
 exact h.fs.1
theorem aV.I2 (h:aV F lim w n fr m ca bn):∀c∈bn,¬F c∧m c=none∧c<w.heap.size:=by
 obtain ⟨os,b3,bu,h⟩:=h
 exact fun c ah=>h.free c (by rw [h.fs.2 c ah];simp)
theorem Cj {os:Nat→List Nat} {n:Nat} (h:((List.range n).flatMap os).Nodup):(∀i,i<n→(os i).Nodup)∧∀i j c,i<n→j<n→c∈os i→c∈os j→i=j:=by
 induction n with
 |zero=>exact ⟨fun i ab=>absurd ab (Nat.not_lt_zero _),fun i j c ab=>absurd ab (Nat.not_lt_zero _)⟩
 |succ n aO=>
  rw [List.range_succ,List.flatMap_append,List.nodup_append] at h
  obtain ⟨I,J,ak⟩:=h
  obtain ⟨i1,i2⟩:=aO I
  simp only [List.flatMap_cons,List.flatMap_nil,List.append_nil] at J ak
  have ao:∀i c,i<n→c∈os i→c∈os n→False:=fun i c ab ah aJ=>ak c (List.mem_flatMap.2 ⟨i,by simpa using ab,ah⟩) c aJ rfl
  refine ⟨fun i ab=>?_,fun i j c ab aG yd ye=>?_⟩
  · by_cases e:i=n
    · subst e;exact J
    · exact i1 i (by omega)
  · by_cases e:i=n<;>by_cases bY:j=n
    · omega
    · subst e;exact (ao j c (by omega) ye yd).elim
    · subst bY;exact (ao i c (by omega) yd ye).elim
    · exact i2 i j c (by omega) (by omega) yd ye
theorem Ck {os:Nat→List Nat} {n c:Nat}:c∈(List.range n).flatMap os↔∃i,i<n∧c∈os i:=by
 simp [List.mem_flatMap]
theorem yf {v:Value} {x:aa} {os:List Nat} (h:aF w lim v x os) (ao:x.ds=true):∃oss:Nat→List Nat,v.cells.size=x.cells.length∧(∀i,i<x.cells.length→aF w lim (v.cells.getD i undef) (x.cells.getD i .aP) (oss i))∧
 os=(List.range x.cells.length).flatMap oss:=by
 have single:∀(v:Value) (x:aa) (os:List Nat),aF w lim v x os→v.cells=#[v]→x.cells=[x]→∃oss:Nat→List Nat,v.cells.size=x.cells.length∧(∀i,i<x.cells.length→aF w lim (v.cells.getD i undef) (x.cells.getD i .aP) (oss i))∧
  os=(List.range x.cells.length).flatMap oss:=fun v x os h ba ah=>by
  refine ⟨fun _=>os,by simp [ba,ah],fun i ab=>?_,by simp [ah,List.range_succ]⟩
  have:i=0:=by simp [ah] at ab;exact ab
  subst this
  simpa [ba,ah] using h
 cases h with
 |agg cs xs oss aj aw=>exact ⟨oss,aj,aw,rfl⟩
 |tuple cs xs oss aj aw=>simp [aa.ds] at ao
 |mT v x os h=>simp [aa.ds] at ao
 |k2 x=>simp [aa.ds] at ao
 |aP v=>simp [aa.ds] at ao
 |bool b=>exact single _ _ _ (.bool b) rfl rfl
 |int k n bh ab=>exact single _ _ _ (.int k n bh ab) rfl rfl
 |str s h=>exact single _ _ _ (.str s h) rfl rfl
 |ptr a=>exact single _ _ _ (.ptr a) rfl rfl
 |eK=>exact single _ _ _ .eK rfl rfl
 |ref b off l cv I J ak=>exact single _ _ _ (.ref b off l cv I J ak) rfl rfl
 |eR own=>exact single _ _ _ (.eR own) rfl rfl
 |empty a cap hm=>exact single _ _ _ (.empty a cap hm) rfl rfl
 |slice b off n cap sz l cv I J ak aH aQ bw db cA=>exact single _ _ _ (.slice b off n cap sz l cv I J ak aH aQ bw db cA) rfl rfl
 |own b n cap sz l cv cur e I J ak aH aQ bw db cA dx eY hq=>exact single _ _ _ (.own b n cap sz l cv cur e I J ak aH aQ bw db cA dx eY hq) rfl rfl
 |ms a len cap I J=>exact single _ _ _ (.ms a len cap I J) rfl rfl
 |map b=>exact single _ _ _ (.map b) rfl rfl
 |iq=>exact single _ _ _ .iq rfl rfl
 |func fn f c bn eW I J ak aH=>exact single _ _ _ (.func fn f c bn eW I J ak aH) rfl rfl
 |jg=>exact single _ _ _ .jg rfl rfl
 |mQ a=>exact single _ _ _ (.mQ a) rfl rfl
 |iface t v x h=>exact single _ _ _ (.iface t v x h) rfl rfl
 |nilIface=>exact single _ _ _ .nilIface rfl rfl
 |k1 t=>exact single _ _ _ (.k1 t) rfl rfl
 |ir t e h bh ab=>exact single _ _ _ (.ir t e h bh ab) rfl rfl
 |mR=>exact single _ _ _ .mR rfl rfl
 |mS t v=>exact single _ _ _ (.mS t v) rfl rfl
theorem I3 {v:Value} {x:aa} {os:List Nat} (h:aF w lim v x os) (ao:x.one=true):v.oneCell'=true:=by
 cases h<;>first|rfl|simp [aa.one] at ao
theorem aV.Cl (h:aV F lim w n fr m ca bn) {b off:Nat} {l xs:List aa} {vs:List Value} {cs:Array Value} {e:TypeId} {oss:Nat→List Nat} (hm:m b=some (.cells l)) (ag:w.heap[b]?=some (.cells cs e (0,0)))
 (av:off+xs.length≤l.length) (ba:vs.length=xs.length) (aw:∀i,i<xs.length→aF w lim (vs.getD i undef) (xs.getD i .aP) (oss i)) (pw:bn=(List.range xs.length).flatMap oss):
 aV F lim (w.setRow b (cs.toList.take off++vs++cs.toList.drop (off+vs.length)).toArray) n fr (m.bX b (some (.cells (l.take off++xs++l.drop (off+xs.length))))) ca []∧
 cU F w lim (w.setRow b (cs.toList.take off++vs++cs.toList.drop (off+vs.length)).toArray) lim:=by
 obtain ⟨os,b3,bu,h⟩:=h
 have e4:=h.mem b _ hm
 obtain ⟨vw,eL,dB⟩:=e4
 have kh:cs.size=l.length:=by
  cases vw with
  |cells k9 bY l' _ e9 aj k7=>rw [ag] at e9;cases e9;exact aj
 have Cm:∀i,i<l.length→aF w lim (cs.getD i undef) (l.getD i .aP) (b3 b i):=by
  cases vw with
  |cells k9 bY l' _ e9 aj k7=>rw [ag] at e9;cases e9;exact k7
 have kg:bn.Nodup:=h.fs.1
 rw [pw] at kg
 obtain ⟨I4,I5⟩:=Cj kg
 have Cn:∀c,c∈bn↔∃i,i<xs.length∧c∈oss i:=fun c=>by rw [pw];exact Ck
 generalize hw:w.setRow b (cs.toList.take off++vs++cs.toList.drop (off+vs.length)).toArray=cf
 have ki:∀k,k≠b→cf.heap[k]?=w.heap[k]?:=fun k ai=>by rw [←hw];exact setRow_other w b k _ ai
 have nL:cf.heap[b]?=some (.cells (cs.toList.take off++vs++cs.toList.drop (off+vs.length)).toArray e (0,0)):=by rw [←hw];exact setRow_heap w b cs _ e (0,0) ag
 have oF:cf.heap.size=w.heap.size:=by rw [←hw];simp
 have hR:∀k o,o<lim k→cf.cell? ⟨k,o,none⟩=w.cell? ⟨k,o,none⟩:=fun k o aD=>by
  have:k≠b:=fun e=>by subst e;omega
  simp [World.cell?,ki k this]
 have I6:cU F w lim cf lim:=⟨by rw [←hw];rfl,by rw [←hw];rfl,by rw [←hw];rfl,by rw [oF];exact Nat.le_refl _,fun k ai=>⟨ki k (fun e=>by subst e;exact dB ai),rfl⟩,fun _=>Nat.le_refl _,hR⟩
 refine ⟨?_,I6⟩
 have k3:∀c,m c=none→c≠b:=fun c ah e=>by subst e;rw [hm] at ah;cases ah
 have bU:∀{v x dI},aF w lim v x dI→(∀c∈dI,bu c≠ .none)→aF cf lim v x dI:=fun hr aD=>hr.fX (fun _=>Nat.le_refl _) hR (fun c ah=>⟨ki c (k3 c (h.free c (aD c ah)).2.1),rfl⟩)
 classical
 refine ⟨os,fun k i=>if k=b then (if off≤i∧i<off+xs.length then oss (i- off) else b3 b i) else b3 k i,
  fun c=>if c∈bn then (if ah:∃i,i<xs.length∧c∈oss i then .nD b (off+Classical.choose ah) else .none) else
   match bu c with
   | .ka=> .none
   | .nD k i=>if k=b∧off≤i∧i<off+xs.length then .none else .nD k i
   |p=>p,h.size,h.defers,fun t x ao=>⟨(h.dv t x ao).1,bU (h.dv t x ao).2 (fun c ah=>by rw [(h.ea t x ao).2 c ah];simp)⟩,fun k o ai=>?_,fun t x ao=>⟨(h.ea t x ao).1,fun c ah=>?_⟩,fun k o ai i=>?_,⟨by simp,by simp⟩,fun c ah=>?_,fun k ai=>?_⟩
 · by_cases fY:k=b
   · subst fY
     simp only [ae.bX,↓reduceIte,Option.some.injEq] at ai ⊢
     subst ai
     refine ⟨?_,eL,dB⟩
     refine .cells _ e _ _ nL (by simp [ba];omega) (fun i ab=>?_)
     have hlen:(l.take off++xs++l.drop (off+xs.length)).length=l.length:=by simp;omega
     rw [hlen] at ab
     have jC:∀{α:Type} (A B:List α) (px:α),off+B.length≤A.length→(A.take off++B++A.drop (off+B.length)).getD i px=if off≤i∧i<off+B.length then B.getD (i- off) px else A.getD i px:=by
      intro α A B px I7
      simp only [List.getD_eq_getElem?_getD]
      by_cases I:i<off
      · rw [if_neg (by omega),List.append_assoc,List.getElem?_append_left (by simp;omega),List.getElem?_take,if_pos I]
      · by_cases J:i<off+B.length
        · rw [if_pos ⟨by omega,J⟩,List.append_assoc,List.getElem?_append_right (by simp;omega),List.getElem?_append_left (by simp;omega)]
          simp [show min off A.length=off from by omega]
        · rw [if_neg (by omega),List.getElem?_append_right (by simp;omega),List.getElem?_drop]
          congr 2
          simp;omega
     have ay:(cs.toList.take off++vs++cs.toList.drop (off+vs.length)).toArray.getD i undef=if off≤i∧i<off+xs.length then vs.getD (i- off) undef else cs.getD i undef:=by
      have:=jC cs.toList vs undef (by simp [kh];omega)
      rw [ba] at this ⊢
      simp only [Array.getD_eq_getD_getElem?,List.getElem?_toArray,List.getD_eq_getElem?_getD,Array.getElem?_toList] at this ⊢
      exact this
     rw [ay,jC l xs .aP av]
     by_cases ix:off≤i∧i<off+xs.length
     · rw [if_pos ix,if_pos ix,if_pos ix]
       exact bU (aw _ (by omega)) (fun c ah=>by rw [h.fs.2 c ((Cn c).2 ⟨i- off,by omega,ah⟩)];simp)
     · rw [if_neg ix,if_neg ix,if_neg ix]
       exact bU (Cm i ab) (fun c ah=>by rw [(h.dn k _ hm i).2 c ah];simp)
   · simp only [ae.bX,if_neg fY] at ai ⊢
     exact ⟨(h.mem k o ai).1.fX (ki k fY) (fun _=>Nat.le_refl _) hR (fun i c ah=>⟨ki c (k3 c (h.free c (by rw [(h.dn k o ai i).2 c ah];simp)).2.1),rfl⟩),(h.mem k o ai).2⟩
 · have I:=(h.ea t x ao).2 c ah
   have J:c∉bn:=fun aM=>by rw [h.fs.2 c aM] at I;cases I
   simp [I,J]
 · by_cases fY:k=b
   · subst fY
     simp only [↓reduceIte]
     by_cases ix:off≤i∧i<off+xs.length
     · simp only [if_pos ix]
       refine ⟨I4 _ (by omega),fun c ah=>?_⟩
       have I8:c∈bn:=(Cn c).2 ⟨i- off,by omega,ah⟩
       have hex:∃j,j<xs.length∧c∈oss j:=⟨i- off,by omega,ah⟩
       have Co:=Classical.choose_spec hex
       have:Classical.choose hex=i- off:=I5 _ _ c Co.1 (by omega) Co.2 ah
       simp only [if_pos I8,dif_pos hex,this]
       congr 1;omega
     · simp only [if_neg ix]
       refine ⟨(h.dn k _ hm i).1,fun c ah=>?_⟩
       have I:=(h.dn k _ hm i).2 c ah
       have J:c∉bn:=fun aM=>by rw [h.fs.2 c aM] at I;cases I
       simp [I,J,ix]
   · simp only [ae.bX,if_neg fY] at ai ⊢
     refine ⟨(h.dn k o ai i).1,fun c ah=>?_⟩
     have I:=(h.dn k o ai i).2 c ah
     have J:c∉bn:=fun aM=>by rw [h.fs.2 c aM] at I;cases I
     simp [I,J,fY]
 · have ek:bu c≠ .none:=by
    by_cases J:c∈bn
    · rw [h.fs.2 c J];simp
    · intro I;simp [I,J] at ah
   have:=h.free c ek
   refine ⟨this.1,?_,by rw [oF];exact this.2.2⟩
   simp only [ae.bX,if_neg (k3 c this.2.1)]
   exact this.2.1
 · rw [oF] at ai
   have:=h.fresh k ai
   refine ⟨this.1,this.2.1,?_⟩
   simp only [ae.bX,if_neg (k3 k this.2.2)]
   exact this.2.2
end
end Go.bb
end
section
namespace Go.bb
open Go
def mZ (lim:Nat→Nat) (b k:Nat):Nat→Nat:=fun c=>if c=b then k else lim c
section
variable {P:Program} {F:Nat→Prop} {lim lim':Nat→Nat} {w w':World} {n:Nat} {fr:Fr} {m:ae} {ca:Act} {bn:List Nat} {os:Nat→List Nat} {b3:Nat→Nat→List Nat} {bu:Nat→Place}
theorem ot.world (h:ot F lim w n fr m ca bn os b3 bu) (b5:w.heap.size≤w'.heap.size) (av:∀b,lim b≤lim' b) (ah:∀b o,o<lim b→w'.cell? ⟨b,o,none⟩=w.cell? ⟨b,o,none⟩)
 (iO:∀c,bu c≠ .none→w'.heap[c]?=w.heap[c]?∧lim' c=lim c) (hm:∀b,m b≠none→w'.heap[b]?=w.heap[b]?∧lim' b=lim b)
 (xQ:∀b,w'.heap.size≤b→lim' b=0):ot F lim' w' n fr m ca bn os b3 bu:=by
 refine ⟨h.size,h.defers,fun t x ao=>⟨(h.dv t x ao).1,(h.dv t x ao).2.fX av ah (fun c lF=>iO c (by rw [(h.ea t x ao).2 c lF];simp))⟩,fun b o ag=>?_,h.ea,h.dn,h.fs,
  fun c ou=>⟨(h.free c ou).1,(h.free c ou).2.1,Nat.lt_of_lt_of_le (h.free c ou).2.2 b5⟩,fun b ag=>⟨xQ b ag,(h.fresh b (Nat.le_trans b5 ag)).2⟩⟩
 have k3:=hm b (by rw [ag];simp)
 exact ⟨(h.mem b o ag).1.fX k3.1 av ah (fun i c lF=>iO c (by rw [(h.dn b o ag i).2 c lF];simp)),k3.2.trans (h.mem b o ag).2.1,(h.mem b o ag).2.2⟩
theorem ot.Cp (h:ot F lim w n fr m ca bn os b3 bu):ot F lim w n fr m ca [] os b3 (fun c=>if bu c= .ka then .none else bu c):=by
 refine ⟨h.size,h.defers,h.dv,h.mem,fun t x ao=>⟨(h.ea t x ao).1,fun c ah=>by simp [(h.ea t x ao).2 c ah]⟩,fun b o ag i=>⟨(h.dn b o ag i).1,fun c ah=>by simp [(h.dn b o ag i).2 c ah]⟩,⟨by simp,by simp⟩,fun c ah=>?_,h.fresh⟩
 by_cases I:bu c= .ka
 · simp [I] at ah
 · exact h.free c (by simpa [I] using ah)
theorem ot.Cq (h:ot F lim w n fr m ca [] os b3 bu) {c:Nat} (ah:bu c= .none) (dB:¬F c) (hm:m c=none) (bN:c<w.heap.size):aV F lim w n fr m ca [c]:=by
 refine ⟨os,b3,fun d=>if d=c then .ka else bu d,h.size,h.defers,h.dv,h.mem,fun t x ao=>⟨(h.ea t x ao).1,fun d a7=>?_⟩,fun b o ag i=>⟨(h.dn b o ag i).1,fun d a7=>?_⟩,by simp,fun d a7=>?_,h.fresh⟩
 · have:=(h.ea t x ao).2 d a7
   have ek:d≠c:=fun e=>by subst e;rw [ah] at this;cases this
   simpa [ek] using this
 · have:=(h.dn b o ag i).2 d a7
   have ek:d≠c:=fun e=>by subst e;rw [ah] at this;cases this
   simpa [ek] using this
 · by_cases ek:d=c
   · subst ek;exact ⟨dB,hm,bN⟩
   · exact h.free d (by simpa [ek] using a7)
theorem qn (lim:Nat→Nat) (b k:Nat):mZ lim b k b=k:=by simp [mZ]
theorem na (lim:Nat→Nat) {b c:Nat} (k:Nat) (h:c≠b):mZ lim b k c=lim c:=by simp [mZ,h]
theorem aV.vx (h:aV F lim w n fr m ca bn) (hw:w'.heap=w.heap) (o:Obj) (k:Nat):aV F (mZ lim w.heap.size k) (w'.alloc o) n fr m ca [w.heap.size]:=by
 have bN:=fun {b o} (ag:o<lim b)=>h.pg ag
 have Cr:=fun {b} (ag:m b≠none)=>h.ow ag
 obtain ⟨os,b3,bu,h⟩:=h
 have b5:(w'.alloc o).heap.size=w.heap.size+1:=by simp [hw]
 have hold:∀c,c<w.heap.size→(w'.alloc o).heap[c]?=w.heap[c]?:=fun c ah=>by rw [kb w' o c (by rw [hw];exact ah),hw]
 have yg:=h.fresh _ (Nat.le_refl _)
 have J:=(h.Cp).world (w':=w'.alloc o) (lim':=mZ lim w.heap.size k) (by omega) (fun b=>?_) (fun b i ab=>?_) (fun c ah=>?_) (fun b ag=>?_) (fun b ag=>?_)
 · refine J.Cq (c:=w.heap.size) ?_ yg.2.1 yg.2.2 (by omega)
   have:bu w.heap.size= .none:=by
    cases e:bu w.heap.size with
    |none=>rfl
    |_=>exact absurd (h.free w.heap.size (by rw [e];simp)).2.2 (Nat.lt_irrefl _)
   simp [this]
 · by_cases ag:b=w.heap.size
   · subst ag;rw [yg.1];exact Nat.zero_le _
   · rw [na _ _ ag];exact Nat.le_refl _
 · simp [World.cell?,hold b (bN ab)]
 · have kh:c<w.heap.size:=(h.free c (by by_cases e:bu c= .ka<;>simp_all)).2.2
   exact ⟨hold c kh,na _ _ (by omega)⟩
 · exact ⟨hold b (Cr ag),na _ _ (by have:=Cr ag;omega)⟩
 · rw [b5] at ag
   rw [na _ _ (by omega)]
   exact (h.fresh b (by omega)).1
theorem cU.vy (h:aV F lim w n fr m ca bn) (hw:w'.heap=w.heap) (aD:w'.os=w.os) (an:w'.tape=w.tape) (yh:w'.output=w.output) (o:Obj) (k:Nat):cU F w lim (w'.alloc o) (mZ lim w.heap.size k):=by
 have hold:∀c,c<w.heap.size→(w'.alloc o).heap[c]?=w.heap[c]?:=fun c ah=>by rw [kb w' o c (by rw [hw];exact ah),hw]
 refine ⟨aD,an,yh,by simp [hw],fun b ag=>⟨hold b (h.ov ag),na _ _ (by have:=h.ov ag;omega)⟩,fun b=>?_,fun b i ab=>by simp [World.cell?,hold b (h.pg ab)]⟩
 by_cases ag:b=w.heap.size
 · subst ag;rw [h.ph];exact Nat.zero_le _
 · rw [na _ _ ag];exact Nat.le_refl _
theorem aV.Cs {b:Nat} (h:aV F lim w n fr m ca [b]) (b5:w'.heap.size=w.heap.size) (ki:∀c,c≠b→w'.heap[c]?=w.heap[c]?) (k:Nat) (ai:lim b≤k) (hR:∀o,o<lim b→w'.cell? ⟨b,o,none⟩=w.cell? ⟨b,o,none⟩)
 (aD:w'.os=w.os) (an:w'.tape=w.tape) (yh:w'.output=w.output):aV F (mZ lim b k) w' n fr m ca [b]∧cU F w lim w' (mZ lim b k):=by
 have ag:=h.I2 b (by simp)
 have av:∀c,lim c≤mZ lim b k c:=fun c=>by
  by_cases e:c=b
  · subst e;rw [qn];exact ai
  · rw [na _ _ e];exact Nat.le_refl _
 have ah:∀c o,o<lim c→w'.cell? ⟨c,o,none⟩=w.cell? ⟨c,o,none⟩:=fun c o bN=>by
  by_cases e:c=b
  · subst e;exact hR o bN
  · simp [World.cell?,ki c e]
 refine ⟨?_,⟨aD,an,yh,by omega,fun c ah=>⟨ki c (fun e=>by subst e;exact ag.1 ah),na _ _ (fun e=>by subst e;exact ag.1 ah)⟩,av,ah⟩⟩
 obtain ⟨os,b3,bu,h⟩:=h
 have Ct:bu b= .ka:=h.fs.2 b (by simp)
 have J:=(h.Cp).world (w':=w') (lim':=mZ lim b k) (by omega) av ah (fun c ah=>?_) (fun c ah=>?_) (fun c ah=>?_)
 · exact J.Cq (c:=b) (by simp [Ct]) ag.1 ag.2.1 (by omega)
 · have e:c≠b:=fun e=>by subst e;simp [Ct] at ah
   exact ⟨ki c e,na _ _ e⟩
 · have e:c≠b:=fun e=>by subst e;exact ah ag.2.1
   exact ⟨ki c e,na _ _ e⟩
 · rw [na _ _ (by omega)]
   exact (h.fresh c (by omega)).1
def iy (cv:Nat→Nat→Value) (n sz:Nat):List Value:=(List.range (n*sz)).map fun i=>cv (i/sz) (i%sz)
theorem Cu {cv:Nat→Nat→Value} {n sz i j:Nat} (ab:i<n) (aG:j<sz):(iy cv n sz)[i*sz+j]?=some (cv i j):=by
 have bN:i*sz+j<n*sz:=by
  have:i*sz+sz≤n*sz:=by rw [←Nat.succ_mul];exact Nat.mul_le_mul_right _ ab
  omega
 have I:(i*sz+j)/sz=i:=by rw [Nat.mul_comm,Nat.mul_add_div (by omega),Nat.div_eq_of_lt aG,Nat.add_zero]
 have J:(i*sz+j)%sz=j:=by rw [Nat.mul_comm,Nat.mul_add_mod,Nat.mod_eq_of_lt aG]
 simp [iy,bN,I,J]
theorem Cv {cv:Nat→Nat→Value} {n sz b off:Nat} (b5:0<sz) (ah:∀i j,i<n→j<sz→w.cell? ⟨b,off+i*sz+j,none⟩=some (cv i j)):
 ∀k u,(iy cv n sz)[k]?=some u→w.cell? ((⟨b,off,none⟩:Addr).add k)=some u:=by
 intro k u hu
 rw [addr_add]
 have ai:k<n*sz:=by
  rcases Nat.lt_or_ge k (n*sz) with h|h
  · exact h
  · simp [iy,h] at hu
 simp [iy,ai] at hu
 have ab:k/sz<n:=Nat.div_lt_of_lt_mul (by rw [Nat.mul_comm];exact ai)
 have:=ah (k/sz) (k%sz) ab (Nat.mod_lt _ b5)
 rw [show off+k/sz*sz+k%sz=off+k from by rw [Nat.add_assoc,Nat.mul_comm,Nat.div_add_mod]] at this
 rw [this,hu]
theorem rE {b iz cap sz:Nat} {l:List aa} {cv:Nat→Nat→Value} {cur:Array Value} {e:TypeId} (av:l.length=iz) (et:iz≤cap) (hm:cap≤maxLen) (cF:iz≤140737488355328) (aA:0<iz∨cap=0)
 (ag:w.heap[b]?=some (.cells cur e (0,0))) (jK:cur.size=cap*sz) (b5:∀i,i<iz→(l.getD i .aP).cells.length=sz) (eL:iz*sz=lim b)
 (jC:∀i j,i<iz→j<sz→cur[i*sz+j]?=some (cv i j)) (aw:∀i j,i<iz→j<sz→aF w lim (cv i j) ((l.getD i .aP).cells.getD j .aP) []):
 aF w lim (.slice (some ⟨b,0,none⟩) iz cap) (.slice true l) [b]:=
 .own b iz cap sz l cv cur e av et hm cF aA ag jK b5 eL (fun i j ab aG=>by simp [World.cell?,ag,jC i j ab aG]) aw
theorem tf {e:TypeId} {i:TypeInfo} (h:P.info? e=some i):P.cellsOf e=i.size∧P.bytesOf e=i.bytes:=by simp [Program.cellsOf,Program.bytesOf,h]
theorem yi {e:TypeId} (h:(gQ P e).isSome=true):∃i z,P.info? e=some i∧i.zero=some z∧nF z=true∧gQ P e=some (jj z):=by
 unfold gQ at h ⊢
 cases ab:P.info? e with
 |none=>simp [ab] at h
 |some i=>
  cases au:i.zero with
  |none=>simp [ab,au] at h
  |some z=>
   simp only [ab,au,Option.bind_some] at h ⊢
   by_cases ah:nF z=true
   · exact ⟨i,z,rfl,au,ah,by simp [ah]⟩
   · simp [ah] at h
theorem vz (v:Value):(jj v).cells.length=v.cells.size:=by
 cases v with
 |agg cs=>simp [jj,aa.cells,Value.cells]
 |iface t v=>rfl
 |pointer a=>cases a<;>rfl
 |slice a n c=>cases a<;>rfl
 |map r=>cases r<;>rfl
 |_=>rfl
theorem yj {e:TypeId} (h:jP P e=true):∃i z,P.info? e=some i∧i.zero=some z∧nF z=true∧gQ P e=some (jj z)∧z.cells.size=i.size:=by
 have aj:(gQ P e).isSome=true:=by
  unfold jP at h
  cases au:gQ P e with
  |none=>simp [au] at h
  |some z=>rfl
 obtain ⟨i,z,ab,au,ah,cW⟩:=yi aj
 refine ⟨i,z,ab,au,ah,cW,?_⟩
 simp only [jP,cW,beq_iff_eq,vz] at h
 rw [h,(tf ab).1]
theorem Cw (t e ty:TypeId) (i:TypeInfo) (an:P.underlying t=some (.slice e)) (ab:P.info? e=some i) (base:Option Addr) (bL cap:Nat) (py:bL≤cap) (a:Option Addr) (c:Nat):
 (Builtin.append_ #[t,t] ty #[.slice base bL cap, .slice a 0 c]).run P w= .ok (.slice base bL cap) w:=by
 cases a with
 |none=>cases base<;>simp [Builtin.append_,run_underlying an,sizeOf,typeInfo,ab,Builtin.lenOf,Builtin.firstCells,py,storeCells]
 |some a=>cases base<;>simp [Builtin.append_,run_underlying an,sizeOf,typeInfo,ab,Builtin.lenOf,Builtin.firstCells,py,storeCells,loadCells,loadCellsFrom]
theorem I9 (t e ty:TypeId) (i:TypeInfo) (an:P.underlying t=some (.slice e)) (ab:P.info? e=some i) (g qo yk:Nat) (cur:Array Value) (bY:TypeId) (a8:w.heap[g]?=some (.cells cur bY (0,0)))
 (a:Addr) (k c:Nat) (news:List Value) (av:news.length=k*i.size) (tg:∀j u,news[j]?=some u→w.cell? (a.add j)=some u) (I:∀u∈news,u.oneCell'=true)
 (pz:qo+k≤yk) (yl:qo*i.size+news.length≤cur.size):
 (Builtin.append_ #[t,t] ty #[.slice (some ⟨g,0,none⟩) qo yk, .slice (some a) k c]).run P w=
   .ok (.slice (some ⟨g,0,none⟩) (qo+k) yk) (w.setRow g (cur.toList.take (qo*i.size)++news++cur.toList.drop (qo*i.size+news.length)).toArray):=by
 have aM:=run_firstCells_some (P:=P) w i.size k a k c news av tg
 have bU:=run_storeCells_at P g (qo*i.size) bY news 0 cur w a8 (by simpa using yl) I
 simp only [Nat.add_zero] at bU
 simp [Builtin.append_,run_underlying an,sizeOf,typeInfo,ab,Builtin.lenOf,pz,aM,Addr.add_lit,bU]
end
end Go.bb
end
section
namespace Go.bb
open Go
section
variable {P:Program} {F:Nat→Prop} {lim:Nat→Nat} {w:World} {n:Nat} {fr:Fr} {m:ae} {ca:Act} {bn:List Nat}
theorem Cx {v:Value} {x:aa} {os:List Nat} {k:Nat} (ao:(x.cells.all aa.one)=true) (ai:k<x.cells.length) (h:aF w lim v (x.cells.getD k .aP) os):v.oneCell'=true:=by
 refine I3 h ?_
 rw [List.all_eq_true] at ao
 exact ao _ (by simp [List.getD_eq_getElem?_getD,ai])
theorem nb {l l':List aa} {i:Nat} (h:i<l.length):(l++l').getD i .aP=l.getD i .aP:=by
 simp [List.getD_eq_getElem?_getD,List.getElem?_append_left h]
theorem oG {l l':List aa} {i:Nat} (h:l.length≤i):(l++l').getD i .aP=l'.getD (i- l.length) .aP:=by
 simp [List.getD_eq_getElem?_getD,List.getElem?_append_right h]
theorem ym (i j k s:Nat) (ab:i<k) (aG:j<s):i*s+j<k*s:=by
 have:i*s+s≤k*s:=by rw [←Nat.succ_mul];exact Nat.mul_le_mul_right _ ab
 omega
theorem Cy {a b:Nat} {sz:Nat} {A B C:List Value} {dr Cz:Nat→Nat→Value} (cW:A.length=a*sz) (nM:B.length=b*sz) (yn:∀i j,i<a→j<sz→A[i*sz+j]?=some (dr i j)) (Ja:∀i j,i<b→j<sz→B[i*sz+j]?=some (Cz i j)):
 ∀i j,i<a+b→j<sz→(A++B++C)[i*sz+j]?=some (if i<a then dr i j else Cz (i- a) j):=by
 intro i j ab aG
 by_cases h:i<a
 · rw [if_pos h,List.append_assoc,List.getElem?_append_left (by rw [cW];exact ym _ _ _ _ h aG)]
   exact yn i j h aG
 · have th:a*sz≤i*sz:=Nat.mul_le_mul_right _ (by omega)
   have oH:i*sz+j- a*sz=(i- a)*sz+j:=by rw [Nat.sub_mul];omega
   have bN:(i- a)*sz+j<b*sz:=ym _ _ _ _ (by omega) aG
   rw [if_neg h,List.getElem?_append_left (by simp [cW,nM];omega),List.getElem?_append_right (by omega),cW,oH]
   exact Ja (i- a) j (by omega) aG
set_option maxHeartbeats 1000000 in
theorem CA (st:aV F lim w n fr m ca bn) {t e ty:TypeId} (an:P.underlying t=some (.slice e)) (au:jP P e=true) (js:0<P.cellsOf e) {pA iP:Value} {l l':List aa} (ag:aF w lim pA (.slice true l) bn) (aE:aF w lim iP (.slice false l') [])
 (CB:(l.length+l'.length)*P.bytesOf e≤140737488355328) (cF:l.length+l'.length≤140737488355328) (av:∀x∈l,x.cells.length=P.cellsOf e) (lD:∀x∈l',x.cells.length=P.cellsOf e∧x.cells.all aa.one=true):
 ∃fN w' lim' dI,(Builtin.append_ #[t,t] ty #[pA,iP]).run P w= .ok fN w'∧aV F lim' w' n fr m ca dI∧aF w' lim' fN (.slice true (l++l')) dI∧cU F w lim w' lim':=by
 obtain ⟨i,z,ab,lL,CC,CD,vA⟩:=yj au
 obtain ⟨iS,nN⟩:=tf ab
 have ti:∀k:Nat,k≤140737488355328→k≤maxLen:=fun k ai=>by simp only [maxLen];omega
 have tj:∀(l:List aa) i,i<l.length→l.getD i .aP∈l:=fun l i ab=>by simp [List.getD_eq_getElem?_getD,ab]
 by_cases kF:l'=[]
 · subst kF
   have Jb:∃a c,iP= .slice a 0 c:=by
    obtain ⟨a,c,rfl,_⟩:=x1 aE
    exact ⟨a,c,rfl⟩
   obtain ⟨a,c,rfl⟩:=Jb
   refine ⟨pA,w,lim,bn,?_,st,by simpa using ag, .refl _ _ _⟩
   cases ag with
   |eR own=>exact Cw t e ty i an ab none 0 0 (Nat.le_refl _) a c
   |own b iz cap sz l cv cur bY I J ak aH aQ bw db cA dx eY hq=>exact Cw t e ty i an ab _ iz cap J a c
 have yo:0<l'.length:=List.length_pos_iff.2 kF
 rcases s5 aE with ⟨rfl,_⟩|⟨rfl,_⟩|⟨yp,yq,yr,Jc,kG,rfl,Sb,Sc,Sd,vB,Se,Jd,rF⟩
 · exact (kF rfl).elim
 · exact (kF rfl).elim
 have Je:Jc=i.size:=by rw [←vB 0 yo,(lD _ (tj l' 0 yo)).1,iS]
 subst Je
 rw [iS] at js
 have tg:=Cv (w:=w) js Jd
 have lM:(iy kG l'.length i.size).length=l'.length*i.size:=by simp [iy]
 have CE:∀a b,a<l'.length→b<i.size→(iy kG l'.length i.size)[a*i.size+b]?=some (kG a b):=fun a b aN ag=>Cu aN ag
 have ys:∀u∈iy kG l'.length i.size,u.oneCell'=true:=fun u hu=>by
  obtain ⟨k,ai,rfl⟩:=List.mem_map.1 hu
  have eS:k<l'.length*i.size:=by simpa using ai
  have yt:k/i.size<l'.length:=Nat.div_lt_of_lt_mul (by rw [Nat.mul_comm];exact eS)
  have CF:=Nat.mod_lt k js
  exact Cx (lD _ (tj l' _ yt)).2 (by rw [vB _ yt];exact CF) (rF _ _ yt CF)
 rw [nN] at CB
 have tk:∀(gR:List Value) (k hs:Nat) (dr:Nat→Nat→Value),gR.length=k*i.size→k=l.length→l.length+l'.length≤hs→hs≤maxLen→
  (∀a b,a<k→b<i.size→gR[a*i.size+b]?=some (dr a b))→(∀a b,a<k→b<i.size→aF w lim (dr a b) ((l.getD a .aP).cells.getD b .aP) [])→
  (gR.toArray++(iy kG l'.length i.size).toArray++Builtin.zeroCells z.cells (hs- (l.length+l'.length))).size=hs*i.size→
  ∃lim' dI,aV F lim' (w.drew.alloc (.cells (gR.toArray++(iy kG l'.length i.size).toArray++Builtin.zeroCells z.cells (hs- (l.length+l'.length))) e)) n fr m ca dI∧
   aF (w.drew.alloc (.cells (gR.toArray++(iy kG l'.length i.size).toArray++Builtin.zeroCells z.cells (hs- (l.length+l'.length))) e)) lim' (.slice (some ⟨w.heap.size,0,none⟩) (l.length+l'.length) hs) (.slice true (l++l')) dI∧
   cU F w lim (w.drew.alloc (.cells (gR.toArray++(iy kG l'.length i.size).toArray++Builtin.zeroCells z.cells (hs- (l.length+l'.length))) e)) lim':=by
  intro gR k hs dr aD ai et hm yn yu oF
  subst ai
  have eh:=cU.vy (w':=w.drew) st rfl rfl rfl rfl (.cells (gR.toArray++(iy kG l'.length i.size).toArray++Builtin.zeroCells z.cells (hs- (l.length+l'.length))) e) ((l.length+l'.length)*i.size)
  refine ⟨_,_,st.vx (w':=w.drew) rfl _ ((l.length+l'.length)*i.size),?_,eh⟩
  have rG:=Cy (C:=(Builtin.zeroCells z.cells (hs- (l.length+l'.length))).toList) aD lM yn CE
  refine rE (sz:=i.size) (cv:=fun a b=>if a<l.length then dr a b else kG (a- l.length) b) (by simp) et hm cF (.inl (by omega)) (mU w.drew _) oF (fun a aN=>?_) (by rw [qn]) (fun a b aN ag=>?_) (fun a b aN ag=>?_)
  · by_cases h:a<l.length
    · rw [nb h,av _ (tj l a h),iS]
    · rw [oG (by omega),vB _ (by omega)]
  · rw [←Array.getElem?_toList]
    simp only [Array.toList_append]
    exact rG a b aN ag
  · by_cases h:a<l.length
    · simp only [if_pos h]
      rw [nb h]
      exact (yu a b h ag).fX eh.mono eh.cell (by simp)
    · simp only [if_neg h]
      rw [oG (by omega)]
      exact (rF _ b (by omega) ag).fX eh.mono eh.cell (by simp)
 have CG:∀hs,l.length+l'.length≤hs→∀gR:List Value,gR.length=l.length*i.size→(gR.toArray++(iy kG l'.length i.size).toArray++Builtin.zeroCells z.cells (hs- (l.length+l'.length))).size=hs*i.size:=fun hs ah gR aD=>by
  simp only [Array.size_append,List.size_toArray,size_zeroCells,vA,aD,lM,←Nat.add_mul]
  congr 1;omega
 have CH:((l.length+l'.length:Nat):Int)≤9223372036854775807:=by omega
 cases ag with
 |eR own=>
  simp only [List.length_nil,Nat.zero_add] at*
  have gw:=run_append_nil (P:=P) w t ty e i z an ab lL ⟨yp,yq,none⟩ l'.length yr _ lM tg yo CH (by omega)
  have et:=grownCap_ge w l'.length 0 e
  have qp:=grownCap_le_maxLen w l'.length 0 e (ti _ cF)
  obtain ⟨lim',dI,I,J,ak⟩:=tk [] 0 (grownCap w l'.length 0 e) (fun _ _=>undef) (by simp) rfl et qp (fun a b aN=>absurd aN (Nat.not_lt_zero _)) (fun a b aN=>absurd aN (Nat.not_lt_zero _)) (CG _ et [] (by simp))
  simp only [List.nil_append] at I J ak
  exact ⟨_,_,lim',dI,gw,by simpa using I,by simpa using J,by simpa using ak⟩
 |own b iz cap sz l cv cur bY I J ak aH aQ bw db cA dx eY hq=>
  subst I
  have pn:l.length=0∨sz=i.size:=by
   rcases Nat.eq_zero_or_pos l.length with h|h
   · exact .inl h
   · exact .inr (by rw [←cA 0 h,av _ (tj l 0 h),iS])
  have jh:∀a ft,a<l.length→ft<i.size→w.cell? ⟨b,a*i.size+ft,none⟩=some (cv a ft):=fun a ft aN ag=>by
   rcases pn with h|h
   · omega
   · subst h;exact eY a ft aN ag
  have k7:∀a ft,a<l.length→ft<i.size→aF w lim (cv a ft) ((l.getD a .aP).cells.getD ft .aP) []:=fun a ft aN ag=>by
   rcases pn with h|h
   · omega
   · subst h;exact hq a ft aN ag
  by_cases pz:l.length+l'.length≤cap
  · have b5:sz=i.size:=by
     rcases pn with h|h
     · rcases aQ with aQ|aQ<;>omega
     · exact h
    subst b5
    have yl:l.length*i.size+(iy kG l'.length i.size).length≤cur.size:=by
     rw [lM,db,←Nat.add_mul];exact Nat.mul_le_mul_right _ pz
    have gw:=I9 (P:=P) (w:=w) t e ty i an ab b l.length cap cur bY bw ⟨yp,yq,none⟩ l'.length yr _ lM tg ys pz yl
    generalize cW:(cur.toList.take (l.length*i.size)++iy kG l'.length i.size++cur.toList.drop (l.length*i.size+(iy kG l'.length i.size).length)).toArray=A at gw
    have nL:(w.setRow b A).heap[b]?=some (.cells A bY (0,0)):=setRow_heap w b cur A bY (0,0) bw
    have jK:∀k,k<l.length*i.size→A[k]?=cur[k]?:=fun k ai=>by
     rw [←cW]
     have hle:l.length*i.size≤cur.size:=by omega
     rw [List.getElem?_toArray,List.append_assoc,List.getElem?_append_left (by simp;omega),List.getElem?_take,if_pos ai,Array.getElem?_toList]
    obtain ⟨s1,s2⟩:=st.Cs (w':=w.setRow b A) (by simp) (fun c ah=>setRow_other w b c A ah) ((l.length+l'.length)*i.size) (by rw [←dx,Nat.add_mul];omega) (fun o aD=>by
     rw [←dx] at aD
     simp [World.cell?,nL,bw,jK o aD]) rfl rfl rfl
    refine ⟨_,_,_,[b],gw,s1,?_,s2⟩
    refine rE (sz:=i.size) (cv:=fun a b=>if a<l.length then cv a b else kG (a- l.length) b) (by simp) pz ak cF (.inl (by omega)) nL (by rw [←cW];simp;omega) (fun a aN=>?_) (by rw [qn]) (fun a ft aN ag=>?_) (fun a ft aN ag=>?_)
    · by_cases h:a<l.length
      · rw [nb h];exact cA a h
      · rw [oG (by omega),vB _ (by omega)]
    · rw [←cW,List.getElem?_toArray]
      refine Cy (by simp;omega) lM (fun a ft aN ag=>?_) CE a ft aN ag
      have:=jh a ft aN ag
      simp only [World.cell?,bw] at this
      rw [List.getElem?_take,if_pos (ym _ _ _ _ aN ag),Array.getElem?_toList]
      exact this
    · by_cases h:a<l.length
      · simp only [if_pos h]
        rw [nb h]
        exact (k7 a ft h ag).fX s2.mono s2.cell (by simp)
      · simp only [if_neg h]
        rw [oG (by omega)]
        exact (rF _ ft (by omega) ag).fX s2.mono s2.cell (by simp)
  · have holds:=Cv (w:=w) (cv:=cv) (n:=l.length) (sz:=i.size) (b:=b) (off:=0) js (fun a ft aN ag=>by rw [Nat.zero_add];exact jh a ft aN ag)
    have yv:(iy cv l.length i.size).length=l.length*i.size:=by simp [iy]
    have yw:=growslice_fits (need:=l.length+l'.length) (old:=cap) (bytes:=i.bytes) (by omega) CB
    have gw:=run_append_grow (P:=P) w t ty e i z an ab lL ⟨b,0,none⟩ l.length cap _ yv holds ⟨yp,yq,none⟩ l'.length yr _ lM tg (by omega) CH yw
    have et:=grownCap_ge w (l.length+l'.length) cap e
    have qp:=grownCap_le_maxLen w (l.length+l'.length) cap e (ti _ cF)
    obtain ⟨lim',dI,s1,s2,ht⟩:=tk (iy cv l.length i.size) l.length (grownCap w (l.length+l'.length) cap e) cv yv rfl et qp (fun a ft aN ag=>Cu aN ag) k7 (CG _ et _ yv)
    exact ⟨_,_,lim',dI,gw,s1,s2,ht⟩
end
end Go.bb
end
section
namespace Go.bb
open Go
section
variable {P:Program} {F:Nat→Prop} {lim:Nat→Nat} {w:World} {n:Nat} {fr:Fr} {m:ae} {ca:Act} {bn:List Nat}
def tl (w:World) (lim:Nat→Nat) (cs:Array Value) (xs:List aa):Prop:=cs.size=xs.length∧∀i,i<xs.length→aF w lim (cs.getD i undef) (xs.getD i .aP) []
theorem CI {oss:Nat→List Nat} {k:Nat} (h:[]=(List.range k).flatMap oss):∀i,i<k→oss i=[]:=fun i ab=>xZ h.symm i ab
theorem qq {v:Value} {x:aa} (h:aF w lim v x []) (ao:x.ds=true):tl w lim v.cells x.cells:=by
 obtain ⟨oss,I,J,ak⟩:=yf h ao
 exact ⟨I,fun i ab=>by have:=J i ab;rwa [CI ak i ab] at this⟩
theorem Jf {α:Type} (A B:List α) (px:α) (off i:Nat) (I7:off+B.length≤A.length):(A.take off++B++A.drop (off+B.length)).getD i px=if off≤i∧i<off+B.length then B.getD (i- off) px else A.getD i px:=by
 simp only [List.getD_eq_getElem?_getD]
 by_cases I:i<off
 · rw [if_neg (by omega),List.append_assoc,List.getElem?_append_left (by simp;omega),List.getElem?_take,if_pos I]
 · by_cases J:i<off+B.length
   · rw [if_pos ⟨by omega,J⟩,List.append_assoc,List.getElem?_append_right (by simp;omega),List.getElem?_append_left (by simp;omega)]
     simp [show min off A.length=off from by omega]
   · rw [if_neg (by omega),List.getElem?_append_right (by simp;omega),List.getElem?_drop]
     congr 2
     simp;omega
theorem Jg (place:Nat→Option (Nat×Nat)):∀(ps:List (Nat×aa)) (oI:List (Nat×Value)) (cs:Array Value) (xs eH:List aa),k8 place xs ps=some eH→tl w lim cs xs→oI.map (·.1)=ps.map (·.1)→
 (∀i (ab:i<ps.length),tl w lim (oI.getD i (0,undef)).2.cells (ps[i]).2.cells)→∃fO,Instr.fill place cs oI=some fO∧tl w lim fO eH:=by
 intro ps
 induction ps with
 |nil=>
  intro oI cs xs eH h ah hm aB
  have:oI=[]:=by simpa using hm
  subst this
  simp only [k8,Option.some.injEq] at h
  subst h
  exact ⟨cs,rfl,ah⟩
 |cons p ps aO=>
  intro oI cs xs eH h ah hm aB
  cases oI with
  |nil=>simp at hm
  |cons q oI=>
   obtain ⟨i,x⟩:=p
   obtain ⟨j,v⟩:=q
   simp only [List.map_cons,List.cons.injEq] at hm
   obtain ⟨rfl,hm⟩:=hm
   have ao:=aB 0 (by simp)
   simp only [List.getD_cons_zero,List.getElem_cons_zero] at ao
   simp only [k8] at h
   cases qs:place j with
   |none=>simp [qs] at h
   |some os=>
    obtain ⟨off,size⟩:=os
    simp only [qs] at h
    split at h
    · next Jh=>
      obtain ⟨aj,hle⟩:=Jh
      have nO:v.cells.size=size:=ao.1.trans aj
      simp only [Instr.fill,qs]
      rw [if_neg (by simp [nO,ah.1];omega)]
      refine aO oI _ _ eH h ?_ hm (fun k ai=>by have:=aB (k+1) (by simp;omega);simpa using this)
      obtain ⟨f1,f2⟩:=Great.foldl_set off v.cells.toList 0 cs
      have Ji:(v.cells.zipIdx.foldl (fun cs (c,j)=>cs.setIfInBounds (off+j) c) cs)=((v.cells.toList.zipIdx 0).foldl (fun cs (x:Value×Nat)=>cs.setIfInBounds (off+x.2) x.1) cs):=by
       rw [←Array.foldl_toList];simp
      rw [Ji]
      refine ⟨by rw [f1,ah.1];simp;omega,fun k ai=>?_⟩
      have hlen:(xs.take off++x.cells++xs.drop (off+size)).length=xs.length:=by simp;omega
      rw [hlen] at ai
      rw [←aj,Jf xs x.cells .aP off k (by omega)]
      have ay:((v.cells.toList.zipIdx 0).foldl (fun cs (x:Value×Nat)=>cs.setIfInBounds (off+x.2) x.1) cs).getD k undef=if off≤k∧k<off+x.cells.length then v.cells.getD (k- off) undef else cs.getD k undef:=by
       rw [Array.getD_eq_getD_getElem?,f2 k]
       by_cases ix:off≤k∧k<off+x.cells.length
       · rw [if_pos (by simp [nO,ah.1];omega),if_pos ix]
         simp [Array.getD_eq_getD_getElem?]
       · rw [if_neg (by simp [nO];omega),if_neg ix,Array.getD_eq_getD_getElem?]
      rw [ay]
      by_cases ix:off≤k∧k<off+x.cells.length
      · rw [if_pos ix,if_pos ix];exact ao.2 _ (by omega)
      · rw [if_neg ix,if_neg ix];exact ah.2 k ai
    · cases h
theorem vC {t:TypeId} {z:aa} (h:gQ P t=some z):∃v,(zeroValue t).run P w= .ok v w∧nF v=true∧z=jj v∧aF w lim v z []:=by
 obtain ⟨i,v,I,J,ak,aH⟩:=yi (P:=P) (e:=t) (by rw [h];rfl)
 rw [h] at aH
 have au:z=jj v:=by simpa using aH
 exact ⟨v,by simp [zeroValue,typeInfo,I,J],ak,au,by rw [au];exact xT ak⟩
theorem run_places (cj:List Field) (h:∀f∈cj,dG P f.type=true):(cj.mapM fun f=>do pure (f.offset,←sizeOf f.type):Sem (List (Nat×Nat))).run P w= .ok (cj.map fun f=>(f.offset,P.cellsOf f.type)) w:=by
 induction cj with
 |nil=>rfl
 |cons f cj aO=>
  rw [List.mapM_cons]
  have Jj:=aO (fun g a8=>h g (by simp [a8]))
  simp only [Sem.run_bind,k5 (h f (by simp)),Result.andThen_ok,Sem.run_pure,Jj,List.map_cons]
theorem yx {t:TypeId} {cj:Array Field} {z:aa} {cells:List aa} (hu:P.underlying t=some (.struct cj)) (au:gQ P t=some z) (pB:z.ds=true) (iR:∀f∈cj.toList,dG P f.type=true)
 {parts:Array (Nat×Operand)} {a:Operand→aa} (aM:k8 (fun i=>(cj[i]?).map fun f=>(f.offset,P.cellsOf f.type)) z.cells (parts.toList.map fun p=>(p.1,a p.2))=some cells)
 (aw:∀p∈parts.toList,aF w lim (ca.eval p.2) (a p.2) []) (an:∀p∈parts.toList,(a p.2).ds=true):
 ∃v,(Instr.build t (parts.map fun (i,x)=>(i,ca.eval x))).run P w= .ok v w∧aF w lim v (.agg cells) []:=by
 obtain ⟨Jk,pC,CJ,rfl,nc⟩:=vC (w:=w) (lim:=lim) au
 have Jl:((cj.mapM fun f=>do pure (f.offset,←sizeOf f.type):Sem (Array (Nat×Nat)))).run P w= .ok (cj.map fun f=>(f.offset,P.cellsOf f.type)) w:=by
  have:=run_places (P:=P) (w:=w) cj.toList iR
  rw [←Array.toList_mapM] at this
  simp only [Sem.run_map] at this
  cases aL:(cj.mapM fun f=>do pure (f.offset,←sizeOf f.type):Sem (Array (Nat×Nat))).run P w with
  |ok a w'=>
   rw [aL] at this
   simp only [Result.andThen_ok,Result.ok.injEq] at this
   obtain ⟨I,rfl⟩:=this
   congr 1
   apply Array.ext'
   simpa using I
  |halt e w'=>rw [aL] at this;simp at this
 obtain ⟨fO,I,J⟩:=Jg (w:=w) (lim:=lim) _ _ (parts.toList.map fun p=>(p.1,ca.eval p.2)) Jk.cells _ _ aM (qq nc pB) (by simp) (fun i ab=>by
  simp only [List.length_map] at ab
  have hp:parts.toList[i]∈parts.toList:=List.getElem_mem ab
  have:=qq (aw _ hp) (an _ hp)
  have ay:(parts.toList.map fun p=>(p.1,ca.eval p.2)).getD i (0,undef)=(parts.toList[i].1,ca.eval parts.toList[i].2):=by
   rw [List.getD_eq_getElem?_getD,List.getElem?_map,List.getElem?_eq_getElem ab];rfl
  have az:(parts.toList.map fun p=>(p.1,a p.2))[i]=(parts.toList[i].1,a parts.toList[i].2):=by rw [List.getElem_map]
  rw [ay,az];exact this)
 refine ⟨.agg fO,?_,?_⟩
 · have qs:(fun (i:Nat)=>(cj.map fun (f:Field)=>(f.offset,P.cellsOf f.type))[i]?)=fun (i:Nat)=>(cj[i]?).map fun (f:Field)=>(f.offset,P.cellsOf f.type):=by funext i;simp
   have yy:(parts.map fun (i,x)=>(i,ca.eval x)).toList=parts.toList.map fun p=>(p.1,ca.eval p.2):=by simp
   simp only [Instr.build,Sem.run_bind,pC,Result.andThen_ok,eM hu,Jl,qs,yy,I]
   rfl
 · have:=aF.agg (w:=w) (lim:=lim) fO cells (fun _=>[]) J.1 J.2
   rw [flatMap_nil] at this
   exact this
theorem Jm {β:Type} (l:List (Nat×β)) (h:l.map (·.1)=List.range l.length):l=((l.map (·.2)).zipIdx 0).map fun x=>(x.2,x.1):=by
 apply List.ext_getElem?
 intro i
 have ab:=congrArg (·[i]?) h
 simp only [List.getElem?_map] at ab
 by_cases bN:i<l.length
 · simp [bN] at ab ⊢
   exact Prod.ext ab rfl
 · simp [bN]
set_option maxHeartbeats 1000000 in
theorem Jn (st:aV F lim w n fr m ca bn) {t e:TypeId} {len:Nat} {parts:Array (Nat×Operand)} {a:Operand→aa} (hu:P.underlying t=some (.slice e)) (js:0<P.cellsOf e) (au:jP P e=true) (Jo:len*P.cellsOf e≤16777216)
 (CK:parts.toList.map (·.1)=List.range len) (aw:∀p∈parts.toList,aF w lim (ca.eval p.2) (a p.2) []) (an:∀p∈parts.toList,(a p.2).ds=true∧(a p.2).cells.length=P.cellsOf e):
 ∃v w' lim' os,(Instr.buildSlice t len (parts.map fun (i,x)=>(i,ca.eval x))).run P w= .ok v w'∧aV F lim' w' n fr m ca os∧aF w' lim' v (.slice true (parts.toList.map fun p=>a p.2)) os∧cU F w lim w' lim':=by
 obtain ⟨i,z,ab,lL,CC,CD,vA⟩:=yj au
 obtain ⟨iS,nN⟩:=tf ab
 rw [iS] at js Jo an
 have hlen:parts.toList.length=len:=by have:=congrArg List.length CK;simpa using this
 have b5:∀p∈parts.toList,(ca.eval p.2).cells.size=i.size:=fun p aB=>by rw [(qq (aw p aB) (an p aB).1).1];exact (an p aB).2
 by_cases aA:len=0
 · subst aA
   have rH:parts=#[]:=by simpa using hlen
   subst rH
   have eh:=cU.vy (w':=w) st rfl rfl rfl rfl (.cells #[] e) 0
   refine ⟨.slice (some ⟨w.heap.size,0,none⟩) 0 0,w.alloc (.cells #[] e),_,_,by
    have la:Array.range 0=#[]:=by apply Array.ext';simp
    simp [Instr.buildSlice,eM hu,sizeOf,typeInfo,ab,Instr.fill,newRow,la],st.vx (w':=w) rfl _ 0,?_,eh⟩
   exact rE (sz:=i.size) (cv:=fun _ _=>undef) (by simp) (Nat.le_refl _) (by simp [maxLen]) (by omega) (.inr rfl) (mU w _) (by simp) (fun _ h=>by omega) (by rw [qn];simp) (fun _ _ h=>by omega) (fun _ _ h=>by omega)
 · have yy:(parts.map fun (i,x)=>(i,ca.eval x)).toList=(((parts.toList.map fun p=>ca.eval p.2)).zipIdx 0).map fun x=>(x.2,x.1):=by
    have I:(parts.toList.map fun p=>(p.1,ca.eval p.2)).map (·.1)=List.range (parts.toList.map fun p=>(p.1,ca.eval p.2)).length:=by
     simp only [List.map_map,List.length_map,hlen]
     exact CK
    have J:=Jm _ I
    simp only [List.map_map] at J
    have e:(parts.map fun (i,x)=>(i,ca.eval x)).toList=parts.toList.map fun p=>(p.1,ca.eval p.2):=by simp
    rw [e];exact J
   have CL:=Great.fill_whole (s:=i.size) js (parts.toList.map fun p=>ca.eval p.2) ((Array.range (len*i.size)).map (z.cells[· %z.cells.size]!)) (fun v ba=>by
    obtain ⟨p,aB,rfl⟩:=List.mem_map.1 ba;exact b5 p aB) (by simp [hlen])
   rw [←yy] at CL
   have ek:¬len*i.size=0:=by
    have:=Nat.mul_pos (Nat.pos_of_ne_zero aA) js;omega
   have gw:=run_buildSlice (P:=P) w t e len (parts.map fun (i,x)=>(i,ca.eval x)) _ i z hu ab lL (by omega) ek CL
   have eh:=cU.vy (w':=w) st rfl rfl rfl rfl (.cells ((parts.toList.map fun p=>ca.eval p.2).flatMap fun v=>v.cells.toList).toArray e) (len*i.size)
   refine ⟨_,_,_,_,gw,st.vx (w':=w) rfl _ (len*i.size),?_,eh⟩
   have mW:∀k,k<len→(parts.toList.map fun p=>a p.2).getD k .aP=a (parts.toList.getD k (0, .tmp 0)).2∧(parts.toList.map fun p=>ca.eval p.2)[k]?=some (ca.eval (parts.toList.getD k (0, .tmp 0)).2)∧parts.toList.getD k (0, .tmp 0)∈parts.toList:=fun k ai=>by
    have eS:k<parts.toList.length:=by omega
    have pD:k<parts.size:=by simpa using eS
    simp [List.getD_eq_getElem?_getD,pD]
   have Sf:len≤len*i.size:=Nat.le_mul_of_pos_right _ js
   refine rE (sz:=i.size) (cv:=fun k j=>(ca.eval (parts.toList.getD k (0, .tmp 0)).2).cells.getD j undef) (by simp only [List.length_map];exact hlen) (Nat.le_refl _) (by simp only [maxLen];omega) (by omega) (.inl (by omega)) (mU w _) ?_ (fun k ai=>?_) (by rw [qn]) (fun k j ai aG=>?_) (fun k j ai aG=>?_)
   · have:∀(l:List Value),(∀v∈l,v.cells.size=i.size)→(l.flatMap fun v=>v.cells.toList).length=l.length*i.size:=fun l av=>by
      induction l with
      |nil=>simp
      |cons v l aO=>rw [List.flatMap_cons,List.length_append,aO (fun u hu=>av u (by simp [hu]))];simp [av v (by simp),Nat.add_mul,Nat.add_comm]
     rw [List.size_toArray,this _ (fun v ba=>by obtain ⟨p,aB,rfl⟩:=List.mem_map.1 ba;exact b5 p aB),List.length_map,hlen]
   · obtain ⟨I,J,ak⟩:=mW k ai
     rw [I];exact (an _ ak).2
   · obtain ⟨I,J,ak⟩:=mW k ai
     rw [List.getElem?_toArray,Great.flat_get js _ (fun v ba=>by obtain ⟨p,aB,rfl⟩:=List.mem_map.1 ba;exact b5 p aB)]
     have ay:(k*i.size+j)/i.size=k:=by rw [Nat.mul_comm,Nat.mul_add_div js,Nat.div_eq_of_lt aG,Nat.add_zero]
     have az:(k*i.size+j)%i.size=j:=by rw [Nat.mul_comm,Nat.mul_add_mod,Nat.mod_eq_of_lt aG]
     rw [ay,az,J,Option.bind_some]
     have:j<(ca.eval (parts.toList.getD k (0, .tmp 0)).2).cells.size:=by rw [b5 _ ak];exact aG
     simp only [Array.getD_eq_getD_getElem?,Array.getElem?_eq_getElem this,Option.getD_some]
   · obtain ⟨I,J,ak⟩:=mW k ai
     rw [I]
     exact ((qq (aw _ ak) (an _ ak).1).2 j (by rw [(an _ ak).2];exact aG)).fX eh.mono eh.cell (by simp)
theorem aV.Jp (h:aV F lim w n fr m ca []) {b off:Nat} {l:List aa} (hm:m b=some (.cells l)) (aD:off<l.length):
 ∃v os,w.cell? ⟨b,off,none⟩=some v∧aV F lim w n fr (m.bX b (some (.cells (l.set off (l.getD off .aP).plain)))) ca os∧aF w lim v (l.getD off .aP) os:=by
 obtain ⟨os,b3,bu,h⟩:=h
 have e4:=h.mem b _ hm
 obtain ⟨vw,eL,dB⟩:=e4
 cases vw with
 |cells cs e _ _ ag aj aw=>
  have Jq:off<cs.size:=by omega
  refine ⟨cs.getD off undef,b3 b off,by simp [World.cell?,ag,Array.getD,Jq],⟨os,fun k i=>if k=b∧i=off then [] else b3 k i,fun c=>if bu c= .nD b off then .ka else if bu c= .ka then .none else bu c,h.size,h.defers,h.dv,fun k o ai=>?_,fun t x ao=>⟨(h.ea t x ao).1,fun c ah=>?_⟩,fun k o ai i=>?_,?_,fun c ah=>?_,fun k ai=>?_⟩,aw off aD⟩
  · by_cases fY:k=b
    · subst fY
      simp only [ae.bX,↓reduceIte,Option.some.injEq] at ai ⊢
      subst ai
      refine ⟨.cells cs e _ _ ag (by simp [aj]) (fun i ab=>?_),eL,dB⟩
      simp only [List.length_set] at ab
      by_cases kH:i=off
      · subst kH
        simp only [List.getD_eq_getElem?_getD,List.getElem?_set,aD,if_true,Option.getD_some,and_self]
        have:=(aw i ab).plain
        simpa [List.getD_eq_getElem?_getD] using this
      · have:¬off=i:=fun e=>kH e.symm
        simp only [List.getD_eq_getElem?_getD,List.getElem?_set,this,if_false,kH,and_false]
        have:=aw i ab
        simpa [List.getD_eq_getElem?_getD] using this
    · simp only [ae.bX,if_neg fY] at ai ⊢
      simpa [fY] using h.mem k o ai
  · have:=(h.ea t x ao).2 c ah
    simp [this]
  · by_cases fY:k=b
    · subst fY
      by_cases kH:i=off
      · simp [kH]
      · refine ⟨by simpa [kH] using (h.dn k _ hm i).1,fun c ah=>?_⟩
        have:=(h.dn k _ hm i).2 c (by simpa [kH] using ah)
        simp [this,kH]
    · simp only [ae.bX,if_neg fY] at ai
      refine ⟨by simpa [fY] using (h.dn k o ai i).1,fun c ah=>?_⟩
      have:=(h.dn k o ai i).2 c (by simpa [fY] using ah)
      simp [this,fY]
  · exact ⟨(h.dn b _ hm off).1,fun c ah=>by simp [(h.dn b _ hm off).2 c ah]⟩
  · have ek:bu c≠ .none:=by
     intro e;simp [e] at ah
    have:=h.free c ek
    refine ⟨this.1,?_,this.2.2⟩
    have h6:c≠b:=fun e=>by subst e;rw [hm] at this;cases this.2.1
    simp only [ae.bX,if_neg h6]
    exact this.2.1
  · have:=h.fresh k ai
    refine ⟨this.1,this.2.1,?_⟩
    have h6:k≠b:=fun e=>by subst e;rw [hm] at this;cases this.2.2
    simp only [ae.bX,if_neg h6]
    exact this.2.2
end
end Go.bb
end
section
namespace Go.bb
open Go
section
variable {P:Program} {F:Nat→Prop} {lim:Nat→Nat} {w:World} {n:Nat} {fr:Fr} {m:ae} {ca:Act} {bn:List Nat}
theorem vD (s:Nat):fr.strip [s]=fr.put s (bc fr s).plain:=rfl
theorem aV.rI (h:aV F lim w n fr m ca []) (s:Nat) (aj:s<n):∃os,aV F lim w n (fr.strip [s]) m ca os∧aF w lim (ca.tmps.getD s undef) (bc fr s) os:=by
 cases a8:fr.get s with
 |some x=>
  obtain ⟨os,I,J⟩:=h.take a8
  refine ⟨os,?_,?_⟩
  · rw [vD];simpa [bc,a8] using I
  · simpa [bc,a8] using J
 |none=>
  refine ⟨[],?_,by simp [bc,a8];exact .aP _⟩
  rw [vD]
  refine h.sub fun t x ao=>?_
  rw [Fr.oo] at ao
  by_cases e:s=t
  · subst e
    simp [bc,a8,aa.plain] at ao
    exact .inr ⟨ao.symm,aj⟩
  · rw [if_neg e] at ao;exact .inl ao
theorem aV.CM (h:aV F lim w n fr m ca []) (y:Operand) (aE:kc y=true) (aj:∀t,y= .tmp t→t<n):∃os,aV F lim w n (fr.strip (mq y)) m ca os∧aF w lim (ca.eval y) (fl (bc fr) y) os:=by
 cases y with
 |tmp t=>exact h.rI t (aj t rfl)
 |const v=>exact ⟨[],h,xT aE⟩
 |global g=>exact ⟨[],h, .ptr _⟩
 |func f=>exact ⟨[],h, .func _ #[] #[] [] [] rfl rfl (by simp) (by simp)⟩
theorem gx (h:aV F lim w n fr m ca bn) {x:Operand} (ao:kc x=true):aF w lim (ca.eval x) (bR (bc fr) x) []:=by
 rw [td]
 obtain ⟨_,aw,rfl⟩:=s0 h ao
 exact aw
def tm (P:Program) (F:Nat→Prop) (lim:Nat→Nat) (w:World) (n:Nat) (ca:Act) (o:Oper) (aY:Fr) (m':ae) (x:aa):Prop:=
 ∃v w' lim' os,(execOp ca.eval o).run P w= .ok (.value v) w'∧aV F lim' w' n aY m' ca os∧aF w' lim' v x os∧cU F w lim w' lim'
theorem yz {o:Oper} {side:Prop} {x:aa} (h:bq P m (bR (bc fr)) o.op=some (side,x)) (aj:side) (st:aV F lim w n fr m ca []) (ai:ef n o=true):tm P F lim w n ca o fr m x:=by
 obtain ⟨v,I,J⟩:=vt (P:=P) (w:=w) (lim:=lim) h aj (ca:=ca) (fun y aE=>gx st (jO ai y aE)) st.rB
 exact ⟨v,w,lim,[],I,st,J, .refl _ _ _⟩
theorem CN {stl:List Nat} {o:Oper} {side:Prop} {ss:List Nat} {m':ae} {x:aa} (h:(match bq P m (bR (bc fr)) o.op with|some (side,x)=>iw.val side [] m x|none=> .stuck)= .val side ss m' x) (aj:side)
 (st:aV F lim w n fr m ca []) (ai:ef n o=true):tm P F lim w n ca o (fr.strip ss) m' x:=by
 cases aS:bq P m (bR (bc fr)) o.op with
 |none=>simp [aS] at h
 |some p=>
  obtain ⟨vE,y⟩:=p
  simp only [aS,iw.val.injEq] at h
  obtain ⟨rfl,rfl,rfl,rfl⟩:=h
  exact yz aS aj st ai
theorem Jr {v:Value} {l:List aa} {os:List Nat} (h:aF w lim v (.tuple l) os) {i:Nat} (ab:i<l.length):∃cs:Array Value,∃tn:List Nat,v= .tuple cs∧i<cs.size∧aF w lim (cs.getD i undef) (l.getD i .aP) tn∧(∀c∈tn,c∈os)∧(os.Nodup→tn.Nodup):=by
 cases h with
 |tuple cs _ oss h aw=>exact ⟨cs,oss i,rfl,by omega,aw i ab,fun c ah=>Ck.2 ⟨i,ab,ah⟩,fun aJ=>(Cj aJ).1 i ab⟩
theorem Js {o:Oper} {t:Nat} (ai:ef n o=true) (aJ:(o.op.operands.toList.all fun y=>match y with| .tmp t=>decide (t<n)|_=>true)=true) (an:Operand.tmp t∈o.op.operands.toList):t<n:=by
 rw [List.all_eq_true] at aJ
 simpa using aJ _ an
set_option maxHeartbeats 2000000 in
theorem yA {stl:List Nat} {o:Oper} {side:Prop} {ss:List Nat} {m':ae} {x:aa} (h:ec P m (bc fr) stl o.dst o.op= .val side ss m' x) (aj:side) (st:aV F lim w n fr m ca []) (ai:ef n o=true)
 (aJ:(o.op.operands.toList.all fun y=>match y with| .tmp t=>decide (t<n)|_=>true)=true):tm P F lim w n ca o (fr.strip ss) m' x:=by
 have an:∀t,Operand.tmp t∈o.op.operands.toList→t<n:=fun t=>Js ai aJ
 have fx:=jO ai
 have taken:∀s,s<n→(∀a:Act,execOp a.eval o=pure (.value (a.eval (.tmp s))))→tm P F lim w n ca o (fr.strip [s]) m (bc fr s):=fun s rn he=>by
  obtain ⟨os,I,J⟩:=st.rI s rn
  exact ⟨ca.eval (.tmp s),w,lim,os,by rw [he ca];rfl,I,J, .refl _ _ _⟩
 unfold ec at h
 split at h
 · next s cb=>
   simp only [iw.val.injEq] at h
   obtain ⟨rfl,rfl,rfl,rfl⟩:=h
   exact taken s (an s (by rw [cb];simp [Op.operands])) (fun a=>by simp [execOp,cb])
 · next s cb=>
   split at h
   · simp only [iw.val.injEq] at h
     obtain ⟨rfl,rfl,rfl,rfl⟩:=h
     exact taken s (an s (by rw [cb];simp [Op.operands])) (fun a=>by simp [execOp,cb])
   · simp only [iw.val.injEq] at h
     obtain ⟨rfl,rfl,rfl,rfl⟩:=h
     exact yz (by rw [cb];rfl) trivial st ai
 · next s i cb=>
   split at h
   · next l av=>
     split at h
     · simp only [iw.val.injEq] at h
       obtain ⟨rfl,rfl,rfl,rfl⟩:=h
       obtain ⟨os,I,J⟩:=st.rI s (an s (by rw [cb];simp [Op.operands]))
       rw [av] at J
       obtain ⟨cs,tn,he,Jt,aw,oH,kg⟩:=Jr J aj
       refine ⟨cs.getD i undef,w,lim,tn,?_,I.I0 (kg I.I1) oH,aw, .refl _ _ _⟩
       simp [execOp,cb,Act.eval,he,Instr.extract,Jt]
     · simp only [iw.val.injEq] at h
       obtain ⟨rfl,rfl,rfl,rfl⟩:=h
       show tm P F lim w n ca o fr m _
       refine yz (fr:=fr) (side:=i<(aa.ey l).length) ?_ (by simpa [aa.hE] using aj) st ai
       rw [cb]
       have a8:=mg l i
       simp only [bq,bR,av,aa.plain,a8]
   · cases h
 · next t y cb=>
   split at h
   · split at h
     · next b off oJ=>
       split at h
       · next l hm=>
         simp only [iw.val.injEq] at h
         obtain ⟨rfl,rfl,rfl,rfl⟩:=h
         obtain ⟨hu,Ju,Jv⟩:=aj
         have aE:=gx st (fx y (by rw [cb];simp [Op.operands]))
         rw [oJ] at aE
         obtain ⟨v,os,I,J,ak⟩:=st.Jp hm Jv
         refine ⟨v,w,lim,os,?_,J,ak, .refl _ _ _⟩
         simp [execOp,cb,pk aE,Instr.loadAt,Instr.sureAddr,loadVar,rp hu,Ju,I]
       · cases h
     · cases h
   · exact CN (stl:=stl) (by rw [cb];exact h) aj st ai
 · split at h
   · split at h<;>cases h
   · cases h
 · cases h
 · split at h<;>cases h
 · split at h
   · split at h<;>cases h
   · cases h
 · split at h<;>cases h
 · next t parts cb=>
   split at h
   · cases h
   · split at h
     · next cj z hu au=>
       split at h
       · next cells aM=>
         simp only [iw.val.injEq] at h
         obtain ⟨rfl,rfl,rfl,rfl⟩:=h
         obtain ⟨I,J,ak⟩:=aj
         obtain ⟨v,aH,aQ⟩:=yx (P:=P) (w:=w) (lim:=lim) (ca:=ca) hu au I J aM (fun p aB=>gx st (fx p.2 (by rw [cb];simp [Op.operands];exact ⟨p.1,by simpa using aB⟩))) ak
         exact ⟨v,w,lim,[],by simp [execOp,cb,aH],st,aQ, .refl _ _ _⟩
       · cases h
     · cases h
 · next t len parts cb=>
   split at h
   · cases h
   · split at h
     · next e hu=>
       simp only [iw.val.injEq] at h
       obtain ⟨rfl,rfl,rfl,rfl⟩:=h
       obtain ⟨I,J,ak,aH,aQ,bw⟩:=aj
       obtain ⟨v,w',lim',os,h4,iQ,qt,tq⟩:=Jn (P:=P) st hu J ak aH aQ (a:=bR (bc fr)) (fun p aB=>gx st (fx p.2 (by rw [cb];simp [Op.operands];exact ⟨p.1,by simpa using aB⟩))) bw
       exact ⟨v,w',lim',os,by simp [execOp,cb,h4],iQ,qt,tq⟩
     · cases h
 · next args bd cb=>
   split at h
   · next s y t u jq yB=>
     split at h
     · next e bY l own l' hu yC lN oJ=>
       simp only [iw.val.injEq] at h
       obtain ⟨rfl,rfl,rfl,rfl⟩:=h
       obtain ⟨rfl,I,J,ak,aH,aQ,bw,db⟩:=aj
       have hp:∀z∈args.toList,z∈o.op.operands.toList:=fun z au=>by rw [cb];simpa [Op.operands,Call.operands] using au
       obtain ⟨os,s1,s2⟩:=st.rI s (an s (hp _ (by rw [jq];simp)))
       rw [lN] at s2
       have aE:=gx st (fx y (hp _ (by rw [jq];simp)))
       rw [oJ] at aE
       have oB:aF w lim (ca.eval y) (.slice false l') []:=by simpa [aa.plain] using aE.plain
       obtain ⟨v,w',lim',dI,h4,iQ,qt,tq⟩:=CA (P:=P) (ty:=o.type) s1 hu ak J s2 oB aH aQ bw db
       refine ⟨v,w',lim',dI,?_,iQ,qt,tq⟩
       have ay:args.map ca.eval=#[ca.eval (.tmp s),ca.eval y]:=by apply Array.ext';simp [jq]
       have az:bd=#[t,t]:=by apply Array.ext';simp [yB]
       simp only [execOp,cb,resolve,invoke,builtin,Sem.run_bind,Sem.run_pure,Result.andThen_ok,ay,az]
       simp only [Act.eval] at h4 ⊢
       rw [h4];rfl
     · cases h
   · next y t u jq yB=>
     split at h
     · next e bY own l' hu yC oJ=>
       simp only [iw.val.injEq] at h
       obtain ⟨rfl,rfl,rfl,rfl⟩:=h
       obtain ⟨rfl,I,J,ak,aH,aQ⟩:=aj
       have hp:∀z∈args.toList,z∈o.op.operands.toList:=fun z au=>by rw [cb];simpa [Op.operands,Call.operands] using au
       have aE:=gx st (fx y (hp _ (by rw [jq];simp)))
       rw [oJ] at aE
       have oB:aF w lim (ca.eval y) (.slice false l') []:=by simpa [aa.plain] using aE.plain
       obtain ⟨oC,jQ,_,cF⟩:=x1 oB
       obtain ⟨v,w',lim',dI,h4,iQ,qt,tq⟩:=CA (P:=P) (ty:=o.type) st hu ak J (.eR true) oB (by simpa using aH) (by simpa using cF) (by simp) aQ
       refine ⟨v,w',lim',dI,?_,iQ,by simpa using qt,tq⟩
       have ay:args.map ca.eval=#[.slice none 0 0,ca.eval y]:=by apply Array.ext';simp [jq,Act.eval]
       have az:bd=#[t,t]:=by apply Array.ext';simp [yB]
       simp only [execOp,cb,resolve,invoke,builtin,Sem.run_bind,Sem.run_pure,Result.andThen_ok,ay,az]
       rw [h4];rfl
     · cases h
   · cases h
 · cases h
 · split at h<;>cases h
 · exact CN (stl:=stl) h aj st ai
end
end Go.bb
end
section
namespace Go.bb
open Go
section
variable {P:Program} {F:Nat→Prop} {lim:Nat→Nat} {w:World} {n:Nat} {fr:Fr} {m:ae} {ca:Act} {bn:List Nat}
def fy (n:Nat) (o:Oper):Bool:=o.op.operands.toList.all fun y=>match y with| .tmp t=>decide (t<n)|_=>true
theorem vF {o:Oper} (aJ:fy n o=true) {y:Operand} (aE:y∈o.op.operands.toList):∀t,y= .tmp t→t<n:=by
 intro t an
 subst an
 simp only [fy,List.all_eq_true] at aJ
 simpa using aJ _ aE
set_option maxHeartbeats 2000000 in
theorem Jw {stl:List Nat} {o:Oper} {side:Prop} {ss:List Nat} {m':ae} (h:ec P m (bc fr) stl o.dst o.op= .nK side ss m') (aj:side) (st:aV F lim w n fr m ca []) (ai:ef n o=true) (aJ:fy n o=true):
 ∃w' lim',(execOp ca.eval o).run P w= .ok .skip w'∧aV F lim' w' n (fr.strip ss) m' ca []∧cU F w lim w' lim':=by
 have fx:=jO ai
 unfold ec at h
 split at h
 case h_5 t a x cb=>
  split at h
  · next b off oJ=>
    split at h
    · next l hm=>
      simp only [iw.nK.injEq] at h
      obtain ⟨rfl,rfl,rfl⟩:=h
      obtain ⟨I,J,ak,aH,aQ⟩:=aj
      have aN:=gx st (fx a (by rw [cb];simp [Op.operands]))
      rw [oJ] at aN
      obtain ⟨os,s1,s2⟩:=st.CM x (fx x (by rw [cb];simp [Op.operands])) (vF aJ (by rw [cb];simp [Op.operands]))
      obtain ⟨oss,h7,c2,c3⟩:=yf s2 I
      obtain ⟨dI,e4⟩:=st.rB b _ hm
      obtain ⟨cs,e,_,ql,b5,_⟩:=x0 e4
      rw [←ak] at aQ
      have Jx:(ca.eval x).cells.toList.length=(fl (bc fr) x).cells.length:=by simpa using h7
      obtain ⟨h4,iQ⟩:=s1.Cl (vs:=(ca.eval x).cells.toList) hm ql aQ Jx (fun i ab=>by
       have:=c2 i ab
       simpa [Array.getD_eq_getD_getElem?,List.getD_eq_getElem?_getD] using this) c3
      have ys:∀v∈(ca.eval x).cells.toList,v.oneCell'=true:=fun v ba=>by
       obtain ⟨k,pE,rfl⟩:=List.mem_iff_getElem.1 ba
       have pD:k<(fl (bc fr) x).cells.length:=by omega
       have:=c2 k pD
       have a8:(ca.eval x).cells.getD k undef=(ca.eval x).cells.toList[k]:=by
        simp [Array.getD_eq_getD_getElem?,show k<(ca.eval x).cells.size from by simpa using pE]
       rw [a8] at this
       exact Cx J pD this
      have bU:=run_storeCells_at P b off e (ca.eval x).cells.toList 0 cs w ql (by simp [b5];omega) ys
      simp only [Nat.add_zero] at bU
      rw [←ak]
      refine ⟨_,lim,?_,h4,iQ⟩
      simp only [execOp,cb,pk aN,Instr.storeAt,Instr.sureAddr,storeVar,Sem.run_bind,Sem.run_pure,Result.andThen_ok,k5 aH]
      have ek:¬(ca.eval x).cells.size≠P.cellsOf t:=by rw [h7,ak];simp
      simp only [ek,if_false,Sem.run_bind,Sem.run_pure,Result.andThen_ok,bU]
    · cases h
  · cases h
 all_goals first
  |cases h
  |(split at h<;>cases h)
  |(split at h<;>(first|cases h|(split at h<;>first|cases h|(split at h<;>cases h))))
theorem Jy (k s:Nat) (z:List aa) (au:z.length=s) (aj:0<s):∀i,i<k*s→(List.replicate k z).flatten.getD i .aP=z.getD (i%s) .aP:=by
 induction k with
 |zero=>intro i ab;omega
 |succ k aO=>
  intro i ab
  rw [List.replicate_succ,List.flatten_cons]
  by_cases h:i<s
  · rw [nb (by omega),Nat.mod_eq_of_lt h]
  · rw [oG (by omega),au,aO (i- s) (by rw [Nat.add_mul] at ab;omega)]
    rw [←Nat.mod_eq_sub_mod (by omega:s≤i)]
def CO (P:Program) (F:Nat→Prop) (lim:Nat→Nat) (w:World) (n:Nat) (ca:Act) (o:Oper) (aY:Fr) (m:ae) (mk:Nat→aa) (fM:e2):Prop:=
 ∃v w' b,(execOp ca.eval o).run P w= .ok (.value v) w'∧m b=none∧aV F lim w' n aY (m.bX b (some fM)) ca []∧aF w' lim v (mk b) []∧cU F w lim w' lim
theorem rJ (st:aV F lim w n fr m ca bn) (o:Obj):cU F w lim (w.alloc o) lim:=by
 have eh:=cU.alloc st o 0
 have au:=st.ph
 have eL:(fun b=>if b=w.heap.size then 0 else lim b)=lim:=by funext b;by_cases ag:b=w.heap.size<;>simp [ag,au]
 rwa [eL] at eh
theorem CP (st:aV F lim w n fr m ca []):m w.heap.size=none∧aV F lim (w.alloc (.map #[] 0)) n fr (m.bX w.heap.size (some (.map []))) ca []:=by
 have eh:=rJ st (.map #[] 0)
 have au:=st.ph
 have dB:¬F w.heap.size:=fun aM=>absurd (st.ov aM) (Nat.lt_irrefl _)
 have hm:m w.heap.size=none:=by
  cases ag:m w.heap.size with
  |none=>rfl
  |some o=>exact absurd (st.ow (b:=w.heap.size) (by rw [ag];simp)) (Nat.lt_irrefl _)
 have cW:=st.alloc (.map #[] 0) 0
 have eL:(fun b=>if b=w.heap.size then 0 else lim b)=lim:=by funext b;by_cases ag:b=w.heap.size<;>simp [ag,au]
 rw [eL] at cW
 refine ⟨hm,?_⟩
 obtain ⟨os,b3,bu,h⟩:=st
 have bN:∀c,bu c≠ .none→c<w.heap.size:=fun c ah=>(h.free c ah).2.2
 refine ⟨os,fun b i=>if b=w.heap.size then [] else b3 b i,bu,h.size,h.defers,fun t x ao=>⟨(h.dv t x ao).1,(h.dv t x ao).2.fX eh.mono eh.cell (fun c ah=>⟨kb w _ c (bN c (by rw [(h.ea t x ao).2 c ah];simp)),rfl⟩)⟩,fun b o ag=>?_,h.ea,fun b o ag i=>?_,h.fs,fun c ah=>?_,fun b ag=>?_⟩
 · by_cases mi:b=w.heap.size
   · subst mi
     simp only [ae.bX,↓reduceIte,Option.some.injEq] at ag ⊢
     subst ag
     exact ⟨.map #[] 0 [] (mU w _) rfl (by simp) (fun i ab=>by simp at ab) (fun i ab=>by simp at ab) (fun i j _ aG=>by simp at aG) (fun i ab=>by simp at ab) _,au,dB⟩
   · simp only [ae.bX,if_neg mi] at ag ⊢
     have nd:b<w.heap.size:=by
      rcases Nat.lt_or_ge b w.heap.size with e9|e9
      · exact e9
      · have:=(h.fresh b e9).2.2;rw [ag] at this;cases this
     have Sg:¬b=w.heap.size:=mi
     exact ⟨(h.mem b o ag).1.fX (kb w _ b nd) eh.mono eh.cell (fun i c ah=>⟨kb w _ c (bN c (by rw [(h.dn b o ag i).2 c ah];simp)),rfl⟩),(h.mem b o ag).2⟩
 · by_cases mi:b=w.heap.size
   · subst mi
     simp
   · simp only [ae.bX,if_neg mi] at ag ⊢
     exact h.dn b o ag i
 · have:=h.free c ah
   refine ⟨this.1,?_,by simp;omega⟩
   simp only [ae.bX]
   rw [if_neg (by omega)]
   exact this.2.1
 · simp at ag
   have:=h.fresh b (by omega)
   refine ⟨this.1,this.2.1,?_⟩
   simp only [ae.bX]
   rw [if_neg (by omega)]
   exact this.2.2
set_option maxHeartbeats 2000000 in
theorem Jz {stl:List Nat} {o:Oper} {side:Prop} {ss:List Nat} {mk:Nat→aa} {fM:e2} (h:ec P m (bc fr) stl o.dst o.op= .new side ss mk fM) (aj:side) (st:aV F lim w n fr m ca []) (ai:ef n o=true):
 CO P F lim w n ca o (fr.strip ss) m mk fM:=by
 have fx:=jO ai
 have yD:∀(cs:Array Value) (e:TypeId) (l:List aa),tl w lim cs l→∀v,(execOp ca.eval o).run P w= .ok (.value v) (w.alloc (.cells cs e))→aF (w.alloc (.cells cs e)) lim v (mk w.heap.size) []→fM= .cells l→CO P F lim w n ca o fr m mk fM:=fun cs e l ah v aw ba aD=>by
  obtain ⟨I,J⟩:=st.xR cs e l ah.1 ah.2
  subst aD
  exact ⟨v,_,w.heap.size,aw,I,J,ba,rJ st _⟩
 unfold ec at h
 split at h
 case h_6 t x cb=>
  simp only [iw.new.injEq] at h
  obtain ⟨rfl,rfl,rfl,rfl⟩:=h
  have ao:=gx st (fx x (by rw [cb];simp [Op.operands]))
  exact yD _ t _ (qq ao aj) (.pointer (some ⟨w.heap.size,0,none⟩)) (by simp [execOp,cb,Instr.box,newVar,newRow]) (.ptr _) rfl
 case h_7 t cb=>
  split at h
  · next z au=>
    simp only [iw.new.injEq] at h
    obtain ⟨rfl,rfl,rfl,rfl⟩:=h
    obtain ⟨v,I,J,rfl,aH⟩:=vC (w:=w) (lim:=lim) au
    exact yD _ t _ (qq aH aj) (.pointer (some ⟨w.heap.size,0,none⟩)) (by simp [execOp,cb,Instr.alloc,newVar,newRow,I]) (.ptr _) rfl
  · cases h
 case h_8 t x y cb=>
  split at h
  · next e k cX hu ao aE=>
    split at h
    · next z au=>
      simp only [iw.new.injEq] at h
      obtain ⟨rfl,rfl,rfl,rfl⟩:=h
      obtain ⟨I,J,ak,aH,rfl,bw,db,cA⟩:=aj
      obtain ⟨v,g1,g2,rfl,g4⟩:=vC (w:=w) (lim:=lim) au
      have vG:=gx st (fx x (by rw [cb];simp [Op.operands]))
      have rF:=gx st (fx y (by rw [cb];simp [Op.operands]))
      rw [ao] at vG;rw [aE] at rF
      obtain ⟨ex,qu,JA⟩:=k6 vG
      obtain ⟨yE,_,_⟩:=k6 rF
      have hw:=B2 .i64 k qu JA
      cases ab:P.info? e with
      |none=>simp [dG,Program.underlying,ab] at J
      |some i=>
       obtain ⟨iS,nN⟩:=tf ab
       rw [iS] at ak aH;rw [nN] at db
       have nO:v.cells.size=i.size:=by rw [←vz];exact ak
       obtain ⟨yF,fN,bZ,bo,_,iT⟩:=yi (P:=P) (e:=e) (by rw [au];rfl)
       rw [ab] at bZ
       obtain rfl:i=yF:=by simpa using bZ
       have vH:fN=v:=by
        have:=g1
        simp [zeroValue,typeInfo,ab,bo] at this
        exact this
       subst vH
       have hmul:(i.bytes:Int)*k=k*i.bytes:=Int.mul_comm _ _
       have gw:=run_make (P:=P) w t e i fN hu ab bo .i64 .i64 k k bw (Int.le_refl _) (by omega) (by omega)
       refine yD (madeCells fN.cells (k.toNat*i.size)) e _ ?_ (.slice (some ⟨w.heap.size,0,none⟩) k.toNat k.toNat) ?_ (.ms _ _ _ (Nat.le_refl _) (by simp only [maxLen];omega)) rfl
       · refine ⟨by simp [vz,nO,size_madeCells],fun j aG=>?_⟩
         have oK:j<k.toNat*i.size:=by simpa [vz,nO] using aG
         have CQ:=Nat.mod_lt j aH
         rw [Jy _ i.size _ ak aH j oK]
         have ay:(madeCells fN.cells (k.toNat*i.size)).getD j undef=fN.cells.getD (j%i.size) undef:=by
          unfold madeCells
          rw [Array.getD_eq_getD_getElem?,Array.getElem?_map,Array.getElem?_range,if_pos oK]
          simp [getElem!_pos,nO,CQ,Array.getD]
         rw [ay]
         exact (qq g4 I).2 _ (by rw [ak];exact CQ)
       · simp only [execOp,cb,ex,yE,Sem.run_bind,gw,Result.andThen_ok];rfl
    · cases h
  · cases h
 case h_9 t r cb=>
  split at h
  · next k e hu aw=>
    simp only [iw.new.injEq] at h
    obtain ⟨rfl,rfl,rfl,rfl⟩:=h
    obtain ⟨I,J⟩:=CP st
    refine ⟨.map (some w.heap.size),_,w.heap.size,?_,I,J, .map _,rJ st _⟩
    cases r with
    |none=>simp [execOp,cb,Instr.makeMap,eM hu]
    |some y=>simp at aw
  · next k e qv bW hu aw=>
    simp only [iw.new.injEq] at h
    obtain ⟨rfl,rfl,rfl,rfl⟩:=h
    obtain ⟨I,J⟩:=CP st
    refine ⟨.map (some w.heap.size),_,w.heap.size,?_,I,J, .map _,rJ st _⟩
    cases r with
    |none=>simp at aw
    |some y=>
     simp at aw
     have aE:=gx st (fx y (by rw [cb];simp [Op.operands]))
     rw [aw] at aE
     obtain ⟨yE,_,_⟩:=k6 aE
     simp [execOp,cb,Instr.makeMap,eM hu,yE,asInt,asIntOf]
  · cases h
 all_goals first
  |cases h
  |(split at h<;>cases h)
  |(split at h<;>(first|cases h|(split at h<;>first|cases h|(split at h<;>cases h))))
end
end Go.bb
end
section
namespace Go.bb
open Go
section
variable {P:Program} {F:Nat→Prop} {lim:Nat→Nat} {w:World} {n:Nat} {fr:Fr} {m:ae} {ca:Act} {bn:List Nat}
def Place.nf:Place→Bool
 | .slot _=>true
 |_=>false
theorem aV.split (h:aV F lim w n fr m ca []):∃mh:Nat→Prop,(∀b,F b→mh b)∧aV mh lim w 0 [] m mn []∧
 ∀lim' w' m' os,aV mh lim' w' 0 [] m' mn os→cU mh w lim w' lim'→aV F lim' w' n fr m' ca os:=by
 obtain ⟨os,b3,bu,h⟩:=h
 refine ⟨fun b=>F b∨(bu b).nf=true,fun b ag=> .inl ag,⟨os,b3,fun c=>if (bu c).nf then .none else bu c,rfl,rfl,fun t x ao=>by simp [Fr.get] at ao,fun b o ag=>?_,fun t x ao=>by simp [Fr.get] at ao,fun b o ag i=>⟨(h.dn b o ag i).1,fun c ah=>by simp [(h.dn b o ag i).2 c ah,Place.nf]⟩,⟨by simp,by simp⟩,fun c ah=>?_,fun b ag=>?_⟩,?_⟩
 · refine ⟨(h.mem b o ag).1,(h.mem b o ag).2.1,fun aM=>?_⟩
   rcases aM with aM|aM
   · exact (h.mem b o ag).2.2 aM
   · have:=(h.free b (by intro e;rw [e] at aM;simp [Place.nf] at aM)).2.1
     rw [ag] at this;cases this
 · by_cases aj:(bu c).nf=true
   · simp [aj] at ah
   · simp only [aj] at ah
     have:=h.free c (by simpa using ah)
     exact ⟨fun aM=>aM.elim this.1 aj,this.2⟩
 · have:=h.fresh b ag
   refine ⟨this.1,fun aM=>aM.elim this.2.1 (fun aj=>?_),this.2.2⟩
   have:=(h.free b (by intro e;rw [e] at aj;simp [Place.nf] at aj)).2.2
   omega
 · intro lim' w' m' bn ⟨Ir,JB,CR,k⟩ cN
   have fZ:∀c,CR c≠ .none→¬(bu c).nf=true:=fun c ah aj=>(k.free c ah).1 (.inr aj)
   refine ⟨os,JB,fun c=>if (bu c).nf then bu c else CR c,h.size,h.defers,fun t x ao=>⟨(h.dv t x ao).1,(h.dv t x ao).2.fX cN.mono cN.cell (fun c ah=>cN.res c (.inr ?_))⟩,fun b o ag=>?_,fun t x ao=>⟨(h.ea t x ao).1,fun c ah=>?_⟩,fun b o ag i=>⟨(k.dn b o ag i).1,fun c ah=>?_⟩,⟨k.fs.1,fun c ah=>?_⟩,fun c ah=>?_,fun b ag=>?_⟩
   · rw [(h.ea t x ao).2 c ah];rfl
   · exact ⟨(k.mem b o ag).1,(k.mem b o ag).2.1,fun aM=>(k.mem b o ag).2.2 (.inl aM)⟩
   · have:=(h.ea t x ao).2 c ah
     simp [this,Place.nf]
   · have I:=(k.dn b o ag i).2 c ah
     have:=fZ c (by rw [I];simp)
     simp [this,I]
   · have I:=k.fs.2 c ah
     have:=fZ c (by rw [I];simp)
     simp [this,I]
   · by_cases aj:(bu c).nf=true
     · have I:=h.free c (by intro e;rw [e] at aj;simp [Place.nf] at aj)
       refine ⟨I.1,?_,Nat.lt_of_lt_of_le I.2.2 cN.size⟩
       cases hm:m' c with
       |none=>rfl
       |some o=>exact ((k.mem c o hm).2.2 (.inr aj)).elim
     · have I:=k.free c (by simpa [aj] using ah)
       exact ⟨fun aM=>I.1 (.inl aM),I.2⟩
   · have:=k.fresh b ag
     exact ⟨this.1,fun aM=>this.2.1 (.inl aM),this.2.2⟩
theorem vI {f:FuncId} {args:List aa} {K:aa→ae→Prop} (ah:bp P f args m K) (st:aV F lim w n fr m ca []) {cargs:Array Value} (aj:cargs.size=args.length) (aw:∀i,i<args.length→aF w lim (cargs.getD i undef) (args.getD i .aP) [])
 {o:Oper} {next:Act→World→Prop} {Q:Exit→Act→World→Prop} (he:∀fn,P.funcs[f]?=some fn→fn.body.isSome=true→(fn.name== "runtime.NumGoroutine")=false→(execOp ca.eval o).run P w= .ok (.enter f cargs) w)
 (aJ:∀v x lim' w' m' os,K x m'→aF w' lim' v x os→aV F lim' w' n fr m' ca os→cU F w lim w' lim'→next (ca.put o.dst v) w'):o.wp P ca w next Q:=by
 obtain ⟨⟨fn,I,J,ak⟩,tr⟩:=ah
 obtain ⟨mh,dB,s1,s2⟩:=st.split
 unfold Oper.wp
 rw [he fn I J ak,Oper.upon_enter]
 refine (tr mh lim w cargs aj aw s1).mono fun e w' ⟨v,x,lim',m',os,he,ad,hr,jR,eh⟩=>?_
 subst he
 exact aJ v x lim' w' m' os ad hr (s2 lim' w' m' os jR eh) (eh.weaken dB)
theorem ts {f:FuncId} {fn:Func} (args:Array Value) (I:P.funcs[f]?=some fn) (J:fn.body.isSome=true) (ak:(fn.name== "runtime.NumGoroutine")=false):(callFunc f args).run P w= .ok (.enter f args) w:=by
 have CS:fn.body.isNone=false:=by cases h:fn.body<;>simp_all
 have tt:¬fn.name= "runtime.NumGoroutine":=by simpa using ak
 have JC:¬fn.body=none:=by intro e;rw [e] at J;cases J
 simp [callFunc,I,tt,JC]
theorem JD {ops:Array Oper} {stl:List Nat} {o:Oper} {K iv:Fr→ae→Prop} (ad:∀fr m,K fr m→iv fr m) (h:mr P ops stl o K fr m):mr P ops stl o iv fr m:=by
 unfold mr at h ⊢
 split at h
 · split at h
   · exact ⟨h.1,ad _ _ h.2⟩
   · exact ⟨h.1,ad _ _ h.2⟩
   · exact ⟨h.1,fun b ag=>ad _ _ (h.2 b ag)⟩
   · refine h.mono fun x m' ao=>?_
     unfold vu at ao ⊢
     split at ao<;>exact ad _ _ ao
   · exact h
 · split at h
   · split at h
     · split at h
       · obtain ⟨x,I,J⟩:=h
         exact ⟨x,I,ad _ _ J⟩
       · split at h
         · obtain ⟨x,I,J⟩:=h
           exact ⟨x,I,ad _ _ J⟩
         · exact h
       · split at h
         · exact ⟨h.1,ad _ _ h.2⟩
         · exact h
     · exact h
   · exact h
theorem aV.dX {d:Option Nat} (h:aV F lim w n fr m ca bn) (a7:∀t,d=some t→t<n) {v:Value} {x:aa} (ao:aF w lim v x bn):aV F lim w n (bb.dX fr d x) m (ca.put d v) []:=by
 cases d with
 |none=>exact h.drop
 |some d=>exact h.B1 (a7 d rfl) ao
theorem CT {v:Value} {x:aa} {os:List Nat} (h:aF w lim v x os):aF w lim v (vv true x) os:=by
 unfold vv
 split
 · simpa using h
 · exact h
theorem vJ {op:Op} (st:aV F lim w n fr m ca bn) {y:Operand} (aE:kc y=true):aF w lim (ca.eval y) (pt (bc fr) true op y) []:=by
 unfold pt
 split
 · exact CT (gx st aE)
 · exact B9 (CT (gx st aE))
theorem tu {args:Array Operand} {a:Operand→aa} (h:∀y∈args.toList,aF w lim (ca.eval y) (a y) []):(args.map ca.eval).size=(args.toList.map a).length∧∀i,i<(args.toList.map a).length→aF w lim ((args.map ca.eval).getD i undef) ((args.toList.map a).getD i .aP) []:=by
 refine ⟨by simp,fun i ab=>?_⟩
 simp only [List.length_map] at ab
 have eX:i<args.size:=by simpa using ab
 have ay:(args.map ca.eval).getD i undef=ca.eval args[i]:=by simp [Array.getD,eX]
 have az:(args.toList.map a).getD i .aP=a args[i]:=by simp [List.getD_eq_getElem?_getD,eX]
 rw [ay,az]
 exact h _ (by simp)
theorem JE {e:Value} {f:FuncId} {first lK args:List aa} {cs:Array Value} (aM:aF w lim e (.func (.func f) first lK) []) (cW:cs.size=args.length∧∀i,i<args.length→aF w lim (cs.getD i undef) (args.getD i .aP) []):
 ∃dr jQ:Array Value,e= .func (.func f) dr jQ∧(dr++cs++jQ).size=(first++args++lK).length∧∀i,i<(first++args++lK).length→aF w lim ((dr++cs++jQ).getD i undef) ((first++args++lK).getD i .aP) []:=by
 cases aM with
 |func _ dr jQ _ _ I J ak aH=>
  refine ⟨dr,jQ,rfl,by simp [I,J,cW.1],fun i ab=>?_⟩
  simp only [List.length_append] at ab
  by_cases i1:i<first.length
  · have ay:(dr++cs++jQ).getD i undef=dr.getD i undef:=by
     simp [Array.getD_eq_getD_getElem?,Array.getElem?_append,I,i1,show i<first.length+cs.size from by omega]
    rw [ay,nb (by simp;omega),nb i1];exact ak i i1
  · by_cases i2:i<first.length+cs.size
    · have ay:(dr++cs++jQ).getD i undef=cs.getD (i- first.length) undef:=by
       simp [Array.getD_eq_getD_getElem?,Array.getElem?_append,I,i1,i2,show i- first.length<cs.size from by omega]
      rw [ay,nb (by simp;omega),oG (by omega)];exact cW.2 _ (by omega)
    · have ay:(dr++cs++jQ).getD i undef=jQ.getD (i- (first.length+cs.size)) undef:=by
       simp [Array.getD_eq_getD_getElem?,Array.getElem?_append,I,i1,i2,show ¬i- first.length<cs.size from by omega,Nat.sub_sub]
      have hlen:(first++args).length=first.length+cs.size:=by simp [cW.1]
      rw [ay,oG (by omega),hlen];exact aH _ (by omega)
theorem JF {stl:List Nat} {o:Oper} {f:FuncId} {args:List aa} (h:ec P m (bc fr) stl o.dst o.op= .call f args) (st:aV F lim w n fr m ca []) (ai:ef n o=true):
 ∃cargs:Array Value,cargs.size=args.length∧(∀i,i<args.length→aF w lim (cargs.getD i undef) (args.getD i .aP) [])∧
  ∀fn,P.funcs[f]?=some fn→fn.body.isSome=true→(fn.name== "runtime.NumGoroutine")=false→(execOp ca.eval o).run P w= .ok (.enter f cargs) w:=by
 have fx:=jO ai
 unfold ec at h
 split at h
 case h_13 g kj bd cb=>
  simp only [iw.call.injEq] at h
  obtain ⟨rfl,rfl⟩:=h
  have cW:=tu (ca:=ca) (a:=bR (bc fr)) (args:=kj) (fun y aE=>gx st (fx y (by rw [cb];simp [Op.operands,Call.operands];exact .inr (by simpa using aE))))
  refine ⟨kj.map ca.eval,cW.1,cW.2,fun fn I J ak=>?_⟩
  simp [execOp,cb,resolve,Deferred.ofValue,Act.eval,invoke,ts _ I J ak]
 case h_14 t kj bd cb=>
  split at h
  · next g first lK lN=>
    simp only [iw.call.injEq] at h
    obtain ⟨rfl,rfl⟩:=h
    have cW:=tu (ca:=ca) (a:=bR (bc fr)) (args:=kj) (fun y aE=>gx st (fx y (by rw [cb];simp [Op.operands,Call.operands];exact .inr (by simpa using aE))))
    have aM:=gx st (x:= .tmp t) rfl
    simp only [bR,lN,aa.plain] at aM
    generalize he:ca.eval (.tmp t)=e at aM
    cases aM with
    |func _ dr jQ _ _ I J ak aH=>
     refine ⟨dr++kj.map ca.eval++jQ,by simp [I,J],fun i ab=>?_,fun fn g1 g2 g3=>?_⟩
     · simp only [List.length_append,List.length_map,Array.length_toList] at ab
       by_cases i1:i<first.length
       · have ay:(dr++kj.map ca.eval++jQ).getD i undef=dr.getD i undef:=by
          simp [Array.getD_eq_getD_getElem?,Array.getElem?_append,I,i1,show i<first.length+kj.size from by omega]
         rw [ay,nb (by simp;omega),nb i1];exact ak i i1
       · by_cases i2:i<first.length+kj.size
         · have ay:(dr++kj.map ca.eval++jQ).getD i undef=(kj.map ca.eval).getD (i- first.length) undef:=by
            simp [Array.getD_eq_getD_getElem?,Array.getElem?_append,I,i1,i2,show i- first.length<kj.size from by omega]
           rw [ay,nb (by simp;omega),oG (by omega)];exact cW.2 _ (by simp;omega)
         · have ay:(dr++kj.map ca.eval++jQ).getD i undef=jQ.getD (i- (first.length+kj.size)) undef:=by
            simp [Array.getD_eq_getD_getElem?,Array.getElem?_append,I,i1,i2,show ¬i- first.length<kj.size from by omega,Nat.sub_sub]
           have hlen:(first++kj.toList.map (bR (bc fr))).length=first.length+kj.size:=by simp
           rw [ay,oG (by omega),hlen];exact aH _ (by omega)
     · simp [execOp,cb,resolve,he,Deferred.ofValue,invoke,ts _ g1 g2 g3]
  · cases h
 all_goals first
  |cases h
  |(split at h<;>cases h)
  |(split at h<;>(first|cases h|(split at h<;>first|cases h|(split at h<;>cases h))))
def CU:Value→Option Bool
 | .bool b=>some b
 |_=>none
theorem JG {v:Value} {x:aa} {b z:Bool} {os:List Nat} (au:rD x b=some z) (aw:aF w lim v x os):(CU v==some b)=z:=by
 unfold rD at au
 split at au
 · obtain rfl:=Option.some.inj au
   cases aw
   rename_i c
   cases c<;>rfl
 · obtain rfl:=Option.some.inj au
   cases aw
   rename_i c
   cases c<;>rfl
 · obtain rfl:=Option.some.inj au
   cases aw with
   |mT _ _ _ aw=>
    cases aw
    rename_i c
    cases c<;>rfl
   |k2=>rfl
 · obtain rfl:=Option.some.inj au
   cases aw with
   |mT _ _ _ aw=>
    cases aw
    rename_i c
    cases c<;>rfl
   |k2=>rfl
 · cases au
theorem JH {ops:Array Oper} {o:Oper} {j g:Nat} {b z:Bool} (a8:o.guard=some (j,b)) (aG:(ops[j]?).bind (·.dst)=some g) (st:aV F lim w n fr m ca bn) (au:rD (bc fr g) b=some z):
 Region.wanted o (yielded ops ca.tmps)=z:=by
 obtain ⟨os,b3,bu,h⟩:=st
 cases aL:fr.get g with
 |none=>simp [bc,aL,rD] at au
 |some x=>
  simp only [bc,aL,Option.getD_some] at au
  obtain ⟨bN,aw⟩:=h.dv g _ aL
  have nd:g<ca.tmps.size:=by rw [h.size];exact bN
  have tv:ca.tmps[g]?=some (ca.tmps.getD g undef):=by
   rw [Array.getElem?_eq_getElem nd]
   simp [Array.getD,nd]
  have:=JG au aw
  simp only [Region.wanted,a8,yielded,aG,Option.bind_some,tv]
  rw [←this]
  generalize ca.tmps.getD g undef=v
  cases v<;>rfl
theorem yG {ops:Array Oper} {o:Oper} {l:List Oper} {K:Fr→ae→Prop} {j g d:Nat} {b z:Bool} {x:aa} (a8:o.guard=some (j,b)) (aG:(ops[j]?).bind (·.dst)=some g) (a7:o.dst=some d) (hG:d<n) (ah:rD (bc fr g) b=some z)
 (gw:z=true→∀F lim w ca,aV F lim w n fr m ca []→∀(next:Act→World→Prop) Q,(∀v lim' w',aV F lim' w' n fr m ca []→aF w' lim' v x []→cU F w lim w' lim'→next (ca.put o.dst v) w')→o.wp P ca w next Q)
 (ad:bB P n ops l K (fr.put d (.lazy z x)) m):bB P n ops (o::l) K fr m:=by
 intro F lim w ca Q st aS
 have hw:=JH (ops:=ops) a8 aG st ah
 unfold wpList
 by_cases h6:z=true
 · rw [if_pos (by rw [hw];exact h6)]
   refine .inl (gw h6 F lim w ca st _ _ fun v lim' w' s1 s2 ht=>?_)
   refine ad.from aS ?_ ht
   rw [a7,h6]
   exact s1.set hG (.mT _ _ _ s2)
 · have aM:z=false:=by simpa using h6
   rw [if_neg (by rw [hw,aM];simp)]
   refine ad.from aS ?_ (.refl _ _ _)
   rw [a7,aM]
   exact st.set hG (.k2 _)
theorem tw {ops:Array Oper} {stl:List Nat} {o:Oper} {l:List Oper} {K:Fr→ae→Prop} (ai:ef n o=true) (aJ:fy n o=true) (h:mr P ops stl o (bB P n ops l K) fr m):bB P n ops (o::l) K fr m:=by
 unfold mr at h
 split at h
 · next a8=>
   refine bB.step a8 fun F lim w ca st next Q nP=>?_
   split at h
   · next side ss m' x aN=>
     obtain ⟨v,w',lim',os,I,J,ak,aH⟩:=yA (P:=P) aN h.1 st ai aJ
     exact mo I (nP lim' w' _ _ _ h.2 (J.dX (fun t an=>jr ai an) ak) aH)
   · next side ss m' aN=>
     obtain ⟨w',lim',I,J,ak⟩:=Jw (P:=P) aN h.1 st ai aJ
     exact Ci I (nP lim' w' _ _ _ h.2 (J.dX (fun t an=>jr ai an) (.aP _)) ak)
   · next side ss mk fM aN=>
     obtain ⟨v,w',b,I,J,ak,aH,aQ⟩:=Jz (P:=P) aN h.1 st ai
     exact mo I (nP lim w' _ _ _ (h.2 b J) (ak.dX (fun t an=>jr ai an) aH) aQ)
   · next f args aN=>
     obtain ⟨cargs,I,J,ak⟩:=JF (P:=P) aN st ai
     refine vI h st I J ak fun v x lim' w' m' os ad hr jR eh=>nP lim' w' (dX fr o.dst x) m' _ ?_ (jR.dX (fun t an=>jr ai an) hr) eh
     unfold vu at ad
     cases a7:o.dst<;>simpa [a7,dX] using ad
   · exact h.elim
 · next j b a8=>
   split at h
   · next g d aG a7=>
     split at h
     · next c ah=>
       have hG:=jr ai a7
       split at h
       · next f args bd cb=>
         obtain ⟨x,I,J⟩:=h
         refine yG a8 aG a7 hG ah (fun h6 F lim w ca st next Q nP=>?_) J
         rw [h6] at I
         have tr:=I rfl (fun bD m'=>bD=x∧m'=m) ⟨rfl,rfl⟩
         have cW:=tu (ca:=ca) (a:=pt (bc fr) true o.op) (args:=args) (fun y aE=>vJ st (jO ai y (by rw [cb];simp [Op.operands,Call.operands];exact .inr (by simpa using aE))))
         refine vI tr st cW.1 cW.2 (fun fn g1 g2 g3=>by simp [execOp,cb,resolve,Deferred.ofValue,Act.eval,invoke,ts _ g1 g2 g3]) fun v bD lim' w' m' os ad hr jR eh=>?_
         obtain ⟨rfl,rfl⟩:=ad
         exact nP v lim' w' jR.drop hr.plain eh
       · next t args bd cb=>
         split at h
         · next f first lK CV=>
           obtain ⟨x,I,J⟩:=h
           refine yG a8 aG a7 hG ah (fun h6 F lim w ca st next Q nP=>?_) J
           rw [h6] at I CV
           have tr:=I rfl (fun bD m'=>bD=x∧m'=m) ⟨rfl,rfl⟩
           have cW:=tu (ca:=ca) (a:=pt (bc fr) true o.op) (args:=args) (fun y aE=>vJ st (jO ai y (by rw [cb];simp [Op.operands,Call.operands];exact .inr (by simpa using aE))))
           have dB:=vJ (op:=o.op) st (y:= .tmp t) rfl
           rw [CV] at dB
           obtain ⟨dr,jQ,he,lH,ml⟩:=JE dB cW
           refine vI tr st lH ml (fun fn g1 g2 g3=>by simp [execOp,cb,resolve,he,Deferred.ofValue,invoke,ts _ g1 g2 g3]) fun v bD lim' w' m' os ad hr jR eh=>?_
           obtain ⟨rfl,rfl⟩:=ad
           exact nP v lim' w' jR.drop hr.plain eh
         · exact h.elim
       · split at h
         · next side x aS=>
           refine yG a8 aG a7 hG ah (fun h6 F lim w ca st next Q nP=>?_) h.2
           rw [h6] at aS h
           obtain ⟨v,I,J⟩:=vt (P:=P) (w:=w) (lim:=lim) aS (h.1 rfl) (ca:=ca) (fun y aE=>vJ st (jO ai y aE)) st.rB
           exact mo I (nP v lim w st J (.refl _ _ _))
         · exact h.elim
     · exact h.elim
   · exact h.elim
def jS (n:Nat) (ops:Array Oper) (ks:List Nat):Bool:=(ops.toList.all fun o=>ef n o&&fy n o)&&ks.all fun t=>decide (t<n)
def Fr.init:Nat→List aa→Fr
 |_,[]=>[]
 |i,x::r=>(i,x)::Fr.init (i+1) r
theorem Fr.JI:∀(l:List aa) (k t:Nat) (x:aa),(Fr.init k l).get t=some x→k≤t∧t- k<l.length∧l.getD (t- k) .aP=x:=by
 intro l
 induction l with
 |nil=>intro k t x h;simp [Fr.init,Fr.get] at h
 |cons y l aO=>
  intro k t x h
  simp only [Fr.init,Fr.get] at h
  by_cases e:k=t
  · subst e
    simp at h
    subst h
    simp
  · rw [if_neg e] at h
    obtain ⟨I,J,ak⟩:=aO (k+1) t x h
    refine ⟨by omega,by simp;omega,?_⟩
    rw [show t- k=(t- (k+1))+1 from by omega,List.getD_cons_succ]
    exact ak
def kk (P:Program) (fr:Fr) (m:ae):ResultVar→Option (Prop×aa)
 | .tmp t=>some (True,bc fr t)
 | .cell a t=>
   match bc fr a with
   | .ptr ⟨b,off,none⟩=>
     match m b with
     |some (.cells l)=>some (jk P t l off,(apart P t l off).plain)
     |_=>none
   |_=>none
def rK (P:Program) (fn:Func) (fr:Fr) (m:ae) (K:aa→ae→Prop):Prop:=
 match fn.results.toList with
 |[r]=>
  match kk P fr m r with
  |some (side,x)=>side∧∃m',(∀b o,m' b=some o→m b=some o)∧K x m'
  |none=>False
 |[r,s]=>
  match kk P fr m r,kk P fr m s with
  |some (side,x),some (nQ,y)=>side∧nQ∧∃m',(∀b o,m' b=some o→m b=some o)∧K (.tuple [x,y.plain]) m'
  |_,_=>False
 |[r,s,t]=>
  match kk P fr m r,kk P fr m s,kk P fr m t with
  |some (side,x),some (nQ,y),some (tx,z)=>side∧nQ∧tx∧∃m',(∀b o,m' b=some o→m b=some o)∧K (.tuple [x,y.plain,z.plain]) m'
  |_,_,_=>False
 |[]=>∃m',(∀b o,m' b=some o→m b=some o)∧K (.tuple []) m'
 |[r,s,t,u]=>
  match kk P fr m r,kk P fr m s,kk P fr m t,kk P fr m u with
  |some (side,x),some (nQ,y),some (tx,z),some (CW,a)=>side∧nQ∧tx∧CW∧∃m',(∀b o,m' b=some o→m b=some o)∧K (.tuple [x.plain,y.plain,z.plain,a.plain]) m'
  |_,_,_,_=>False
 |_=>False
def JJ (P:Program) (fn:Func) (K:aa→ae→Prop):Exit→Fr→ae→Prop
 | .ret,fr,m| .normal,fr,m=>rK P fn fr m K
 |_,_,_=>False
end
end Go.bb
end
section
namespace Go.bb
open Go
section
variable {P:Program} {F:Nat→Prop} {lim:Nat→Nat} {w:World} {n:Nat} {fr:Fr} {m:ae} {ca:Act} {bn:List Nat}
theorem aV.toMem (h:aV F lim w n fr m ca bn):aV F lim w 0 [] m mn bn:=by
 obtain ⟨os,b3,bu,h⟩:=h
 exact ⟨os,b3,bu,rfl,rfl,fun t x ao=>by simp [Fr.get] at ao,h.mem,fun t x ao=>by simp [Fr.get] at ao,h.dn,h.fs,h.free,h.fresh⟩
theorem aV.defers (h:aV F lim w n fr m ca bn):ca.defers=[]:=by
 obtain ⟨os,b3,bu,h⟩:=h
 exact h.defers
theorem aV.CX (h:aV F lim w n fr m ca []) (s:Nat):∃os,aV F lim w 0 [] m mn os∧aF w lim (ca.tmps.getD s undef) (bc fr s) os:=by
 cases a8:fr.get s with
 |none=>exact ⟨[],h.toMem,by simp [bc,a8];exact .aP _⟩
 |some x=>
  obtain ⟨os,I,J⟩:=h.take a8
  exact ⟨os,I.toMem,by simpa [bc,a8] using J⟩
def lO (P:Program) (tmps:Array Value) (w:World) (v:Value):ResultVar→Prop
 | .tmp t=>v=tmps.getD t undef
 | .cell a t=>∃p,tmps.getD a undef= .pointer (some p)∧(loadVar t p).run P w= .ok v w
theorem nR {r:ResultVar} {side:Prop} {x:aa} (h:kk P fr m r=some (side,x)) (aj:side) (st:aV F lim w n fr m ca []):∃v os,lO P ca.tmps w v r∧aV F lim w 0 [] m mn os∧aF w lim v x os:=by
 cases r with
 |tmp t=>
  obtain ⟨rfl,rfl⟩:=some_inj h
  obtain ⟨os,I,J⟩:=st.CX t
  exact ⟨_,os,rfl,I,J⟩
 |cell a t=>
  simp only [kk] at h
  split at h
  · next b off lN=>
    split at h
    · next l hm=>
      obtain ⟨rfl,rfl⟩:=some_inj h
      obtain ⟨os,e4⟩:=st.rB b _ hm
      obtain ⟨cs,e,oss,ql,b5,aw⟩:=x0 e4
      have aB:ca.tmps.getD a undef= .pointer (some ⟨b,off,none⟩):=by
       obtain ⟨dI,_,J⟩:=st.CX a
       rw [lN] at J
       exact pk J
      obtain ⟨v,I,J⟩:=s4 (P:=P) (w:=w) (lim:=lim) (t:=t) (b:=b) (off:=0) (l:=aa.ey l) (f:=fun i=>cs.getD i undef) (k:=off) (by simpa [jk,aa.hE] using aj)
       (fun i ab=>by
         have eX:i<cs.size:=by simpa [aa.hE,b5] using ab
         simp [World.cell?,ql,Array.getD,eX])
       (fun i ab=>by rw [mg];exact (aw i (by simpa [aa.hE] using ab)).plain)
      simp only [Nat.zero_add] at I
      have:apart P t (aa.ey l) off=(apart P t l off).plain:=by
       unfold apart
       split
       · simp [aa.plain,aa.hE,List.map_drop,List.map_take]
       · rw [mg]
      exact ⟨v,[],⟨_,aB,I⟩,st.toMem,by rw [←this];exact J⟩
    · cases h
  · cases h
def yH (tmps:Array Value):ResultVar→Sem Value
 | .tmp t=>pure (tmps.getD t undef)
 | .cell a t=>do loadVar t (←asAddr (tmps.getD a undef))
theorem vK (fn:Func) (tmps:Array Value):results fn tmps=(do let vs ←fn.results.mapM (yH tmps);pure (if h:vs.size=1 then vs[0] else .tuple vs):Sem Value):=by
 unfold results
 congr 1
theorem nS {tmps:Array Value} {v:Value} {r:ResultVar} (h:lO P tmps w v r):(yH tmps r).run P w= .ok v w:=by
 cases r with
 |tmp t=>simp only [lO] at h;subst h;rfl
 |cell a t=>
  obtain ⟨p,I,J⟩:=h
  simp [yH,I,asAddr,J]
theorem JK {fn:Func} {tmps:Array Value} {r:ResultVar} {v:Value} (aM:fn.results.toList=[r]) (h:lO P tmps w v r):(results fn tmps).run P w= .ok v w:=by
 have e:fn.results=#[r]:=by apply Array.ext';simpa using aM
 rw [vK,e]
 simp [nS h]
theorem JL {fn:Func} {tmps:Array Value} {r s:ResultVar} {v u:Value} (aM:fn.results.toList=[r,s]) (h:lO P tmps w v r) (k:lO P tmps w u s):(results fn tmps).run P w= .ok (.tuple #[v,u]) w:=by
 have e:fn.results=#[r,s]:=by apply Array.ext';simpa using aM
 rw [vK,e]
 simp [nS h,nS k]
theorem JM {fn:Func} {tmps:Array Value} {r s t:ResultVar} {v u x:Value} (aM:fn.results.toList=[r,s,t]) (h:lO P tmps w v r) (k:lO P tmps w u s) (j:lO P tmps w x t):(results fn tmps).run P w= .ok (.tuple #[v,u,x]) w:=by
 have e:fn.results=#[r,s,t]:=by apply Array.ext';simpa using aM
 rw [vK,e]
 simp [nS h,nS k,nS j]
theorem JN {fn:Func} {tmps:Array Value} {r s t q:ResultVar} {v u x y:Value} (aM:fn.results.toList=[r,s,t,q]) (h:lO P tmps w v r) (k:lO P tmps w u s) (j:lO P tmps w x t) (i:lO P tmps w y q):(results fn tmps).run P w= .ok (.tuple #[v,u,x,y]) w:=by
 have e:fn.results=#[r,s,t,q]:=by apply Array.ext';simpa using aM
 rw [vK,e]
 simp [nS h,nS k,nS j,nS i]
theorem JO {v u s t:Value} {x y z a:aa} (h:aF w lim v x []) (k:aF w lim u y []) (j:aF w lim s z []) (l:aF w lim t a []):aF w lim (.tuple #[v,u,s,t]) (.tuple [x,y,z,a]) []:=by
 have:=aF.tuple (w:=w) (lim:=lim) #[v,u,s,t] [x,y,z,a] (fun _=>[]) (by simp) (fun i ab=>by
  have:i=0∨i=1∨i=2∨i=3:=by simp at ab;omega
  rcases this with rfl|rfl|rfl|rfl
  · exact h
  · exact k
  · exact j
  · exact l)
 rw [flatMap_nil] at this
 exact this
theorem JP {v u:Value} {x y:aa} {os:List Nat} (h:aF w lim v x os) (k:aF w lim u y []):aF w lim (.tuple #[v,u]) (.tuple [x,y]) os:=by
 have:=aF.tuple (w:=w) (lim:=lim) #[v,u] [x,y] (fun i=>if i=0 then os else []) (by simp) (fun i ab=>by
  have:i=0∨i=1:=by simp at ab;omega
  rcases this with rfl|rfl
  · exact h
  · exact k)
 simpa [List.range_succ] using this
theorem JQ {v u s:Value} {x y z:aa} {os:List Nat} (h:aF w lim v x os) (k:aF w lim u y []) (j:aF w lim s z []):aF w lim (.tuple #[v,u,s]) (.tuple [x,y,z]) os:=by
 have:=aF.tuple (w:=w) (lim:=lim) #[v,u,s] [x,y,z] (fun i=>if i=0 then os else []) (by simp) (fun i ab=>by
  have:i=0∨i=1∨i=2:=by simp at ab;omega
  rcases this with rfl|rfl|rfl
  · exact h
  · exact k
  · exact j)
 simpa [List.range_succ] using this
theorem JR {fn:Func} {K:aa→ae→Prop} (h:rK P fn fr m K) (st:aV F lim w n fr m ca []):
 ∃v x m' os,(results fn ca.tmps).run P w= .ok v w∧K x m'∧aF w lim v x os∧aV F lim w 0 [] m' mn os:=by
 unfold rK at h
 split at h
 · next r aw=>
   split at h
   · next side x he=>
     obtain ⟨aj,m',hm,ad⟩:=h
     obtain ⟨v,os,I,J,ak⟩:=nR (P:=P) he aj st
     exact ⟨v,x,m',os,JK aw I,ad,ak,J.qd hm⟩
   · exact h.elim
 · next r s aw=>
   split at h
   · next side x nQ y he tz=>
     obtain ⟨aj,tA,m',hm,ad⟩:=h
     obtain ⟨v,os,I,J,ak⟩:=nR (P:=P) he aj st
     obtain ⟨u,dI,fa,eg,gy⟩:=nR (P:=P) tz tA st
     exact ⟨_,_,m',os,JL aw I fa,ad,JP ak gy.plain,J.qd hm⟩
   · exact h.elim
 · next r s t aw=>
   split at h
   · next side x nQ y tx z he tz yI=>
     obtain ⟨aj,tA,yJ,m',hm,ad⟩:=h
     obtain ⟨v,os,I,J,ak⟩:=nR (P:=P) he aj st
     obtain ⟨u,dI,fa,eg,gy⟩:=nR (P:=P) tz tA st
     obtain ⟨s,JS,vL,JT,yK⟩:=nR (P:=P) yI yJ st
     exact ⟨_,_,m',os,JM aw I fa vL,ad,JQ ak gy.plain yK.plain,J.qd hm⟩
   · exact h.elim
 · next aw=>
   obtain ⟨m',hm,ad⟩:=h
   have e:fn.results=#[]:=by apply Array.ext';simpa using aw
   refine ⟨.tuple #[],_,m',[],?_,ad,?_,st.toMem.qd hm⟩
   · simp [results,e]
   · have:=aF.tuple (w:=w) (lim:=lim) #[] [] (fun _=>[]) rfl (fun i ab=>by simp at ab)
     simpa using this
 · next r s t q aw=>
   split at h
   · next side x nQ y tx z CW a he tz yI JU=>
     obtain ⟨aj,tA,yJ,rL,m',hm,ad⟩:=h
     obtain ⟨v,os,I,J,ak⟩:=nR (P:=P) he aj st
     obtain ⟨u,dI,fa,eg,gy⟩:=nR (P:=P) tz tA st
     obtain ⟨s,JS,vL,JT,yK⟩:=nR (P:=P) yI yJ st
     obtain ⟨t,Sh,i1,i2,i3⟩:=nR (P:=P) JU rL st
     exact ⟨_,_,m',[],JN aw I fa vL i1,ad,JO ak.plain gy.plain yK.plain i3.plain,st.toMem.qd hm⟩
   · exact h.elim
 · exact h.elim
theorem JV {f:FuncId} {fn:Func} {c:Code} {args:List aa} {K:aa→ae→Prop} (aM:P.funcs[f]?=some fn) (ag:fn.body=some c) (yL:(fn.name== "runtime.NumGoroutine")=false) (jq:args.length≤fn.ntmps)
 (h:cV P fn.ntmps c (JJ P fn K) (Fr.init 0 args) m):bp P f args m K:=by
 refine ⟨⟨fn,aM,by rw [ag];rfl,yL⟩,fun F lim w cargs aj aw st=>calls_of_wp aM ag ?_⟩
 have fk:aV F lim w fn.ntmps (Fr.init 0 args) m {tmps:=cargs++Array.replicate (fn.ntmps- cargs.size) undef,defers:=[]} []:=by
  obtain ⟨os,b3,bu,k⟩:=st
  refine ⟨fun _=>[],b3,bu,by simp;omega,rfl,fun t x ao=>?_,k.mem,fun t x ao=>by simp,k.dn,k.fs,k.free,k.fresh⟩
  obtain ⟨_,I,J⟩:=Fr.JI args 0 t x ao
  simp only [Nat.sub_zero] at I J
  refine ⟨by omega,?_⟩
  have e:(cargs++Array.replicate (fn.ntmps- cargs.size) undef).getD t undef=cargs.getD t undef:=by
   simp [Array.getD_eq_getD_getElem?,Array.getElem?_append,show t<cargs.size from by omega]
  rw [e,←J]
  exact aw t I
 refine wp_mono (h F lim w _ fk) fun e a w' ⟨lim',aY,m',q,s1,cN⟩=>?_
 have CY:rK P fn aY m' K→a.defers=[]∧∃v,(results fn a.tmps).run P w'= .ok v w'∧∃fN x lim' m' os,Ending.returned v= .returned fN∧K x m'∧aF w' lim' fN x os∧aV F lim' w' 0 [] m' mn os∧cU F w lim w' lim':=fun q=>by
  obtain ⟨v,x,mY,os,I,J,ak,aH⟩:=JR q s1
  exact ⟨s1.defers,v,I,v,x,lim',mY,os,rfl,J,ak,aH,cN⟩
 cases e with
 |ret=>exact CY q
 |normal=>exact CY q
 |_=>exact q.elim
end
end Go.bb
end
section
namespace Go.bb
open Go
section
variable {P:Program}
theorem JW {m:ae} {a b9:Operand→aa}:∀(op:Op),(∀y∈op.operands.toList,a y=b9 y)→bq P m a op=bq P m b9 op:=by
 intro op h
 cases op with
 |call c=>
  obtain ⟨x7,args,bd⟩:=c
  cases x7 with
  |builtin b=>
   have cm:∀y∈args.toList,a y=b9 y:=fun y aE=>h y (by simpa [Op.operands,Call.operands] using aE)
   cases b with
   |len=>
    simp only [bq]
    cases ao:args[0]? with
    |none=>rfl
    |some x=>
     have:=cm x (by rw [Array.mem_toList_iff];exact Array.mem_of_getElem? ao)
     cases bd[0]?<;>simp only [this]
   |max=>
    simp only [bq]
    split
    · next x y nT=>rw [cm x (by rw [nT];simp),cm y (by rw [nT];simp)]
    · rfl
   |min=>
    simp only [bq]
    split
    · next x y nT=>rw [cm x (by rw [nT];simp),cm y (by rw [nT];simp)]
    · rfl
   |_=>rfl
  |_=>rfl
 |slice t x bh ab x6=>
  cases x6 with
  |some z=>rfl
  |none=>
   have ay:bh.map a=bh.map b9:=by cases bh with
    |none=>rfl
    |some y=>simp [h y (by simp [Op.operands])]
   have az:ab.map a=ab.map b9:=by cases ab with
    |none=>rfl
    |some y=>simp [h y (by simp [Op.operands])]
   simp only [bq,ay,az,h x (by simp [Op.operands])]
 |typeAssert x t u ok=>cases ok<;>simp [bq,h x (by simp [Op.operands])]
 |pick c x y=>simp only [bq,h c (by simp [Op.operands]),h x (by simp [Op.operands]),h y (by simp [Op.operands])]
 |binOp op t x y t2=>simp only [bq,h x (by simp [Op.operands]),h y (by simp [Op.operands])]
 |indexAddr t x y=>simp only [bq,h x (by simp [Op.operands]),h y (by simp [Op.operands])]
 |index t x y=>simp only [bq,h x (by simp [Op.operands]),h y (by simp [Op.operands])]
 |move x=>simp only [bq,h x (by simp [Op.operands])]
 |assign x=>simp only [bq,h x (by simp [Op.operands])]
 |load t x=>simp only [bq,h x (by simp [Op.operands])]
 |nilCheck x=>simp only [bq,h x (by simp [Op.operands])]
 |unOp op t x=>simp only [bq,h x (by simp [Op.operands])]
 |convert s d x=>simp only [bq,h x (by simp [Op.operands])]
 |makeInterface t x=>simp only [bq,h x (by simp [Op.operands])]
 |fieldAddr t x f=>simp only [bq,h x (by simp [Op.operands])]
 |field t x f=>simp only [bq,h x (by simp [Op.operands])]
 |extract x i=>simp only [bq,h x (by simp [Op.operands])]
 |_=>rfl
def tmpsOf (op:Op):List Nat:=op.operands.toList.flatMap mq
def slotsOf (ops:Array Oper) (o:Oper):List Nat:=
 (match o.guard with
 |some (j,_)=>(match (ops[j]?).bind (·.dst) with|some g=>[g]|none=>[])
 |none=>[])++tmpsOf o.op
theorem tB {raw iA:Nat→aa} {op:Op} (h:∀t∈tmpsOf op,raw t=iA t):∀y∈op.operands.toList,bR raw y=bR iA y:=by
 intro y aE
 cases y with
 |tmp t=>simp only [bR,h t (List.mem_flatMap.2 ⟨_,aE,by simp [mq]⟩)]
 |_=>rfl
def pF:aa→Bool→Option Bool
 | .bool c,true=>some c
 | .bool c,false=>some (!c)
 | .lazy false _,_=>some false
 |_,_=>none
def ha (ops:Array Oper) (fr:Fr):Option (Nat×Bool)→Option Bool
 |none=>some true
 |some (j,b)=>
  match (ops[j]?).bind (·.dst) with
  |some g=>pF (bc fr g) b
  |none=>none
def jD (P:Program) (m:ae) (c:aa) (raw:Nat→aa) (o:Oper):Option (Prop×aa):=
 match o.op with
 | .call ⟨.value (.func f),args,_⟩=>some (rC P f (args.toList.map (bR raw)) m c,c.plain)
 | .buildSlice t len parts=>
   match ec P m raw [] o.dst (.buildSlice t len parts) with
   | .val side [] _ x=>some (side,x.plain)
   |_=>none
 | .build t parts=>
   match ec P m raw [] o.dst (.build t parts) with
   | .val side [] _ x=>some (side,x.plain)
   |_=>none
 | .pick b x y=>
   match bR raw b with
   | .bool true=>some (True,bR raw x)
   | .bool false=>some (True,bR raw y)
   |_=>none
 |op=>bq P m (bR raw) op
def pv (P:Program) (ops:Array Oper) (m:ae) (c:aa) (raw:Nat→aa) (o:Oper):Option (Prop×aa):=
 match o.guard with
 |none=>jD P m c raw o
 |some (j,b)=>
  match (ops[j]?).bind (·.dst) with
  |some g=>
   match pF (raw g) b with
   |some true=>jD P m c raw o
   |some false=>some (True, .lazy false .aP)
   |none=>none
  |none=>none
theorem CZ {m:ae} {c:aa} {raw iA:Nat→aa} {o:Oper} (an:∀t∈tmpsOf o.op,raw t=iA t):jD P m c raw o=jD P m c iA o:=by
 unfold jD
 split
 · next f args bd cb=>
   have:args.toList.map (bR raw)=args.toList.map (bR iA):=List.map_congr_left fun y aE=>tB an y (by rw [cb];simp [Op.operands,Call.operands];exact .inr (by simpa using aE))
   rw [this]
 · next t len parts cb=>
   have aB:∀q∈parts.toList,bR raw q.2=bR iA q.2:=fun q aS=>tB an q.2 (by rw [cb];simp [Op.operands];exact ⟨q.1,by simpa using aS⟩)
   have:ec P m raw [] o.dst (.buildSlice t len parts)=ec P m iA [] o.dst (.buildSlice t len parts):=by
    simp only [ec]
    split
    · rfl
    split
    · have ay:(parts.toList.map fun p=>bR raw p.2)=parts.toList.map fun p=>bR iA p.2:=List.map_congr_left aB
      have az:(∀q∈parts.toList,(bR raw q.2).ds=true∧(bR raw q.2).cells.length=P.cellsOf ‹TypeId›)=(∀q∈parts.toList,(bR iA q.2).ds=true∧(bR iA q.2).cells.length=P.cellsOf ‹TypeId›):=by
       apply propext
       constructor
       · intro h q aS;rw [←aB q aS];exact h q aS
       · intro h q aS;rw [aB q aS];exact h q aS
      rw [ay,az]
    · rfl
   rw [this]
 · next t parts cb=>
   have aB:∀q∈parts.toList,bR raw q.2=bR iA q.2:=fun q aS=>tB an q.2 (by rw [cb];simp [Op.operands];exact ⟨q.1,by simpa using aS⟩)
   have:ec P m raw [] o.dst (.build t parts)=ec P m iA [] o.dst (.build t parts):=by
    simp only [ec]
    split
    · rfl
    split
    · have ay:(parts.toList.map fun p=>(p.1,bR raw p.2))=parts.toList.map fun p=>(p.1,bR iA p.2):=List.map_congr_left fun q aS=>by rw [aB q aS]
      have az:(∀q∈parts.toList,(bR raw q.2).ds=true)=(∀q∈parts.toList,(bR iA q.2).ds=true):=by
       apply propext
       constructor
       · intro h q aS;rw [←aB q aS];exact h q aS
       · intro h q aS;rw [aB q aS];exact h q aS
      rw [ay,az]
    · rfl
   rw [this]
 · next b x y cb=>
   have e:∀q∈[b,x,y],bR raw q=bR iA q:=fun q aS=>tB an q (by rw [cb];simpa [Op.operands] using aS)
   rw [e b (by simp),e x (by simp),e y (by simp)]
 · exact JW _ (tB an)
theorem JX {ops:Array Oper} {m:ae} {c:aa} {raw iA:Nat→aa} {o:Oper} (h:∀t∈slotsOf ops o,raw t=iA t):pv P ops m c raw o=pv P ops m c iA o:=by
 have an:∀t∈tmpsOf o.op,raw t=iA t:=fun t an=>h t (List.mem_append.2 (.inr an))
 unfold pv
 cases a8:o.guard with
 |none=>exact CZ an
 |some yM=>
  obtain ⟨j,b⟩:=yM
  simp only
  cases aG:(ops[j]?).bind (·.dst) with
  |none=>rfl
  |some g=>
   have JY:raw g=iA g:=h g (by simp [slotsOf,a8,aG])
   simp only [JY,CZ an]
def lP (P:Program) (ops:Array Oper) (m:ae):List aa→List Oper→Fr→(Fr→Prop)→Prop
 |_,[],fr,K=>K fr
 |cs,o::r,fr,K=>
  match pv P ops m (cs.headD .aP) (bc fr) o with
  |some (side,x)=>side∧lP P ops m (match o.op with| .call ⟨.value (.func _),_,_⟩=>cs.tail|_=>cs) r (dX fr o.dst x) K
  |none=>False
theorem JZ {ops:Array Oper} {m:ae}:∀(l:List Oper) (cs:List aa) (fr:Fr) (K:Fr→Prop),lP P ops m cs l fr K→∃(T:Nat→Fr) (c:Nat→aa) (val:Nat→aa),T 0=fr∧K (T l.length)∧
 ∀i o,l[i]?=some o→(∃side,pv P ops m (c i) (bc (T i)) o=some (side,val i)∧side)∧T (i+1)=dX (T i) o.dst (val i):=by
 intro l
 induction l with
 |nil=>intro cs fr K h;exact ⟨fun _=>fr,fun _=> .aP,fun _=> .aP,rfl,h,fun i o ab=>by simp at ab⟩
 |cons o l aO=>
  intro cs fr K h
  simp only [lP] at h
  split at h
  · next side x aB=>
    obtain ⟨aj,h⟩:=h
    obtain ⟨T,c,val,I,J,ak⟩:=aO _ _ K h
    refine ⟨fun i=>match i with|0=>fr|i+1=>T i,fun i=>match i with|0=>cs.headD .aP|i+1=>c i,fun i=>match i with|0=>x|i+1=>val i,rfl,J,fun i ez ab=>?_⟩
    cases i with
    |zero=>simp at ab;subst ab;exact ⟨⟨side,aB,aj⟩,I⟩
    |succ i=>exact ak i ez (by simpa using ab)
  · exact h.elim
def vM (o:Oper) (j:Nat):Bool:=o.after.toList.any fun e=>e.on==j&&Region.binds .any e
variable {F:Nat→Prop} {lim:Nat→Nat} {w:World} {n:Nat} {fr:Fr} {m:ae} {ca:Act} {bn:List Nat}
theorem J0 {f:FuncId} {args:List aa} {x:aa} (ah:rC P f args m x) (st:aV F lim w n fr m ca []) {cargs:Array Value} (aj:cargs.size=args.length) (aw:∀i,i<args.length→aF w lim (cargs.getD i undef) (args.getD i .aP) [])
 {o:Oper} {next:Act→World→Prop} {Q:Exit→Act→World→Prop} (he:∀fn,P.funcs[f]?=some fn→fn.body.isSome=true→(fn.name== "runtime.NumGoroutine")=false→(execOp ca.eval o).run P w= .ok (.enter f cargs) w)
 (aJ:∀v lim' w',aV F lim' w' n fr m ca []→aF w' lim' v x.plain []→cU F w lim w' lim'→next (ca.put o.dst v) w'):o.wp P ca w next Q:=
 vI (ah (fun bD m'=>bD=x∧m'=m) ⟨rfl,rfl⟩) st aj aw he fun v bD lim' w' m' os ad hr jR eh=>by
  obtain ⟨rfl,rfl⟩:=ad
  exact aJ v lim' w' jR.drop hr.plain eh
theorem C0 {v:Value} {x:aa} {b z:Bool} {os:List Nat} (au:pF x b=some z) (aw:aF w lim v x os):(CU v==some b)=z:=by
 unfold pF at au
 split at au
 · obtain rfl:=Option.some.inj au
   cases aw
   rename_i c
   cases c<;>rfl
 · obtain rfl:=Option.some.inj au
   cases aw
   rename_i c
   cases c<;>rfl
 · obtain rfl:=Option.some.inj au
   cases aw with
   |k2=>rfl
 · cases au
theorem C1 {ops:Array Oper} {o:Oper} {j g:Nat} {b z:Bool} (a8:o.guard=some (j,b)) (aG:(ops[j]?).bind (·.dst)=some g) (st:aV F lim w n fr m ca bn) (au:pF (bc fr g) b=some z):
 Region.wanted o (yielded ops ca.tmps)=z:=by
 obtain ⟨os,b3,bu,h⟩:=st
 cases aL:fr.get g with
 |none=>simp [bc,aL,pF] at au
 |some x=>
  simp only [bc,aL,Option.getD_some] at au
  obtain ⟨bN,aw⟩:=h.dv g _ aL
  have nd:g<ca.tmps.size:=by rw [h.size];exact bN
  have tv:ca.tmps[g]?=some (ca.tmps.getD g undef):=by
   rw [Array.getElem?_eq_getElem nd]
   simp [Array.getD,nd]
  have:=C0 au aw
  simp only [Region.wanted,a8,yielded,aG,Option.bind_some,tv]
  rw [←this]
  generalize ca.tmps.getD g undef=v
  cases v<;>rfl
theorem J1 {o:Oper} {c:aa} {side:Prop} {x:aa} (ai:ef n o=true) (aJ:fy n o=true) (h:jD P m c (bc fr) o=some (side,x)) (aj:side) (st:aV F lim w n fr m ca [])
 {next:Act→World→Prop} {Q:Exit→Act→World→Prop} (jT:∀v lim' w',aV F lim' w' n fr m ca []→aF w' lim' v x []→cU F w lim w' lim'→(∀s,o.op= .move (.tmp s)→v=ca.tmps.getD s undef)→next (ca.put o.dst v) w'):o.wp P ca w next Q:=by
 have fx:=jO ai
 unfold jD at h
 split at h
 · next f args bd cb=>
   replace jT:∀v lim' w',aV F lim' w' n fr m ca []→aF w' lim' v x []→cU F w lim w' lim'→next (ca.put o.dst v) w':=fun v lim' w' I J ak=>jT v lim' w' I J ak fun s aj=>by rw [cb] at aj;cases aj
   obtain ⟨rfl,rfl⟩:=some_inj h
   have cW:=tu (ca:=ca) (a:=bR (bc fr)) (args:=args) (fun y aE=>gx st (fx y (by rw [cb];simp [Op.operands,Call.operands];exact .inr (by simpa using aE))))
   exact J0 aj st cW.1 cW.2 (fun fn g1 g2 g3=>by simp [execOp,cb,resolve,Deferred.ofValue,Act.eval,invoke,ts _ g1 g2 g3]) jT
 · next t len parts cb=>
   split at h
   · next nQ m' bD aN=>
     obtain ⟨rfl,rfl⟩:=some_inj h
     rw [←cb] at aN
     have tC:m'=m:=by
      rw [cb] at aN
      simp only [ec] at aN
      split at aN
      · cases aN
      split at aN
      · injection aN with _ _ e;exact e.symm
      · cases aN
     subst tC
     obtain ⟨v,w',lim',os,I,J,ak,aH⟩:=yA (P:=P) aN aj st ai aJ
     exact mo I (jT v lim' w' J.drop ak.plain aH fun s aj=>by rw [cb] at aj;cases aj)
   · cases h
 · next t parts cb=>
   split at h
   · next nQ m' bD aN=>
     obtain ⟨rfl,rfl⟩:=some_inj h
     rw [←cb] at aN
     have tC:m'=m:=by
      rw [cb] at aN
      simp only [ec] at aN
      split at aN
      · cases aN
      split at aN
      · split at aN
        · injection aN with _ _ e;exact e.symm
        · cases aN
      · cases aN
     subst tC
     obtain ⟨v,w',lim',os,I,J,ak,aH⟩:=yA (P:=P) aN aj st ai aJ
     exact mo I (jT v lim' w' J.drop ak.plain aH fun s aj=>by rw [cb] at aj;cases aj)
   · cases h
 · next ft bD nI cb=>
   have C2:∀(pG:Bool),bR (bc fr) ft= .bool pG→x=bR (bc fr) (if pG then bD else nI)→o.wp P ca w next Q:=by
    intro pG ag ao
    have yN:=gx st (fx ft (by rw [cb];simp [Op.operands]))
    rw [ag] at yN
    have J2:ca.eval ft= .bool pG:=by
     generalize ca.eval ft=v at yN
     cases yN
     rfl
    have tD:=gx st (fx (if pG then bD else nI) (by rw [cb];cases pG<;>simp [Op.operands]))
    rw [←ao] at tD
    refine mo (v:=ca.eval (if pG then bD else nI)) ?_ (jT _ lim w st tD (.refl _ _ _) fun s aj=>by rw [cb] at aj;cases aj)
    cases pG<;>simp [execOp,cb,J2,asBool]
   split at h
   · next ag=>obtain ⟨rfl,rfl⟩:=some_inj h;exact C2 true ag rfl
   · next ag=>obtain ⟨rfl,rfl⟩:=some_inj h;exact C2 false ag rfl
   · cases h
 · obtain ⟨v,I,J⟩:=vt (P:=P) (w:=w) (lim:=lim) h aj (ca:=ca) (fun y aE=>gx st (fx y aE)) st.rB
   exact mo I (jT v lim w st J (.refl _ _ _) fun s aj=>by
    rw [execOp,aj] at I
    simp only [Sem.run_pure,Result.ok.injEq] at I
    have:=I.1
    injection this with this
    rw [←this];rfl)
theorem J3 {ops:Array Oper} {o:Oper} {c:aa} {side:Prop} {x:aa} {d:Nat} (ai:ef n o=true) (aJ:fy n o=true) (h:pv P ops m c (bc fr) o=some (side,x)) (aj:side) (a7:o.dst=some d) (st:aV F lim w n fr m ca [])
 {next:Act→World→Prop} {Q:Exit→Act→World→Prop} (aS:∀lim' w' v,aV F lim' w' n (fr.put d x) m (ca.put o.dst v) []→cU F w lim w' lim'→(∀s,o.op= .move (.tmp s)→o.guard=none→v=ca.tmps.getD s undef)→next (ca.put o.dst v) w'):
 if Region.wanted o (yielded ops ca.tmps) then o.wp P ca w next Q∨(o.asks P ca w∧LetsOut Q) else next (ca.put o.dst undef) w:=by
 have hG:=jr ai a7
 have run:jD P m c (bc fr) o=some (side,x)→o.wp P ca w next Q:=fun h=>J1 ai aJ h aj st fun v lim' w' I J ak aH=>aS lim' w' _ (by rw [a7];exact I.set hG J) ak fun s aj _=>aH s aj
 unfold pv at h
 split at h
 · next a8=>
   rw [if_pos (by simp [Region.wanted,a8])]
   exact .inl (run h)
 · next j b a8=>
   split at h
   · next g aG=>
     split at h
     · next au=>
       rw [if_pos (C1 a8 aG st au)]
       exact .inl (run h)
     · next au=>
       rw [C1 a8 aG st au,if_neg (by simp)]
       obtain ⟨rfl,rfl⟩:=some_inj h
       refine aS lim w _ ?_ (.refl _ _ _) fun s _ vN=>by rw [a8] at vN;cases vN
       rw [a7];exact st.set hG (.k2 _)
     · cases h
   · cases h
end
end Go.bb
end
section
namespace Go.bb
open Go
theorem filter_lt {α:Type} (p nH:α→Bool) (C3:∀x,nH x=true→p x=true):∀(l:List α) (i:α),i∈l→p i=true→nH i=false→(l.filter nH).length<(l.filter p).length:=by
 have hle:∀l:List α,(l.filter nH).length≤(l.filter p).length:=fun l=>by
  induction l with
  |nil=>simp
  |cons x l aO=>
   simp only [List.filter_cons]
   cases I:nH x with
   |true=>simp [C3 x I];exact aO
   |false=>cases J:p x<;>simp<;>omega
 intro l
 induction l with
 |nil=>intro i ab;cases ab
 |cons x l aO=>
  intro i ab I J
  simp only [List.filter_cons]
  rcases List.mem_cons.1 ab with rfl|ab
  · simp [I,J]
    have:=hle l;omega
  · have:=aO i ab I J
    cases ak:nH x with
    |true=>simp [C3 x ak];exact this
    |false=>cases aH:p x<;>simp<;>omega
section
variable {P:Program} {n:Nat} {fr:Fr} {m:ae}
structure Si (ops:Array Oper):Prop where
 dst:∀(i:Nat) (o:Oper),ops[i]?=some o→∃d,o.dst=some d
 back:∀(i:Nat) (o:Oper) (e:Edge),ops[i]?=some o→e∈o.after→Region.binds .any e=true→e.on<i
 apart:∀(i j:Nat) (o p:Oper),ops[i]?=some o→ops[j]?=some p→o.dst=p.dst→i=j
 looks:∀(i j:Nat) (o p:Oper) (d:Nat),ops[i]?=some o→ops[j]?=some p→p.dst=some d→d∈slotsOf ops o→(j<i→∃e∈o.after,e.on=j∧Region.binds .any e=true)∧(i<j→∃e∈p.after,e.on=i∧Region.binds .any e=true)
theorem C4 {o:Oper} {j:Nat} (h:vM o j=true):∃e∈o.after,e.on=j∧Region.binds .any e=true:=by
 simp only [vM,List.any_eq_true] at h
 obtain ⟨e,I,J⟩:=h
 simp only [Bool.and_eq_true,beq_iff_eq] at J
 exact ⟨e,by simpa using I,J.1,J.2⟩
theorem C5 (fr:Fr) (d t:Nat) (x:aa):bc (fr.put d x) t=if d=t then x else bc fr t:=by
 simp only [bc,Fr.oo]
 split<;>rfl
def Fr.C6 (t:Nat) (x:aa):Fr→Fr
 |[]=>[]
 |(s,y)::r=>if s=t then (s,x)::r else (s,y)::Fr.C6 t x r
def Fr.over (fr:Fr):List (Nat×aa)→Fr
 |[]=>fr
 |(t,x)::r=>Fr.over (Fr.C6 t x fr) r
end
end Go.bb
end
section
namespace Go.bb
open Go Go.RowKit Go.WideShapes Go.ChangeShapes
def mu (W:World) (b:Nat):Nat:=match W.heap[b]? with
 |some (.cells cs _ _)=>cs.size
 |_=>0
section
variable {P:Program}
theorem J4 {W:World} {b o:Nat} {v:Value} (h:W.cell? ⟨b,o,none⟩=some v):o<mu W b:=by
 unfold World.cell? at h
 unfold mu
 split at h
 · next cs e C7 ag=>
   rw [ag]
   simp only at h ⊢
   exact (Array.getElem?_eq_some_iff.1 h).1
 · cases h
end
section
variable {H:Type} {enc:TypeId×Value→H} {P:Program}
theorem J5 {f:Func} {s:ChangeSpec} {apart fresh handsOn again:Bool} {W kl:World} {args:Array Value} {v:Value} {fO gs:List (DataW H)} {before pa pv:List MemPlace}
 (nU:DataW.Whole enc P f.params.toList s.vars apart W args.toList fO gs before)
 (tE:∀(b:Nat) (sp:Nat→Bool) (a7:Bool),DataW.TrodAll enc P kl b sp a7 f.resultTypes.toList (v.resultList f.resultTypes.size) (s.fn H (fO++gs)).results [])
 (jq:∀sp:Nat→Bool,(∀p∈before,sp p.block=true)→DataW.TrodAll enc P kl 0 sp true f.params.toList args.toList (s.fn H (fO++gs)).args pa)
 (tF:∀sp:Nat→Bool,(∀p∈before,sp p.block=true)→DataW.TrodVars enc P kl sp s.vars (s.fn H (fO++gs)).vars pv)
 (nV:before=pa++pv) (ag:Below W.heap.size W kl)
 (dh:∀(j:Nat) (t:TypeId) (r:Value),f.resultTypes[j]?=some t→(v.resultList f.resultTypes.size)[j]?=some r→Value.okWide P kl .any 0 t r):
 s.post enc P f apart fresh handsOn again W args v kl:=by
 have bN:∀p∈before,p.block<W.heap.size:=fun p aB=>nU.lt p aB
 have hold:∀p∈before,(fun b=>decide (b<W.heap.size)) p.block=true:=fun p aB=>by simpa using bN p aB
 refine ⟨fO,gs,before,[],pa,pv,nU,tE _ _ _,jq _ hold,tF _ hold,World.keptBut_mono (fun p aB=>⟨aB,?_⟩) (ag.frame (· ∈before)),fun _=>?_⟩
 · rw [nV,List.mem_append] at aB
   exact Or.inr aB
 · obtain ⟨_,_,_,_,_,au,aJ⟩:=nU
   refine ⟨dh,_,_,([]++pa)++pv,⟨[]++pa,pv,trodAll_append (jq _ (fun _ _=>rfl)) (tE _ _ _),tF _ (fun _ _=>rfl),rfl,?_,?_⟩,?_⟩
   · intro b off aB
     have ix:MemPlace.cell b off∈before:=by rw [nV];simpa using aB
     rw [ag.frozen (bN _ ix)]
     exact au b off ix
   · intro aN
     have:=aJ aN
     rw [nV] at this
     simpa using this
   · intro p aB _
     rw [nV]
     simpa using aB
def vO (P:Program) (bd:List TypeId):Bool:=bd.all fun t=>P.readableRec t&&decide (t<P.types.size)
theorem C8 (av:laidOutB P=true) {W kl:World} (ag:Below W.heap.size W kl) {sp:Nat→Bool}:∀{bd:List TypeId} {vs:List Value} {fO:List (DataW H)} {ps:List MemPlace},vO P bd=true→
 DataW.TrodAll enc P W 0 (fun _=>true) true bd vs fO ps→(∀p∈ps,p.block<W.heap.size)→(∀p∈ps,sp p.block=true)→DataW.TrodAll enc P kl 0 sp true bd vs fO ps
 |[],[],[],_,_,h,_,_=>h
 |t::bd,v::vs,d::fO,ps,aB,h,bN,lQ=>by
  obtain ⟨p,q,I,J,rfl⟩:=h
  simp only [vO,List.all_cons,Bool.and_eq_true,decide_eq_true_eq] at aB
  exact ⟨p,q,WideElems.Trod_stays av aB.1.1 aB.1.2 I (fun x ao=>ag.same (bN x (by simp [ao]))) (fun x ao=>lQ x (by simp [ao])),
   C8 av ag (by simpa [vO] using aB.2) J (fun x ao=>bN x (by simp [ao])) (fun x ao=>lQ x (by simp [ao])),rfl⟩
 |[],_::_,_,_,_,h,_,_=>h.elim
 |[],[],_::_,_,_,h,_,_=>h.elim
 |_::_,[],_,_,_,h,_,_=>h.elim
 |_::_,_::_,[],_,_,h,_,_=>h.elim
theorem J6 {f:Func} {s:ChangeSpec} {tb:TypeId} {apart fresh handsOn again:Bool} (tF:s.vars=[]) (tE:f.resultTypes=#[tb]) (C9:P.underlying tb=some .bool) (av:laidOutB P=true)
 (J7:vO P f.params.toList=true) {W kl:World} {args:Array Value} {fO gs:List (DataW H)} {before:List MemPlace}
 (nU:DataW.Whole enc P f.params.toList s.vars apart W args.toList fO gs before) (tG:s.fn H (fO++gs)={results:=[.lit (.bool true)],args:=fO}) (ag:Below W.heap.size W kl):
 s.post enc P f apart fresh handsOn again W args (.bool true) kl:=by
 have bN:∀p∈before,p.block<W.heap.size:=fun p aB=>nU.lt p aB
 have vP:=nU
 obtain ⟨p,q,cW,mv,rfl,Da,kg⟩:=vP
 rw [tF] at mv
 have J8:gs=[]∧q=[]:=by
  cases gs with
  |nil=>exact ⟨rfl,mv⟩
  |cons g gs=>exact mv.elim
 obtain ⟨rfl,rfl⟩:=J8
 refine J5 (pa:=p) (pv:=[]) nU (fun b sp a7=>?_) (fun sp lQ=>?_) (fun sp lQ=>?_) rfl ag (ok_one tE rfl (okWide_bool_mk C9 true))
 · rw [tG,tE]
   exact trodAll_mk1 (shut_bool C9 true)
 · rw [tG]
   exact C8 av ag J7 cW (fun x ao=>bN x (by simp [ao])) (fun x ao=>lQ x (by simp [ao]))
 · rw [tG,tF]
   rfl
end
end Go.bb
end
