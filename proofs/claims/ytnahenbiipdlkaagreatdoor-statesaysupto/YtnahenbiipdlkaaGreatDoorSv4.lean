/-
  The executor: a call that makes three blocks (two that refer to nothing, one that refers to them).
-/
import Derived.Test.YtnahenbiipdlkaaGreatDoorWzG
import Derived.Lib.RowBridge
import Derived.Lib.Split
import Derived.Test.YtnahenbiipdlkaaGreatDoorProg
import Derived.Test.YtnahenbiipdlkaaGreatDoorWxk
import Derived.Lib.Strings
import Derived.Lib.Slices
import Derived.Lib.Walk
import Derived.Lib.Builder
import Derived.Lib.AppendStr
import Derived.Lib.UnsafeStr
import Derived.WalkKit
import Derived.Laws.Externs
import Derived.Laws.IdiomCopy
import Derived.ProofKit
import Derived.OwnWalk
import Derived.Shelf.Small.Bits
import Derived.Shelf.Small.Strs
import Derived.Shelf.Strconv.Atoi
import Derived.Shelf.Strconv.Itoa3
import Derived.Shelf.LaysM
import Derived.Shelf.LaysC
import Derived.Shelf.Strconv.AtoiErr
import Derived.Shelf.Strings.Prefix
section
namespace Go.bS
open Go Go.bh
theorem JO {bs:List Nat} {x y z n:Nat} (h:bs.length=n):(bs++[x]++[y]++[z]).getD n 0=x∧(bs++[x]++[y]++[z]).getD (n+1) 0=y∧(bs++[x]++[y]++[z]).getD (n+2) 0=z:=by
 subst h
 simp only [List.getD_eq_getElem?_getD,List.append_assoc]
 refine ⟨?_,?_,?_⟩<;>rw [List.getElem?_append_right (by omega)]<;>simp
section
variable {P:Program} {b0:List Nat} {fr:bT} {L:List bz} {m:ad}
theorem yz {f:FuncId} {vs:List a6} {Q:a6→List bz→ad→Prop} (ri hR iB:bz) (X:Nat→Nat→Nat→ed) (Y Z:ed)
 (al:(o1 L.length fr&&(lp L.length L&&(lp (L.length+1) (L++[ri])&&lp (L.length+2) (L++[ri]++[hR]))))=true)
 (Tb:∀bs,er bs ri=Z) (Tc:∀bs,er bs hR=Y) (qX:∀bs d aG aT,bs.length=L.length→er (bs++[aT]++[aG]++[d]) iB=X d aG aT)
 (h:∀bs (az:ad),bs.length=L.length→(∀b o,m b=some o→az b=some o)→∀K:R→ad→Prop,(∀d aG aT,[d,aG,aT].Nodup→az d=none→az aG=none→az aT=none→K (.ptr ⟨d,0,none⟩) (az.aX [(d,X d aG aT),(aG,Y),(aT,Z)]))→bn P f (bo bs vs) az K)
 (gI:Q (.loc (L.length+2) 0) (L++[ri]++[hR]++[iB]) m):oc P b0 f vs fr L m Q:=by
 simp only [Bool.and_eq_true] at al
 refine oc.one (.loc (L.length+2) 0) (L++[ri]++[hR]++[iB]) m (fun new g K U=>h (b0++new) _ g.len (fun _ _ ae=>JJ g ae) K fun d aG aT aL aY yo gO=>?_) ?_ gI
 · simp only [List.nodup_cons,List.mem_cons,List.not_mem_nil,or_false,not_or] at aL
   obtain ⟨g1,ax⟩:=vm g (by rw [g.len];exact al.2.1) gO ri
   have Td:bK (b0++new++[aT]) (L++[ri]) m aG=none:=by
    rw [ax];simp only [ad.bL];rw [if_neg aL.2.1];exact yo
   obtain ⟨g2,aI⟩:=vm g1 (by rw [g1.len];simpa using al.2.2.1) Td hR
   have r3:bK (b0++new++[aT]++[aG]) (L++[ri]++[hR]) m d=none:=by
    rw [aI];simp only [ad.bL];rw [if_neg aL.1.1,ax];simp only [ad.bL];rw [if_neg aL.1.2];exact aY
   obtain ⟨g3,cR⟩:=vm g2 (by rw [g2.len];simpa using al.2.2.2) r3 iB
   have e:b0++new++[aT,aG,d]=b0++new++[aT]++[aG]++[d]:=by simp
   have I:=U [aT,aG,d]
   rw [e] at I
   have J:=I g3
   rw [cR,aI,ax,Tb,Tc,qX _ d aG aT g.len] at J
   simp only [den] at J
   rw [(JO g.len).2.2] at J
   exact J
 · rw [al.1]
   cases Nat.beq (L++[ri]++[hR]++[iB]).length L.length<;>rfl
end
end Go.bS
end
section
namespace Go.bh
open Go
section
variable {P:Program} {m:ad}
theorem EL {f:FuncId} {args:List R} {x:R} {K:R→ad→Prop} (aW:∃fn,P.funcs[f]?=some fn∧fn.body.isSome=true∧(fn.name== "runtime.NumGoroutine")=false) (U:K x m)
 (h:∀w lim (cargs:Array Value),cargs.size=args.length→(∀i,i<args.length→aF w lim (cargs.getD i undef) (args.getD i .aP) [])→∃v,(Calls P f cargs w fun e w'=>e= .returned v∧w'=w)∧aF w lim v x []):bn P f args m K:=by
 refine ⟨aW,fun F lim w cargs al au st=>?_⟩
 obtain ⟨v,bc,ah⟩:=h w lim cargs al au
 refine bc.mono fun e w' ⟨he,hw⟩=>?_
 subst hw
 exact ⟨v,x,lim,m,[],he,U,ah,st, .refl _ _ _⟩
theorem EM {cargs:Array Value} {s t:List UInt8} {w:World} {lim:Nat→Nat} (al:cargs.size=[R.str s, .str t].length) (au:∀i,i<[R.str s, .str t].length→aF w lim (cargs.getD i undef) ([R.str s, .str t].getD i .aP) []):
 ∃a b:ByteArray,cargs=#[.string a, .string b]∧a.data.toList=s∧b.data.toList=t∧a.size≤140737488355328∧b.size≤140737488355328:=by
 have e:cargs=#[cargs.getD 0 undef,cargs.getD 1 undef]:=by
  apply Array.ext (by simpa using al)
  intro i ab eH
  have:i=0∨i=1:=by simp at eH;omega
  rcases this with rfl|rfl<;>simp at al<;>simp [Array.getD,al]
 have aq:aF w lim (cargs.getD 0 undef) (.str s) []:=au 0 (by simp)
 have I:aF w lim (cargs.getD 1 undef) (.str t) []:=au 1 (by simp)
 rw [e]
 cases h:cargs.getD 0 undef with
 |string a=>
  rw [h] at aq
  cases cb:cargs.getD 1 undef with
  |string b=>
   rw [cb] at I
   cases aq;cases I
   exact ⟨_,_,rfl,rfl,rfl,by assumption,by assumption⟩
  |_=>rw [cb] at I;cases I
 |_=>rw [h] at aq;cases aq
theorem Te {f:FuncId} {name:String} {tP:Nat} {e:TypeId} {z:Nat×Nat} (aW:∃fn,P.funcs[f]?=some fn∧fn.body.isSome=true∧(fn.name== "runtime.NumGoroutine")=false) (a8:P.globalNamed name=some tP)
 (fN:∀(u:Nat),u<18446744073709551616→∀w,Lib.TabIs P w name .u64 Lib.pow10Tab→Calls P f #[.int .u64 u, .int .i64 10] w fun e w'=>e= .returned (.string ⟨(Lib.decDigits u).toArray⟩)∧∃k os,w'=Sort.grow (w.drewN k) os)
 {u:Nat} {K:R→ad→Prop} (hm:m tP=some (yq e z .u64 Lib.pow10Tab)) (hlen:(Lib.decDigits u).length≤140737488355328) (U:K (.str (Lib.decDigits u)) m):bn P f [.int .u64 u, .int .i64 10] m K:=by
 refine ⟨aW,fun F lim w cargs al au st=>?_⟩
 have e:cargs=#[.int .u64 u, .int .i64 10]:=by
  apply Array.ext (by simpa using al)
  intro i ab eH
  have aq:aF w lim (cargs.getD 0 undef) (.int .u64 u) []:=au 0 (by simp)
  have I:aF w lim (cargs.getD 1 undef) (.int .i64 10) []:=au 1 (by simp)
  have:i=0∨i=1:=by simp at eH;omega
  rcases this with rfl|rfl<;>simp at al
  · have h:cargs.getD 0 undef=cargs[0]:=by simp [Array.getD,al]
    rw [h] at aq
    generalize cargs[0]=v at aq ⊢
    cases aq;rfl
  · have h:cargs.getD 1 undef=cargs[1]:=by simp [Array.getD,al]
    rw [h] at I
    generalize cargs[1]=v at I ⊢
    cases I;rfl
 have hu:u<18446744073709551616:=by
  have aq:aF w lim (cargs.getD 0 undef) (.int .u64 u) []:=au 0 (by simp)
  generalize cargs.getD 0 undef=v at aq
  cases aq with
  |int _ _ bD ab=>have:(u:Int)≤18446744073709551615:=ab;omega
 subst e
 have rf:Lib.TabIs P w name .u64 Lib.pow10Tab:=by
  obtain ⟨os,b6,bA,s⟩:=st
  exact Js (s.mem tP _ hm).1 a8
 refine (fN u hu w rf).mono fun ax lJ ⟨he,k,os,re⟩=>?_
 subst he;subst re
 exact ⟨_,_,lim,_,[],rfl,U, .str ⟨(Lib.decDigits u).toArray⟩ (by rw [show (⟨(Lib.decDigits u).toArray⟩:ByteArray).size=(Lib.decDigits u).length from rfl];exact hlen),st.grow os k,Jr st os k⟩
theorem Tf {f:FuncId} {e:TypeId} {args:List R} {l:List (List UInt8)} {K:R→ad→Prop} (aW:∃fn,P.funcs[f]?=some fn∧fn.body.isSome=true∧(fn.name== "runtime.NumGoroutine")=false) (U:K (.slice false (l.map .str)) m)
 (h:∀w lim (cargs:Array Value),cargs.size=args.length→(∀i,i<args.length→aF w lim (cargs.getD i undef) (args.getD i .aP) [])→∃(ps:List ByteArray) (N:Nat),(Calls P f cargs w fun ax w'=>ax= .returned (.slice (some ⟨w.heap.size,0,none⟩) ps.length N)∧w'=w.alloc (.cells (Lib.cellsOf ps N) e))∧
   ps.length≤N∧N≤maxLen∧ps.length≤140737488355328∧(∀p∈ps,p.size≤140737488355328)∧ps.map (·.data.toList)=l):bn P f args m K:=by
 refine ⟨aW,fun F lim w cargs al au st=>?_⟩
 obtain ⟨ps,N,bc,I,J,ai,aC,aN⟩:=h w lim cargs al au
 refine bc.mono fun ax w' ⟨he,hw⟩=>?_
 subst hw he
 subst aN
 have hold:∀c,c<w.heap.size→(w.alloc (.cells (Lib.cellsOf ps N) e)).heap[c]?=w.heap[c]?:=fun c ag=>lC _ _ _ ag
 have bG:∀b o,o<lim b→b<w.heap.size:=fun b o av=>st.qF av
 have zT:∀b,m b≠none→b<w.heap.size:=fun b ae=>st.p4 ae
 have aA:∀b,w.heap.size≤b→lim b=0:=fun b ae=>by
  obtain ⟨_,_,_,s⟩:=st
  exact (s.fresh b ae).1
 have b2:(w.alloc (.cells (Lib.cellsOf ps N) e)).heap.size=w.heap.size+1:=by show (w.heap.push _).size=_;rw [Array.size_push]
 have fU:∀b o,o<lim b→(w.alloc (.cells (Lib.cellsOf ps N) e)).cell? ⟨b,o,none⟩=w.cell? ⟨b,o,none⟩:=fun b o av=>by simp [World.cell?,hold b (bG b o av)]
 have ek:∀b,lim b≤if b=w.heap.size then N else lim b:=fun b=>by
  by_cases ae:b=w.heap.size
  · rw [if_pos ae,ae,aA _ (Nat.le_refl _)];exact Nat.zero_le _
  · rw [if_neg ae];exact Nat.le_refl _
 refine ⟨_,_,fun b=>if b=w.heap.size then N else lim b,m,[],rfl,U,?_,?_,?_⟩
 · have ag:∀i,i<ps.length→(w.alloc (.cells (Lib.cellsOf ps N) e)).cell? ⟨w.heap.size,i,none⟩=some (.string (ps.getD i ByteArray.empty)):=fun i ab=>by
    have:(Lib.cellsOf ps N)[i]?=some (.string (ps.getD i ByteArray.empty)):=by
     simp [Lib.cellsOf,List.getElem?_append_left,ab]
    have aI:=nV w (.cells (Lib.cellsOf ps N) e)
    simp only [World.cell?]
    rw [aI]
    exact this
   have a8:∀i,i<ps.length→((ps.map (·.data.toList)).map R.str).getD i .aP= .str (ps.getD i ByteArray.empty).data.toList:=fun i ab=>by simp [List.getD_eq_getElem?_getD,ab]
   refine .slice w.heap.size 0 ps.length N 1 _ (fun i _=> .string (ps.getD i ByteArray.empty)) (by simp) I J ai (fun i ab=>by rw [a8 i ab];rfl) (by rw [if_pos rfl];omega) (fun i j ab ay=>?_) (fun i j ab ay=>?_)
   · obtain rfl:j=0:=by omega
     simpa using ag i ab
   · obtain rfl:j=0:=by omega
     rw [a8 i ab]
     exact .str _ (aC _ (by simp [List.getD_eq_getElem?_getD,ab]))
 · refine st.world (by rw [b2];omega) ek (fun b o av=>fU b o av) (fun c ag=> .inr ⟨hold c ag,?_⟩) (fun b ae=>⟨hold b (zT b ae),?_⟩) (fun b ae=>?_)
   · rw [if_neg (by omega)]
   · rw [if_neg (by have:=zT b ae;omega)]
   · rw [if_neg (by rw [b2] at ae;omega)];exact aA b (by rw [b2] at ae;omega)
 · exact ⟨rfl,rfl,rfl,by rw [b2];omega,fun b ae=>⟨hold b (st.pt ae),by rw [if_neg (by have:=st.pt ae;omega)]⟩,ek,fun b o av=>fU b o av⟩
end
end Go.bh
end
section
namespace Go.bh
open Go
theorem filter_eq (f g:Nat→Bool) (i:Nat) (he:∀j,j≠i→g j=f j):∀p,p≤i→((List.range p).filter f).length=((List.range p).filter g).length
 |0,_=>rfl
 |p+1,h=>by rw [List.range_succ,List.filter_append,List.filter_append,List.length_append,List.length_append,filter_eq f g i he p (by omega)];simp [List.filter,he p (by omega)]
theorem count_one (f g:Nat→Bool) (i:Nat) (aW:f i=true) (a8:g i=false) (he:∀j,j≠i→g j=f j):∀p,i<p→((List.range p).filter f).length=((List.range p).filter g).length+1
 |0,h=>absurd h (Nat.not_lt_zero _)
 |p+1,h=>by
  rw [List.range_succ,List.filter_append,List.filter_append,List.length_append,List.length_append]
  by_cases e:i=p
  · subst e
    rw [filter_eq f g i he i (Nat.le_refl _)];simp [List.filter,aW,a8]
  · rw [count_one f g i aW a8 he p (by omega)]
    simp [List.filter,he p (fun h=>e h.symm)]
    omega
section
variable {P:Program} {n:Nat} {fr:Fr} {m:ad}
structure aad (ops:Array Oper) (p:Nat):Prop where
 le:p≤ops.size
 back:∀(i:Nat) (o:Oper) (e:Edge),ops[i]?=some o→e∈o.after→Region.binds .any e=true→e.on<i
 tail:∀(i:Nat),p≤i→i<ops.size→∀j,j<p→j∈closure ops i (nr ops i)
 dst:∀(i:Nat) (o:Oper),i<p→ops[i]?=some o→∃d,o.dst=some d
 apart:∀(i j:Nat) (o q:Oper),i<p→j<p→ops[i]?=some o→ops[j]?=some q→o.dst=q.dst→i=j
 looks:∀(i j:Nat) (o q:Oper) (d:Nat),i<p→j<p→ops[i]?=some o→ops[j]?=some q→q.dst=some d→d∈slotsOf ops o→(j<i→∃e∈o.after,e.on=j∧Region.binds .any e=true)∧(i<j→∃e∈q.after,e.on=i∧Region.binds .any e=true)
end
end Go.bh
namespace Go.bS
open Go Go.bh
section
variable {c:gl} {ops:Array Oper}
end
end Go.bS
end
section
namespace Go.bh
open Go
section
variable {P:Program} {F:Nat→Prop} {lim:Nat→Nat} {w:World} {n:Nat} {fr:Fr} {m:ad} {ca:Act} {bu:List Nat}
theorem bd.JP {b:Nat} {o:ed} (st:bd F lim w n fr m ca [b]) (eI:kk w lim b o (fun _=>[])) (ar:lim b=o.zf):m b=none∧bd F lim w n fr (m.bL b (some o)) ca []:=by
 obtain ⟨os,b6,bA,h⟩:=st
 have ae:bA b= .lB:=h.fL.2 b (by simp)
 have aW:=h.free b (by rw [ae];simp)
 refine ⟨aW.2.1,os,fun c=>if c=b then fun _=>[] else b6 c,fun c=>if c=b then .none else bA c,h.size,h.defers,h.dX,fun c dn ag=>?_,fun t x ah=>?_,fun c dn ag i=>?_,by simp,fun c ag=>?_,fun c ag=>?_⟩
 · by_cases e:c=b
   · subst e
     simp only [ad.bL,if_true] at ag
     obtain rfl:=Option.some.inj ag
     simp only [if_true]
     exact ⟨eI,ar,aW.1⟩
   · simp only [ad.bL,if_neg e] at ag
     simp only [if_neg e]
     exact h.mem c dn ag
 · refine ⟨(h.ey t x ah).1,fun c ag=>?_⟩
   have:=(h.ey t x ah).2 c ag
   by_cases e:c=b
   · subst e;rw [ae] at this;cases this
   · simp only [if_neg e];exact this
 · by_cases e:c=b
   · subst e;simp
   · simp only [ad.bL,if_neg e] at ag
     simp only [if_neg e]
     refine ⟨(h.ds c dn ag i).1,fun q aO=>?_⟩
     have:=(h.ds c dn ag i).2 q aO
     by_cases aI:q=b
     · subst aI;rw [ae] at this;cases this
     · simp only [if_neg aI];exact this
 · by_cases e:c=b
   · simp [e] at ag
   · simp only [if_neg e] at ag
     have:=h.free c ag
     exact ⟨this.1,by simp only [ad.bL,if_neg e];exact this.2.1,this.2.2⟩
 · have:=h.fresh c ag
   have e:c≠b:=by have:=aW.2.2;omega
   exact ⟨this.1,this.2.1,by simp only [ad.bL,if_neg e];exact this.2.2⟩
theorem getD_some {α:Type} {l:List α} {i:Nat} {v d:α} (h:l[i]?=some v):l.getD i d=v:=by rw [List.getD_eq_getElem?_getD,h];rfl
set_option maxHeartbeats 1000000 in
theorem Tg (st:bd F lim w n fr m ca bu) {t e ty:TypeId} (ao:P.underlying t=some (.slice e)) (aA:kp P e=true) (jg:0<P.cellsOf e) {pC jd:Value} {l:List R} {x:R} (ae:aF w lim pC (.slice true l) bu) (aE:aF w lim jd (.slice false [x]) [])
 (w5:(l.length+1)*P.bytesOf e≤140737488355328) (cU:l.length+1≤140737488355328) (ar:∀x∈l,x.cells.length=P.cellsOf e) (ah:x.cells.length=P.cellsOf e∧x.cells.all R.one=true):
 ∃c7 eV w' lim',(Builtin.append_ #[t,t] ty #[pC,jd]).run P w= .ok (.slice (some ⟨c7,0,none⟩) (l.length+1) eV) w'∧l.length+1≤eV∧eV≤maxLen∧m c7=none∧
  bd F lim' w' n fr (m.bL c7 (some (.part (P.cellsOf e) eV l x.cells))) ca []∧dc F w lim w' lim':=by
 obtain ⟨i,z,ab,lj,zx,zy,s9⟩:=w1 aA
 obtain ⟨hM,lk⟩:=s7 ab
 have rQ:∀k:Nat,k≤140737488355328→k≤maxLen:=fun k aj=>by simp only [maxLen];omega
 have n3:∀(l:List R) i,i<l.length→l.getD i .aP∈l:=fun l i ab=>by simp [List.getD_eq_getElem?_getD,ab]
 rcases uB aE with ⟨aq,_⟩|⟨aq,_⟩|⟨ta,tc,td,Cu,gT,rfl,G3,O1,O2,tf,G4,zz,pD⟩
 · exact absurd aq (by simp)
 · exact absurd aq (by simp)
 have Cv:Cu=i.size:=by rw [←tf 0 (by simp),show [x].getD 0 .aP=x from rfl,ah.1,hM]
 subst Cv
 rw [hM] at jg ar ah
 rw [hM]
 have Th:([x]:List R).length=1:=rfl
 rw [Th] at zz pD G4 G3 tf
 have qN:=zt (w:=w) jg zz
 have hq:(fW gT 1 i.size).length=1*i.size:=by simp [fW]
 have w6:∀a b,a<1→b<i.size→(fW gT 1 i.size)[a*i.size+b]?=some (gT a b):=fun a b aH ae=>zs aH ae
 have pE:∀u∈fW gT 1 i.size,u.oneCell'=true:=fun u hu=>by
  obtain ⟨k,aj,rfl⟩:=List.mem_map.1 hu
  have fs:k<1*i.size:=by simpa using aj
  have w7:k/i.size<1:=Nat.div_lt_of_lt_mul (by rw [Nat.mul_comm];exact fs)
  have w8:=Nat.mod_lt k jg
  have bp:k/i.size=0:=Nat.lt_one_iff.1 w7
  rw [bp]
  exact zv ah.2 (by rw [ah.1];exact w8) (pD 0 _ (by omega) w8)
 rw [lk] at w5
 have rR:∀(fG:List Value) (eV:Nat) (fa:Nat→Nat→Value),fG.length=l.length*i.size→l.length+1≤eV→eV≤maxLen→
  (∀a b,a<l.length→b<i.size→fG[a*i.size+b]?=some (fa a b))→(∀a b,a<l.length→b<i.size→aF w lim (fa a b) ((l.getD a .aP).cells.getD b .aP) [])→
  (fG.toArray++(fW gT 1 i.size).toArray++Builtin.zeroCells z.cells (eV- (l.length+1))).size=eV*i.size→
  ∃lim',m w.heap.size=none∧bd F lim' (w.drew.alloc (.cells (fG.toArray++(fW gT 1 i.size).toArray++Builtin.zeroCells z.cells (eV- (l.length+1))) e)) n fr (m.bL w.heap.size (some (.part i.size eV l x.cells))) ca []∧
   dc F w lim (w.drew.alloc (.cells (fG.toArray++(fW gT 1 i.size).toArray++Builtin.zeroCells z.cells (eV- (l.length+1))) e)) lim':=by
  intro fG eV fa av dT hm w3 qP np
  have ee:=dc.w0 (w':=w.drew) st rfl rfl rfl rfl (.cells (fG.toArray++(fW gT 1 i.size).toArray++Builtin.zeroCells z.cells (eV- (l.length+1))) e) (l.length*i.size)
  have pF:=zw (C:=(Builtin.zeroCells z.cells (eV- (l.length+1))).toList) av hq w3 w6
  have fU:∀a b,a<l.length+1→b<i.size→(fG.toArray++(fW gT 1 i.size).toArray++Builtin.zeroCells z.cells (eV- (l.length+1))).getD (a*i.size+b) undef=if a<l.length then fa a b else gT (a- l.length) b:=fun a b aH ae=>by
   have:=pF a b aH ae
   rw [Array.getD_eq_getD_getElem?,←Array.getElem?_toList]
   simp only [Array.toList_append]
   rw [this];rfl
  have s1:=st.wZ (w':=w.drew) rfl (.cells (fG.toArray++(fW gT 1 i.size).toArray++Builtin.zeroCells z.cells (eV- (l.length+1))) e) (l.length*i.size)
  obtain ⟨s2,fk⟩:=s1.JP (o:= .part i.size eV l x.cells) (.part i.size eV _ e l x.cells _ (nV w.drew _) np dT hm cU (fun a aH=>ar _ (n3 l a aH)) ah.1 (fun a b aH ae=>by
   rw [fU a b (by omega) ae,if_pos aH]
   exact (qP a b aH ae).fA ee.mono ee.cell (by simp)) (fun b ae=>by
   rw [fU l.length b (by omega) ae,if_neg (by omega),Nat.sub_self]
   exact (pD 0 b (by omega) ae).fA ee.mono ee.cell (by simp))) (by rw [pA];rfl)
  exact ⟨_,s2,fk,ee⟩
 have w9:∀eV,l.length+1≤eV→∀fG:List Value,fG.length=l.length*i.size→(fG.toArray++(fW gT 1 i.size).toArray++Builtin.zeroCells z.cells (eV- (l.length+1))).size=eV*i.size:=fun eV ag fG av=>by
  simp only [Array.size_append,List.size_toArray,size_zeroCells,s9,av,hq,←Nat.add_mul]
  congr 1;omega
 have xa:((l.length+1:Nat):Int)≤9223372036854775807:=by omega
 cases ae with
 |fz own=>
  simp only [List.length_nil,Nat.zero_add] at*
  have fN:=run_append_nil (P:=P) w t ty e i z ao ab lj ⟨ta,tc,none⟩ 1 td _ hq qN (by omega) xa (by omega)
  have dT:=grownCap_ge w 1 0 e
  have n4:=grownCap_le_maxLen w 1 0 e (rQ _ cU)
  obtain ⟨lim',I,J,ai⟩:=rR [] (grownCap w 1 0 e) (fun _ _=>undef) (by simp) dT n4 (fun a b aH=>absurd aH (Nat.not_lt_zero _)) (fun a b aH=>absurd aH (Nat.not_lt_zero _)) (w9 _ dT [] (by simp))
  exact ⟨_,_,_,lim',fN,dT,n4,I,by simpa using J,by simpa using ai⟩
 |own b jH cap sz l cv cur b9 I J ai aC aN bE dk cW dB dV fj=>
  subst I
  have oO:l.length=0∨sz=i.size:=by
   rcases Nat.eq_zero_or_pos l.length with h|h
   · exact .inl h
   · exact .inr (by rw [←cW 0 h,ar _ (n3 l 0 h)])
  have hh:∀a c7,a<l.length→c7<i.size→w.cell? ⟨b,a*i.size+c7,none⟩=some (cv a c7):=fun a c7 aH ae=>by
   rcases oO with h|h
   · omega
   · subst h;exact dV a c7 aH ae
  have jC:∀a c7,a<l.length→c7<i.size→aF w lim (cv a c7) ((l.getD a .aP).cells.getD c7 .aP) []:=fun a c7 aH ae=>by
   rcases oO with h|h
   · omega
   · subst h;exact fj a c7 aH ae
  by_cases n1:l.length+1≤cap
  · have b2:sz=i.size:=by
     rcases oO with h|h
     · rcases aN with aN|aN<;>omega
     · exact h
    subst b2
    have w2:l.length*i.size+(fW gT 1 i.size).length≤cur.size:=by
     rw [hq,dk,←Nat.add_mul];exact Nat.mul_le_mul_right _ n1
    have fN:=G1 (P:=P) (w:=w) t e ty i ao ab b l.length cap cur b9 bE ⟨ta,tc,none⟩ 1 td _ hq qN pE n1 w2
    generalize ck:(cur.toList.take (l.length*i.size)++fW gT 1 i.size++cur.toList.drop (l.length*i.size+(fW gT 1 i.size).length)).toArray=A at fN
    have l7:(w.setRow b A).heap[b]?=some (.cells A b9 (0,0)):=setRow_heap w b cur A b9 (0,0) bE
    have ib:∀k,k<l.length*i.size→A[k]?=cur[k]?:=fun k aj=>by
     rw [←ck]
     have hle:l.length*i.size≤cur.size:=by omega
     rw [List.getElem?_toArray,List.append_assoc,List.getElem?_append_left (by simp;omega),List.getElem?_take,if_pos aj,Array.getElem?_toList]
    obtain ⟨s1,s2⟩:=st.Cq (w':=w.setRow b A) (by simp) (fun c ag=>setRow_other w b c A ag) (l.length*i.size) (by rw [←dB];exact Nat.le_refl _) (fun o av=>by
     rw [←dB] at av
     simp [World.cell?,l7,bE,ib o av]) rfl rfl rfl
    have pF:∀a c7,a<l.length+1→c7<i.size→A.getD (a*i.size+c7) undef=if a<l.length then cv a c7 else gT (a- l.length) c7:=fun a c7 aH ae=>by
     rw [Array.getD_eq_getD_getElem?,←ck,List.getElem?_toArray]
     rw [zw (fa:=cv) (fb:=gT) (a:=l.length) (b:=1) (sz:=i.size) (by simp;omega) hq (fun a c7 aH ae=>by
      have:=hh a c7 aH ae
      simp only [World.cell?,bE] at this
      rw [List.getElem?_take,if_pos (uO _ _ _ _ aH ae),Array.getElem?_toList]
      exact this) w6 a c7 aH ae]
     rfl
    obtain ⟨fk,rb⟩:=s1.JP (o:= .part i.size cap l x.cells) (.part i.size cap A b9 l x.cells _ l7 (by rw [←ck];simp;omega) n1 ai cU (fun a aH=>ar _ (n3 l a aH)) ah.1 (fun a c7 aH ae=>by
     rw [pF a c7 (by omega) ae,if_pos aH]
     exact (jC a c7 aH ae).fA s2.mono s2.cell (by simp)) (fun c7 ae=>by
     rw [pF l.length c7 (by omega) ae,if_neg (by omega),Nat.sub_self]
     exact (pD 0 c7 (by omega) ae).fA s2.mono s2.cell (by simp))) (by rw [pA];rfl)
    exact ⟨_,_,_,_,fN,n1,ai,fk,rb,s2⟩
  · have holds:=zt (w:=w) (cv:=cv) (n:=l.length) (sz:=i.size) (b:=b) (off:=0) jg (fun a c7 aH ae=>by rw [Nat.zero_add];exact hh a c7 aH ae)
    have qQ:(fW cv l.length i.size).length=l.length*i.size:=by simp [fW]
    have xb:=growslice_fits (need:=l.length+1) (old:=cap) (bytes:=i.bytes) (by omega) w5
    have fN:=run_append_grow (P:=P) w t ty e i z ao ab lj ⟨b,0,none⟩ l.length cap _ qQ holds ⟨ta,tc,none⟩ 1 td _ hq qN (by omega) xa xb
    have dT:=grownCap_ge w (l.length+1) cap e
    have n4:=grownCap_le_maxLen w (l.length+1) cap e (rQ _ cU)
    obtain ⟨lim',s1,s2,fk⟩:=rR (fW cv l.length i.size) (grownCap w (l.length+1) cap e) cv qQ dT n4 (fun a c7 aH ae=>zs aH ae) jC (w9 _ dT _ qQ)
    exact ⟨_,_,_,lim',fN,dT,n4,s1,s2,fk⟩
end
end Go.bh
namespace Go.bh
open Go
section
variable {P:Program} {F:Nat→Prop} {lim:Nat→Nat} {w:World} {n:Nat} {fr:Fr} {m:ad} {ca:Act} {bu:List Nat}
theorem bd.Ti (st:bd F lim w n fr m ca bu) {b sz cap:Nat} {l z xs:List R} {vs:List Value} (hm:m b=some (.part sz cap l z)) (bc:vs.length=sz) (ah:xs.length=sz) (au:∀i,i<sz→aF w lim (vs.getD i undef) (xs.getD i .aP) []):
 ∃cs e,w.heap[b]?=some (.cells cs e (0,0))∧l.length*sz+sz≤cs.size∧bd F lim (w.setRow b (cs.toList.take (l.length*sz)++vs++cs.toList.drop (l.length*sz+vs.length)).toArray) n fr (m.bL b (some (.part sz cap l xs))) ca bu∧
  dc F w lim (w.setRow b (cs.toList.take (l.length*sz)++vs++cs.toList.drop (l.length*sz+vs.length)).toArray) lim:=by
 obtain ⟨os,b6,bA,h⟩:=st
 obtain ⟨eI,ek,cE⟩:=h.mem b _ hm
 replace ek:lim b=l.length*sz:=ek
 generalize Tj:b6 b=gu at eI
 cases eI with
 |part _ _ cs e _ _ _ ae ib dT lD cU b2 aA wY wO=>
 have np:l.length*sz+sz≤cs.size:=by rw [ib,←Nat.succ_mul];exact Nat.mul_le_mul_right _ dT
 refine ⟨cs,e,ae,np,?_⟩
 generalize ck:(cs.toList.take (l.length*sz)++vs++cs.toList.drop (l.length*sz+vs.length)).toArray=A
 have ts:b<w.heap.size:=(Array.getElem?_eq_some_iff.1 ae).1
 have jG:∀c,c≠b→(w.setRow b A).heap[c]?=w.heap[c]?:=fun c ag=>setRow_other w b c A ag
 have l7:(w.setRow b A).heap[b]?=some (.cells A e (0,0)):=setRow_heap w b cs A e (0,0) ae
 have Tk:A.size=cs.size:=by rw [←ck];simp [bc];omega
 have EN:∀k,k<l.length*sz→A[k]?=cs[k]?:=fun k aj=>by
  rw [←ck,List.getElem?_toArray,List.append_assoc,List.getElem?_append_left (by simp;omega),List.getElem?_take,if_pos aj,Array.getElem?_toList]
 have fU:∀c o,o<lim c→(w.setRow b A).cell? ⟨c,o,none⟩=w.cell? ⟨c,o,none⟩:=fun c o av=>by
  by_cases e:c=b
  · subst e;rw [ek] at av;simp [World.cell?,l7,ae,EN o av]
  · simp [World.cell?,jG c e]
 have hi:∀c,bA c≠ .none→c≠b:=fun c ag e=>by subst e;have:=(h.free c ag).2.1;rw [hm] at this;cases this
 have bW:∀{v x dS},aF w lim v x dS→(∀c∈dS,bA c≠ .none)→aF (w.setRow b A) lim v x dS:=fun c1 av=>c1.fA (fun _=>Nat.le_refl _) fU (fun c ag=>⟨jG c (hi c (av c ag)),rfl⟩)
 refine ⟨⟨os,b6,bA,h.size,h.defers,fun t x ah=>⟨(h.dX t x ah).1,bW (h.dX t x ah).2 (fun c ag=>by rw [(h.ey t x ah).2 c ag];simp)⟩,fun c o ag=>?_,h.ey,fun c o ag i=>?_,h.fL,fun c ag=>⟨(h.free c ag).1,?_,by simpa using (h.free c ag).2.2⟩,fun c ag=>?_⟩,
  rfl,rfl,rfl,by simp,fun c ag=>⟨jG c (fun e=>cE (by rw [←e];exact ag)),rfl⟩,fun _=>Nat.le_refl _,fU⟩
 · by_cases ax:c=b
   · subst ax
     simp only [ad.bL,if_true] at ag
     obtain rfl:=Option.some.inj ag
     refine ⟨.part sz cap A e l xs _ l7 (by rw [Tk,ib]) dT lD cU b2 ah (fun i j ab ay=>?_) (fun j ay=>?_),ek,cE⟩
     · have bG:i*sz+j<l.length*sz:=uO _ _ _ _ ab ay
       rw [Array.getD_eq_getD_getElem?,EN _ bG,←Array.getD_eq_getD_getElem?]
       exact bW (wY i j ab ay) (by simp)
     · have aI:A.getD (l.length*sz+j) undef=vs.getD j undef:=by
        rw [Array.getD_eq_getD_getElem?,←ck,List.getElem?_toArray,List.append_assoc,List.getElem?_append_right (by simp;omega),List.getElem?_append_left (by simp;omega),List.getD_eq_getElem?_getD]
        simp only [List.length_take,Array.length_toList]
        rw [Nat.min_eq_left (by omega),Nat.add_sub_cancel_left]
       rw [aI]
       exact bW (au j ay) (by simp)
   · simp only [ad.bL,if_neg ax] at ag
     exact ⟨(h.mem c o ag).1.fA (jG c ax) (fun _=>Nat.le_refl _) fU (fun i q aO=>⟨jG q (hi q (by rw [(h.ds c o ag i).2 q aO];simp)),rfl⟩),(h.mem c o ag).2⟩
 · by_cases ax:c=b
   · subst ax
     have:=h.ds c _ hm i
     exact this
   · simp only [ad.bL,if_neg ax] at ag
     exact h.ds c o ag i
 · have:=(h.free c ag).2.1
   simp only [ad.bL,if_neg (hi c ag)];exact this
 · have:=h.fresh c (by simpa using ag)
   have ax:c≠b:=by have:w.heap.size≤c:=by simpa using ag
                   omega
   exact ⟨this.1,this.2.1,by simp only [ad.bL,if_neg ax];exact this.2.2⟩
theorem bd.Tl (st:bd F lim w n fr m ca bu) {b a j sz cap:Nat} {l z L:List R} {x:R} (hm:m b=some (.part sz cap l z)) (aH:m a=some (.cells L)) (ay:j<L.length) (kq:L.getD j .aP= .ms ⟨b,0,none⟩ (l.length+1) cap) (ah:x.cells=z):
 ∃lim',bd F lim' w n fr ((m.bL b none).bL a (some (.cells (L.set j (.slice true (l++[x])))))) ca bu∧dc F w lim w lim':=by
 obtain ⟨os,b6,bA,h⟩:=st
 obtain ⟨eI,ek,cE⟩:=h.mem b _ hm
 replace ek:lim b=l.length*sz:=ek
 have JQ:a≠b:=fun e=>by rw [e,hm] at aH;cases aH
 obtain ⟨ck,A5,Tm⟩:=h.mem a _ aH
 generalize Tj:b6 b=gu at eI
 cases eI with
 |part _ _ cs e _ _ _ ae ib dT lD cU b2 aA wY wO=>
 have ts:b<w.heap.size:=(Array.getElem?_eq_some_iff.1 ae).1
 have ic:∀c,lim c≤mI lim b ((l.length+1)*sz) c:=fun c=>by
  by_cases e:c=b
  · subst e;rw [pA,ek];exact Nat.mul_le_mul_right _ (by omega)
  · rw [lh _ _ e];exact Nat.le_refl _
 have hi:∀c,bA c≠ .none→c≠b:=fun c ag e=>by subst e;have:=(h.free c ag).2.1;rw [hm] at this;cases this
 have bW:∀{v x dS},aF w lim v x dS→(∀c∈dS,bA c≠ .none)→aF w (mI lim b ((l.length+1)*sz)) v x dS:=fun c1 av=>c1.fA ic (fun _ _ _=>rfl) (fun c ag=>⟨rfl,lh _ _ (hi c (av c ag))⟩)
 have np:(l.length+1)*sz≤cs.size:=by rw [ib];exact Nat.mul_le_mul_right _ dT
 have qm:aF w (mI lim b ((l.length+1)*sz)) (.slice (some ⟨b,0,none⟩) (l.length+1) cap) (.slice true (l++[x])) [b]:=by
  refine .own b (l.length+1) cap sz (l++[x]) (fun i k=>cs.getD (i*sz+k) undef) cs e (by simp) dT lD cU (.inl (by omega)) ae ib (fun i ab=>?_) (by rw [pA]) (fun i k ab aj=>?_) (fun i k ab aj=>?_)
  · by_cases ax:i<l.length
    · rw [n2 ax];exact b2 i ax
    · rw [pB (by omega),show i- l.length=0 by omega]
      show x.cells.length=sz
      rw [ah];exact aA
  · have bG:i*sz+k<(l.length+1)*sz:=uO _ _ _ _ ab aj
    have Tn:i*sz+k<cs.size:=by omega
    simp [World.cell?,ae,Array.getD,Tn]
  · by_cases ax:i<l.length
    · rw [n2 ax];exact bW (wY i k ax aj) (by simp)
    · have aI:i=l.length:=by omega
      subst aI
      rw [pB (by omega),Nat.sub_self,show [x].getD 0 .aP=x from rfl,ah]
      exact bW (wO k aj) (by simp)
 refine ⟨mI lim b ((l.length+1)*sz),⟨os,fun c=>if c=a then (fun i=>if i=j then [b] else b6 a i) else b6 c,fun c=>if c=b then .nU a j else if bA c= .nU a j then .none else bA c,h.size,h.defers,fun t x ah=>⟨(h.dX t x ah).1,bW (h.dX t x ah).2 (fun c ag=>by rw [(h.ey t x ah).2 c ag];simp)⟩,fun c o ag=>?_,fun t x ah=>?_,fun c o ag i=>?_,?_,fun c ag=>?_,fun c ag=>?_⟩,
  rfl,rfl,rfl,Nat.le_refl _,fun c ag=>⟨rfl,lh _ _ (fun e=>cE (by rw [←e];exact ag))⟩,ic,fun _ _ _=>rfl⟩
 · by_cases ax:c=a
   · subst ax
     simp only [ad.bL,if_true] at ag
     obtain rfl:=Option.some.inj ag
     simp only [if_true]
     refine ⟨?_,by rw [lh _ _ JQ];exact A5,Tm⟩
     generalize To:b6 c=aae at ck
     cases ck with
     |cells lg b9 _ _ e8 ti jC=>
      refine .cells lg b9 _ _ e8 (by simpa using ti) fun i ab=>?_
      have eH:i<L.length:=by simpa using ab
      by_cases hH:i=j
      · subst hH
        have I:=jC i eH
        rw [kq] at I
        obtain ⟨J,_⟩:=rH I
        rw [J]
        simpa [List.getD_eq_getElem?_getD,eH] using qm
      · rw [if_neg hH]
        have I:=bW (jC i eH) (fun q aO=>by have:=(h.ds c _ aH i).2 q (by rw [To];exact aO);rw [this];simp)
        simpa [List.getD_eq_getElem?_getD,List.getElem?_set_ne (Ne.symm hH)] using I
   · simp only [ad.bL,if_neg ax] at ag
     have aI:c≠b:=fun e=>by subst e;simp at ag
     simp only [if_neg aI] at ag
     simp only [if_neg ax]
     exact ⟨(h.mem c o ag).1.fA rfl ic (fun _ _ _=>rfl) (fun i q aO=>⟨rfl,lh _ _ (hi q (by rw [(h.ds c o ag i).2 q aO];simp))⟩),by rw [lh _ _ aI];exact (h.mem c o ag).2.1,(h.mem c o ag).2.2⟩
 · refine ⟨(h.ey t x ah).1,fun c ag=>?_⟩
   have I:=(h.ey t x ah).2 c ag
   simp only [if_neg (hi c (by rw [I];simp))]
   rw [I];simp
 · by_cases ax:c=a
   · subst ax
     simp only [if_true]
     by_cases hH:i=j
     · subst hH;simp
     · simp only [if_neg hH]
       refine ⟨(h.ds c _ aH i).1,fun q aO=>?_⟩
       have I:=(h.ds c _ aH i).2 q aO
       simp only [if_neg (hi q (by rw [I];simp))]
       rw [I];simp [hH]
   · simp only [ad.bL,if_neg ax] at ag
     have aI:c≠b:=fun e=>by subst e;simp at ag
     simp only [if_neg aI] at ag
     simp only [if_neg ax]
     refine ⟨(h.ds c o ag i).1,fun q aO=>?_⟩
     have I:=(h.ds c o ag i).2 q aO
     simp only [if_neg (hi q (by rw [I];simp))]
     rw [I];simp [ax]
 · refine ⟨h.fL.1,fun c ag=>?_⟩
   have I:=h.fL.2 c ag
   simp only [if_neg (hi c (by rw [I];simp))]
   rw [I];simp
 · by_cases ax:c=b
   · subst ax
     exact ⟨cE,by simp only [ad.bL,if_neg JQ.symm,if_true],ts⟩
   · simp only [if_neg ax] at ag
     by_cases aI:bA c= .nU a j
     · simp [aI] at ag
     · simp only [if_neg aI] at ag
       have I:=h.free c ag
       have cR:c≠a:=fun e=>by rw [e,aH] at I;cases I.2.1
       exact ⟨I.1,by simp only [ad.bL,if_neg cR,if_neg ax];exact I.2.1,I.2.2⟩
 · have I:=h.fresh c ag
   have ax:c≠b:=by omega
   have cR:c≠a:=fun e=>by rw [e,aH] at I;cases I.2.2
   exact ⟨by rw [lh _ _ ax];exact I.1,I.2.1,by simp only [ad.bL,if_neg cR,if_neg ax];exact I.2.2⟩
end
end Go.bh
namespace Go.bS
open Go Go.bh
section
variable {P:Program} {T:hZ} {b0:List Nat} {fr:bT} {L:List bz} {m:ad} {K:cr}
theorem Tp (aJ:fm P T=true) {q7:Prop} {α:Type} (f:α→R) (xs:List α) (z0:R) {d s t e w tH:Nat} {y:Operand} {l l' sw:List R} (ah:kX fr s fun v=>v= .own l) (ar:l=xs.map f) (aE:eX fr y fun v=>v= .aK (.slice false l')) (ic:l'=[z0]) (EO:EC T t e w tH sw) (EP:(Nat.beq z0.cells.length w&&z0.cells.all R.one)=true)
 (aW:∀a,(f a).cells.length=w) (ae:(xs.length+1)*tH≤140737488355328∧xs.length+1≤140737488355328) (al:(o1 L.length fr&&lp L.length L)=true)
 (h:∀cap:Nat,gy (L++[.obj (.part w cap l z0.cells)]) fun bJ=>K ((d, .ms L.length (xs.length+1) cap)::(s, .aK (.slice false l))::fr) bJ m):
 qq q7 (ik P b0 (some d) (.call ⟨.builtin .append,#[.tmp s,y],#[t,t]⟩) fr L m K):=⟨.inr ⟨fun new g n ops ty pos af q mf cO aL U=>by
 obtain ⟨jD,jE,mm,mP,A6,Tq,z,kz,z2,z3⟩:=EO.get aJ
 obtain ⟨v,bc,fq⟩:=e5 (b0++new) aE
 subst bc
 have JR:=SI (bs:=b0++new) ah (by simp)
 simp only [den] at JR
 simp only [Bool.and_eq_true] at al
 refine bQ.step rfl fun F lim wd ca st next Q yA=>?_
 obtain ⟨os,s1,s2⟩:=st.take JR
 have ER:=ff st (hV cO y (by simp [Op.operands,Call.operands]))
 rw [←fq] at ER
 simp only [den,R.plain] at ER
 subst ic
 have jl:l.length=xs.length:=by rw [ar,List.length_map]
 obtain ⟨c7,cap,w',lim',hp,hF,pH,tg,JS,Tr⟩:=Tg (P:=P) (ty:=ty) s1 jD mP (by rw [A6];exact mm) s2 ER (by rw [jl,Tq];exact ae.1) (by rw [jl];exact ae.2) (fun x ah=>by rw [ar] at ah;obtain ⟨a,_,rfl⟩:=List.mem_map.1 ah;rw [A6];exact aW a) (by rw [A6];simp only [Bool.and_eq_true] at EP;exact ⟨Nat.eq_of_beq_eq_true EP.1,EP.2⟩)
 rw [A6] at JS
 have aq:=h cap
 rw [hv] at aq
 obtain ⟨dQ,aI⟩:=vm g (by rw [g.len];exact al.2) tg (.obj (.part w cap l z0.cells))
 have cR:bm ((b0++new)++[c7]) fr=bm (b0++new) fr:=vl (by rw [g.len];exact al.1)
 have aj:=U _ _ _ ((b0++new)++[c7]) (by rw [List.append_assoc];exact List.prefix_append _ _) dQ aq
 rw [aI] at aj
 simp only [bm,den,cR,R.plain] at aj
 rw [show ((b0++new)++[c7]).getD L.length 0=c7 by rw [←g.len,List.getD_eq_getElem?_getD,List.getElem?_concat_length];rfl] at aj
 refine nk (v:= .slice (some ⟨c7,0,none⟩) (l.length+1) cap) (w':=w') ?_ (yA lim' w' _ _ _ aj (JS.dR (d:=some d) (fun t ao=>iJ cO ao) (by rw [←jl];exact .ms _ _ _ hF pH)) Tr)
 have ax:(#[Operand.tmp s,y]:Array Operand).map ca.eval=#[ca.tmps.getD s undef,ca.eval y]:=by apply Array.ext';simp [Act.eval]
 simp only [execOp,resolve,invoke,builtin,Sem.run_bind,Sem.run_pure,Result.andThen_ok,ax]
 rw [hp];rfl⟩⟩
theorem Ts (aJ:fm P T=true) {i t w cap:Nat} {ji:Int} {a x:Operand} {v:a6} {cs:List a6} {l sw:List R} (yB:List R) (aB:eX fr a fun p=>p= .hY i ji w 0) (ab:nth L i=some (.obj (.part w cap l sw))) (bc:eX fr x fun u=>u=v) (ag:Ax v fun lg=>lg=cs)
 (ao:du T t fun dZ=>dZ.n=w) (hlen:Nat.beq cs.length w=true) (aE:∀bs,bo bs cs=yB) (aq:ji=(l.length:Int))
 (h:gy (L.set i (.obj (.part w cap l yB))) fun bJ=>K fr bJ m):ik P b0 none (.store t a x) fr L m K:=⟨fun new g qv ops ty pos af q mf cO aL U=>by
 have q0:=Nat.eq_of_beq_eq_true hlen
 obtain ⟨dZ,JT,vM⟩:=et aJ ao
 obtain ⟨v1,rfl,ax⟩:=e5 (b0++new) aB
 obtain ⟨v2,rfl,aI⟩:=e5 (b0++new) bc
 obtain ⟨Tt,rfl,cR,kB,tM⟩:=D5 (bs:=b0++new) ag
 rw [j2] at ab
 have hm:=mO g ab
 simp only [er] at hm
 rw [hv] at h
 subst aq
 simp only [den,Int.toNat_natCast,Nat.zero_add,Nat.add_zero] at ax
 refine bQ.step rfl fun F lim wd ca st next Q yA=>?_
 have aH:=ff st (hV cO a (by simp [Op.operands]))
 rw [←ax] at aH
 have ah:=ff st (hV cO x (by simp [Op.operands]))
 rw [←aI] at ah
 obtain ⟨oss,fH,c2,c3⟩:=zp ah kB
 have hw:(den (b0++new) v2).cells.length=w:=by rw [←cR,kW,q0]
 have JU:(den (b0++new) v2).cells=yB:=by rw [←cR];exact aE _
 have ES:∀k,k<w→oss k=[]:=fun k aj=>zh c3.symm k (by rw [hw];exact aj)
 have zF:(ca.eval x).cells.toList.length=w:=by rw [←hw];simpa using fH
 obtain ⟨cur,e,ae,b2,hp,hF⟩:=st.Ti (vs:=(ca.eval x).cells.toList) (xs:=yB) hm zF (by rw [←JU];exact hw) (fun k aj=>by
  have:=c2 k (by rw [hw];exact aj)
  rw [ES k aj,JU] at this
  simpa [Array.getD_eq_getD_getElem?,List.getD_eq_getElem?_getD] using this)
 have pE:∀v∈(ca.eval x).cells.toList,v.oneCell'=true:=fun v bc=>by
  obtain ⟨k,qc,rfl⟩:=List.mem_iff_getElem.1 bc
  have mK:k<(den (b0++new) v2).cells.length:=by omega
  have:=c2 k mK
  have a8:(ca.eval x).cells.getD k undef=(ca.eval x).cells.toList[k]:=by
   simp [Array.getD_eq_getD_getElem?,show k<(ca.eval x).cells.size from by simpa using qc]
  rw [a8] at this
  exact zv tM mK this
 have bW:=run_storeCells_at P ((b0++new).getD i 0) (l.length*w) e (ca.eval x).cells.toList 0 cur wd ae (by rw [zF,Nat.add_zero];exact b2) pE
 simp only [Nat.add_zero] at bW
 have aj:=U _ _ _ (b0++new) (List.prefix_append _ _) (g.set i (.obj (.part w cap l yB))) h
 rw [←mem_set g ab] at aj
 simp only [er] at aj
 refine Ck (w':=wd.setRow ((b0++new).getD i 0) (cur.toList.take (l.length*w)++(ca.eval x).cells.toList++cur.toList.drop (l.length*w+(ca.eval x).cells.toList.length)).toArray) ?_ (yA lim _ _ _ _ aj (by simpa [Act.put] using hp) hF)
 have lf:ef P t=true:=JT.is
 have Tu:P.cellsOf t=w:=by rw [JT.cells,vM]
 simp only [execOp,oN aH,Instr.storeAt,Instr.sureAddr,storeVar,Sem.run_bind,Sem.run_pure,Result.andThen_ok,mF lf]
 have eB:¬(ca.eval x).cells.size≠P.cellsOf t:=by rw [fH,Tu,hw];simp
 simp only [eB,if_false,Sem.run_bind,Sem.run_pure,Result.andThen_ok,bW]⟩
theorem Tv {c:gl} {A:cr} {q7:Prop} {α:Type} (f:α→R) (xs:List α) (y:α) {i a j k cap w:Nat} {fK:List a6} {l z:List R} (eh:nth L i=some (.obj (.part w cap l z))) (ab:(Nat.beq (i+1) L.length&&Nat.ble c.bs.length i)=true) (aH:nth L a=some (.cells fK)) (ay:nth fK j=some (.ms i k cap))
 (ar:l=xs.map f) (aA:z=(f y).cells) (aj:k=xs.length+1)
 (h:yr i fr fun bb=>yt i ((L.set a (.cells (fK.set j (.own ((xs++[y]).map f))))).take i) fun bJ=>A bb bJ m):qq (AH c A fr L m) q7:=⟨.inl ⟨fun new g n hc Q gI F lim wd ca st=>by
 simp only [Bool.and_eq_true] at ab
 have pT:=Nat.eq_of_beq_eq_true ab.1
 have j1:=Nat.le_of_ble_eq_true ab.2
 rw [j2] at eh aH ay
 obtain ⟨bb,I,cE⟩:=Ey h
 obtain ⟨bJ,J,lL,eI⟩:=EB I
 generalize b4:c.bs++new=B at g st
 have Tw:=g.len
 have Tx:bJ.length=i:=by rw [lL,List.length_take,List.length_set];omega
 have hm:=mO g eh
 simp only [er] at hm
 have r4:=mO g aH
 simp only [er] at r4
 have A5:a<B.length:=by
  rw [Tw]
  rcases Nat.lt_or_ge a L.length with h|h
  · exact h
  · rw [List.getElem?_eq_none h] at aH;cases aH
 have n7:j<fK.length:=by
  rcases Nat.lt_or_ge j fK.length with h|h
  · exact h
  · rw [List.getElem?_eq_none h] at ay;cases ay
 have s5:a≠i:=fun e=>by rw [e,eh] at aH;cases aH
 have eB:B.getD a 0≠B.getD i 0:=fun e=>s5 (getD_inj g.iR A5 (by omega) e)
 have fU:(bo B fK).getD j .aP= .ms ⟨B.getD i 0,0,none⟩ (l.length+1) cap:=by
  have:=(sd (bs:=B) (n:=j) (l:=fK) (v:= .ms i k cap) (by rw [j2];exact ay)).1
  rw [this];simp only [den];rw [aj,ar,List.length_map]
 obtain ⟨lim',yp,s2⟩:=st.Tl (x:=f y) hm r4 (by rw [kW];exact n7) fU aA.symm
 have dQ:Good (B.take i) bJ m:=SK g pT Tx
 have Ty:c.bs <+: B.take i:=by
  rw [←b4,List.take_append,List.take_of_length_le j1]
  exact List.prefix_append _ _
 have Tz:su (bK (B.take i) bJ m) (((bK B L m).bL (B.getD i 0) none).bL (B.getD a 0) (some (.cells ((bo B fK).set j (.slice true (l++[f y])))))):=by
  intro b dn ae
  rcases SH dQ ae with ⟨q,x,cX,cI,rfl⟩|⟨cX,cI⟩
  · obtain ⟨o,kZ,oR⟩:=eI B 0 q x cI
    have TA:q<i:=by
     rcases Nat.lt_or_ge q i with h|h
     · exact h
     · rw [List.getElem?_eq_none (by omega)] at cI;cases cI
    rw [List.getElem?_take_of_lt TA] at cX kZ
    rw [←SJ (Jv (bs:=B) (i:=i) (by omega)) x] at oR
    have eb:B.getD q 0=b:=by rw [List.getD_eq_getElem?_getD,cX];rfl
    have TB:b≠B.getD i 0:=fun e=>by
     have:=getD_inj g.iR (by omega) (by omega) (eb.trans e)
     omega
    by_cases e:a=q
    · subst e
      rw [List.getElem?_set_self (by omega)] at kZ
      obtain rfl:=Option.some.inj kZ
      simp only [er,Jw] at oR
      refine ⟨.cells ((bo B fK).set j (.slice true (l++[f y]))),by simp only [ad.bL,←eb,if_true],?_⟩
      have pL:den B (.own ((xs++[y]).map f))= .slice true (l++[f y]):=by simp only [den,ar,List.map_append,List.map_cons,List.map_nil]
      rw [pL] at oR
      exact oR
    · rw [List.getElem?_set_ne e] at kZ
      have TC:b≠B.getD a 0:=fun aI=>e (getD_inj g.iR (by omega) A5 (eb.trans aI)).symm
      have a8:=mO g kZ
      rw [eb] at a8
      exact ⟨er B o,by simp only [ad.bL,if_neg TC,if_neg TB];exact a8,oR⟩
  · have ET:b∉B:=fun jK=>by rw [g.fresh b jK] at cI;cases cI
    have aN:b≠B.getD i 0:=fun e=>ET (by rw [e,List.getD_eq_getElem?_getD,List.getElem?_eq_getElem (by omega)];exact List.getElem_mem _)
    have bE:b≠B.getD a 0:=fun e=>ET (by rw [e,List.getD_eq_getElem?_getD,List.getElem?_eq_getElem (by omega)];exact List.getElem_mem _)
    refine ⟨dn,?_, .inl rfl⟩
    simp only [ad.bL,if_neg aN,if_neg bE,bK]
    rw [nt (by rw [o0 g.len];exact ET)]
    exact cI
 have hle:gL (bm (B.take i) bb) (bm B fr):=by
  rw [Ju (Jv (bs:=B) (i:=i) (by omega))]
  exact cE B 0
 have ck:=b7.less hle (b7.sv Tz (gI bb bJ m (B.take i) Ty dQ J))
 exact wp_mono (ck F _ wd ca yp) fun e a w' ⟨l,f,m',q,fM,dL⟩=>⟨l,f,m',q,fM,s2.trans dL⟩⟩⟩
end
end Go.bS
end
section
namespace Go.bS
open Go Go.bh
section
variable {P:Program} {T:hZ} {b0:List Nat} {fr:bT} {L:List bz} {m:ad} {K:cr}
def JV:a6→Bool
 | .fn _ _ _| .loc _ _=>true
 |_=>false
theorem TD {bs:List Nat} {v:a6} (h:JV v=true):(den bs v).plain=den bs v:=by cases v<;>first|(simp only [den,R.plain];done)|cases h
theorem JW:∀(l:List Value),(∀v∈l,v.cells.size=1)→(l.flatMap fun v=>v.cells.toList).length=l.length
 |[],_=>rfl
 |v::l,h=>by rw [List.flatMap_cons,List.length_append,JW l fun u hu=>h u (List.mem_cons_of_mem _ hu),Array.length_toList,h v (List.mem_cons_self ..),List.length_cons];omega
theorem JX:∀(l:List Value) (i:Nat) (v:Value),(∀v∈l,v.cells.size=1)→l[i]?=some v→(l.flatMap fun v=>v.cells.toList)[i]?=some (v.cells.getD 0 undef)
 |[],i,v,_,h=>by simp at h
 |x::l,0,v,h,bc=>by
  have I:=h x (List.mem_cons_self ..)
  obtain rfl:=Option.some.inj bc
  rw [List.flatMap_cons,List.getElem?_append_left (by rw [Array.length_toList,I];omega),Array.getElem?_toList]
  simp [Array.getD,I]
 |x::l,i+1,v,h,bc=>by
  have I:=h x (List.mem_cons_self ..)
  rw [List.flatMap_cons,List.getElem?_append_right (by rw [Array.length_toList,I];omega),Array.length_toList,I,Nat.add_sub_cancel]
  exact JX l i v (fun u hu=>h u (List.mem_cons_of_mem _ hu)) bc
theorem TE (aJ:fm P T=true) {d t e n:Nat} {parts:Array (Nat×Operand)} {us:List a6} (ao:du T t fun dZ=>dZ.k= .bO e) (he:du T e fun fD=>fD.n=1) (aA:kp P e=true) (aB:sg fr parts.toList fun ps=>idxFrom 0 ps=true∧o2 ps=us) (EU:us.length=n) (aq:(Nat.ble 1 n&&Nat.ble n 1000)=true) (pE:us.all tF=true) (al:(o1 L.length fr&&lp L.length L&&sb L.length us)=true)
 (h:gy (L++[.cells us]) fun bJ=>K ((d, .ms L.length n n)::fr) bJ m):ik P b0 (some d) (.buildSlice t n parts) fr L m K:=⟨fun new g qv ops ty pos af q mf cO aL U=>by
 obtain ⟨dZ,cN,vM⟩:=et aJ ao
 obtain ⟨fD,TF,TG⟩:=et aJ he
 obtain ⟨ps,⟨TH,r2⟩,EV⟩:=yh (bs:=b0++new) aB
 simp only [Bool.and_eq_true] at al aq
 have yC:=Nat.le_of_ble_eq_true aq.1
 have TI:=Nat.le_of_ble_eq_true aq.2
 have hu:=(cN.bO vM).1
 have sk:P.cellsOf e=1:=by rw [TF.cells,TG]
 obtain ⟨i,z,ab,lj,zx,zy,s9⟩:=w1 aA
 obtain ⟨hM,lk⟩:=s7 ab
 have xv:i.size=1:=by rw [←hM];exact sk
 have p8:ps.length=n:=by rw [←EU,←r2,AQ,List.length_map]
 have hlen:parts.toList.length=n:=by have:=congrArg List.length EV;simpa [p8] using this.symm
 have zB:parts.toList.map (·.1)=List.range n:=by
  have I:=congrArg (List.map Prod.fst) EV
  simp only [List.map_map] at I
  have J:=Eb TH
  have ai:parts.toList.map (·.1)=ps.map (·.1):=I.symm
  rw [ai,J,p8];simp
 have JY:bo (b0++new) us=parts.toList.map fun p=>bx (a1 (bm (b0++new) fr)) p.2:=by
  have I:=congrArg (List.map Prod.snd) EV
  simp only [List.map_map] at I
  rw [←r2,mi,AQ,List.map_map]
  exact I
 refine bQ.step rfl fun F lim wd ca st next Q yA=>?_
 have xI:∀p∈parts.toList,aF wd lim (ca.eval p.2) (bx (a1 (bm (b0++new) fr)) p.2) []:=fun p aB=>ff st (hV cO p.2 (by simp [Op.operands];exact ⟨p.1,by simpa using aB⟩))
 have ES:∀p∈parts.toList,(bx (a1 (bm (b0++new) fr)) p.2).one=true:=fun p aB=>by
  have hm:bx (a1 (bm (b0++new) fr)) p.2∈bo (b0++new) us:=by rw [JY];exact List.mem_map_of_mem (f:=fun p=>bx (a1 (bm (b0++new) fr)) p.2) aB
  rw [mi] at hm
  obtain ⟨v,bc,ax⟩:=List.mem_map.1 hm
  rw [←ax];exact D4 (List.all_eq_true.1 pE v bc)
 have fU:∀p∈parts.toList,(ca.eval p.2).cells.size=1∧aF wd lim ((ca.eval p.2).cells.getD 0 undef) (bx (a1 (bm (b0++new) fr)) p.2) []:=fun p aB=>by
  obtain ⟨cX,cI⟩:=IG (ES p aB)
  have:=rS (xI p aB) cX
  rw [cI] at this
  exact ⟨this.1,this.2 0 (by simp)⟩
 have pz:∀v∈(parts.toList.map fun p=>ca.eval p.2),v.cells.size=1:=fun v bc=>by
  obtain ⟨p,aB,rfl⟩:=List.mem_map.1 bc;exact (fU p aB).1
 have xd:(parts.map fun (i,x)=>(i,ca.eval x)).toList=(((parts.toList.map fun p=>ca.eval p.2)).zipIdx 0).map fun x=>(x.2,x.1):=by
  have I:(parts.toList.map fun p=>(p.1,ca.eval p.2)).map (·.1)=List.range (parts.toList.map fun p=>(p.1,ca.eval p.2)).length:=by
   simp only [List.map_map,List.length_map,hlen]
   exact zB
  have J:=G6 _ I
  simp only [List.map_map] at J
  have e:(parts.map fun (i,x)=>(i,ca.eval x)).toList=parts.toList.map fun p=>(p.1,ca.eval p.2):=by simp
  rw [e];exact J
 have xe:=Great.fill_whole (s:=i.size) (by omega) (parts.toList.map fun p=>ca.eval p.2) ((Array.range (n*i.size)).map (z.cells[· %z.cells.size]!)) (fun v bc=>by rw [xv];exact pz v bc) (by simp [hlen])
 rw [←xd] at xe
 have fN:=run_buildSlice (P:=P) wd t e n (parts.map fun (i,x)=>(i,ca.eval x)) _ i z hu ab lj (by rw [xv];omega) (by rw [xv];omega) xe
 obtain ⟨s1,s2⟩:=st.zg ((parts.toList.map fun p=>ca.eval p.2).flatMap fun v=>v.cells.toList).toArray e (bo (b0++new) us) (by rw [List.size_toArray,JW _ pz,List.length_map,hlen,kW,EU]) (fun k aj=>by
  rw [kW,EU] at aj
  have mK:k<parts.toList.length:=by omega
  have a8:=JX (parts.toList.map fun p=>ca.eval p.2) k (ca.eval parts.toList[k].2) pz (by rw [List.getElem?_map,List.getElem?_eq_getElem mK];rfl)
  have ax:((parts.toList.map fun p=>ca.eval p.2).flatMap fun v=>v.cells.toList).toArray.getD k undef=(ca.eval parts.toList[k].2).cells.getD 0 undef:=by
   rw [Array.getD_eq_getD_getElem?,List.getElem?_toArray,a8];rfl
  have aI:(bo (b0++new) us).getD k .aP=bx (a1 (bm (b0++new) fr)) parts.toList[k].2:=by
   rw [JY,List.getD_eq_getElem?_getD,List.getElem?_map,List.getElem?_eq_getElem mK];rfl
  rw [ax,aI];exact (fU _ (List.getElem_mem mK)).2)
 rw [hv] at h
 obtain ⟨dQ,aI⟩:=vm g (by rw [g.len];exact al.1.2) s1 (.cells us)
 have cR:bm ((b0++new)++[wd.heap.size]) fr=bm (b0++new) fr:=vl (by rw [g.len];exact al.1.1)
 have aj:=U _ _ _ ((b0++new)++[wd.heap.size]) (by rw [List.append_assoc];exact List.prefix_append _ _) dQ h
 have kB:bo ((b0++new)++[wd.heap.size]) us=bo (b0++new) us:=Dv (by rw [g.len];exact al.2)
 rw [aI] at aj
 simp only [bm,den,er,cR,kB] at aj
 rw [show ((b0++new)++[wd.heap.size]).getD L.length 0=wd.heap.size by rw [←g.len,List.getD_eq_getElem?_getD,List.getElem?_concat_length];rfl] at aj
 refine nk (v:= .slice (some ⟨wd.heap.size,0,none⟩) n n) ?_ (yA lim _ _ _ _ aj (s2.dR (d:=some d) (fun t ao=>iJ cO ao) (.ms _ _ _ (Nat.le_refl _) (by simp only [maxLen];omega))) (th st _))
 simp only [execOp,Sem.run_bind]
 rw [fN];rfl⟩
def EW:List a6→Nat→(Nat→a6→Prop)→Prop
 |[],_,_=>True
 |v::r,n,k=>k n v∧EW r (n+1) k
theorem JZ:∀{us:List a6} {n j:Nat} {v:a6} {k:Nat→a6→Prop},EW us n k→us[j]?=some v→k (n+j) v
 |[],_,_,_,_,_,h=>by simp at h
 |u::r,n,0,v,k,h,bc=>by obtain rfl:=Option.some.inj bc;exact h.1
 |u::r,n,j+1,v,k,h,bc=>by
  have:=JZ (us:=r) (n:=n+1) (j:=j) h.2 bc
  rw [show n+(j+1)=n+1+j by omega];exact this
theorem TJ (aJ:fm P T=true) {i d t:Nat} {ji:Int} {x:Operand} {us:List a6} (aB:eX fr x fun p=>p= .hY i ji 1 0) (ab:nth L i=some (.cells us)) (ao:du T t fun dZ=>dZ.k.ij=false) (aq:0≤ji∧ji<us.length) (pE:us.all JV=true)
 (h:EW us 0 fun j v=>ji=(j:Int)→K ((d,v)::fr) L m):ik P b0 (some d) (.load t x) fr L m K:=⟨fun new g n ops ty pos af l mf cO aL U=>by
 obtain ⟨dZ,cN,vM⟩:=et aJ ao
 obtain ⟨v,rfl,e⟩:=e5 (b0++new) aB
 rw [j2] at ab
 have hm:=mO g ab
 simp only [er] at hm
 have aj:ji.toNat<us.length:=by omega
 have bc:=List.getElem?_eq_getElem aj
 have aY:(bo (b0++new) us).getD ji.toNat .aP=den (b0++new) us[ji.toNat]:=(sd (by rw [j2];exact bc)).1
 have p8:=TD (bs:=b0++new) (List.all_eq_true.1 pE _ (List.getElem_mem aj))
 refine bQ.val (stl:=[]) (ss:=[]) (side:=jA P t (bo (b0++new) us) ji.toNat) (m':=bK (b0++new) L m) (x:=(apart P t (bo (b0++new) us) ji.toNat).plain) cO aL ?_ ?_ ?_
 · have cR:bx (a1 (bm (b0++new) fr)) x= .ptr ⟨(b0++new).getD i 0,ji.toNat,none⟩:=by
    rw [←e];simp only [den];rw [show 0+ji.toNat*1+0=ji.toNat by omega]
   simp only [eo,D7,Bool.false_eq_true,if_false,bw,cR,hm]
 · refine ⟨cN.is,?_⟩
   rw [cN.tB.trans vM];simp only [Bool.false_eq_true,if_false];rw [kW];exact aj
 · have:=U _ _ _ (b0++new) (List.prefix_append _ _) g (by have:=JZ h bc;rw [Nat.zero_add] at this;exact this (by omega))
   simp only [bm] at this
   simp only [Fr.strip,dR,apart,cN.tB.trans vM,Bool.false_eq_true,if_false,aY,p8]
   exact this⟩
theorem TK {c:gl} {ops:Array Oper} {id:Nat} {kn:cr} {A:Prop} (aJ:fm c.P c.T=true) (bO:List Nat) (aB:ops.toList.all ra=true) (h:q8 c ops.toList bO ops.toList fr L m kn):qq A (AI c id ops false kn fr L m):=⟨.inr ⟨fun new g n Q aj gI=>by
 have cO:∀o∈ops.toList,eQ n o=true∧gv n o=true∧ra o=true:=fun o av=>by
  have I:=aj
  simp only [iL,Bool.and_eq_true,List.all_eq_true] at I
  rw [List.all_eq_true] at aB
  exact ⟨(I.1 o av).1,(I.1 o av).2,aB o av⟩
 refine IT aj (tN aJ rfl _ cO g h fun bb bJ m' eu dQ aj=>gI bb bJ m' _ (List.prefix_append _ _) dQ aj)⟩⟩
end
end Go.bS
end
section
namespace Go.Proofs
open Go Go.bh
theorem Tryz.mixed:Tryz.prog.follows .mixedOrders=true:=by kernel_rfl
end Go.Proofs
end
section
namespace Go.Proofs
open Go Go.RowKit
theorem TL {P:Program} {ops:Array Oper} {rest:List Oper} {o:Oper} {a:Act} {w:World} {Q:Exit→Act→World→Prop} (gi:o.guard=none) (bO x:Operand) (t u:TypeId)
 (av:o.op= .call {callee:= .builtin .append,args:=#[bO,x],argTypes:=#[t,u]}) (v y:Value) (al:a.eval bO=v) (ah:a.eval x=y) (fX:Value) (w':World) (au:(Builtin.append_ #[t,u] o.type #[v,y]).run P w= .ok fX w')
 (h:wpList P ops Q rest (a.put o.dst fX) w'):wpList P ops Q (o::rest) a w:=by
 refine wpList_plain gi fun K U=>?_
 unfold Oper.wp execOp
 simp only [av,resolve,invoke,builtin,Sem.run_bind,Sem.run_pure,Result.andThen_ok,List.map_toArray,List.map_cons,List.map_nil,al,ah,au]
 exact U _ _ h
set_option maxHeartbeats 1000000 in
set_option maxRecDepth 100000 in
theorem Tryz.TM (b:Nat) (w:World) (aq:w.cell? ⟨b,0,none⟩=some (.pointer (some ⟨b,0,none⟩))):
 Calls Tryz.prog 147 #[.pointer (some ⟨b,0,none⟩)] w fun e w'=>e= .returned (.tuple #[])∧w'=w:=by
 obtain ⟨j,ay,ql⟩:∃j,Tryz.prog.info? 112=some j∧j.size=2:=⟨_,rfl,rfl⟩
 go_enter Tryz.func147,Tryz.ntmps147
 go_wp2
 rw [Lib.run_neq_ptr_same (tp:=109) (te:=112) w _ Tryz.underlying109 ay]
 go_wp2
 go_end0
 exact ⟨rfl,rfl⟩
set_option maxHeartbeats 1000000 in
set_option maxRecDepth 100000 in
theorem Tryz.TN (b:Nat) (w:World) (aq:w.cell? ⟨b,0,none⟩=some (.pointer none)) (vN:w.shape? b=some (112,2)) (Hw:w.frozen? ⟨b,0,none⟩=false):
 Calls Tryz.prog 147 #[.pointer (some ⟨b,0,none⟩)] w fun e w'=>e= .returned (.tuple #[])∧w'=w.setCell ⟨b,0,none⟩ (.pointer (some ⟨b,0,none⟩)):=by
 obtain ⟨j,ay,ql⟩:∃j,Tryz.prog.info? 112=some j∧j.size=2:=⟨_,rfl,rfl⟩
 have hu:Tryz.prog.underlying 259=some .unsafePointer:=by kernel_rfl
 go_enter Tryz.func147,Tryz.ntmps147
 go_wp2
 rw [Lib.run_to_unsafe w ⟨b,0,none⟩ Tryz.underlying109 hu ay (by rw [ql];decide) vN (Nat.zero_lt_succ 1)]
 simp only [Result.andThen]
 rw [Oper.upon_value]
 go_wp2
 rw [run_callFunc_extern Tryz.func195 (by kernel_rfl) (by kernel_rfl) (by kernel_rfl) (e:=Extern.AbiNoEscape.same) (by kernel_rfl)]
 rw [Lib.run_noEscape]
 simp only [Result.andThen]
 rw [Oper.upon_value]
 go_wp2
 rw [Lib.run_from_unsafe w ⟨b,0,none⟩ hu Tryz.underlying109 ay vN (by kernel_rfl)]
 simp only [Result.andThen]
 rw [Oper.upon_value]
 go_wp2
 go_end0
 exact ⟨rfl,rfl⟩
set_option maxHeartbeats 2000000 in
set_option maxRecDepth 100000 in
theorem Tryz.TO (b:Nat) (s:ByteArray) (w cH dO:World) (p:Value) (a:Option Addr) (n c:Nat) (cw:Option Addr) (qv hs:Nat) (ae:w.heap[b]?=some (.cells #[p, .slice a n c] 112 (0,0)))
 (aB:(p= .pointer none∧cH=w.setCell ⟨b,0,none⟩ (.pointer (some ⟨b,0,none⟩)))∨(p= .pointer (some ⟨b,0,none⟩)∧cH=w))
 (ck:(Builtin.append_ #[110,9] 110 #[.slice a n c, .string s]).run Tryz.prog cH= .ok (.slice cw qv hs) dO) (J:dO.heap[b]?=some (.cells #[.pointer (some ⟨b,0,none⟩), .slice a n c] 112 (0,0))):
 Calls Tryz.prog 80 #[.pointer (some ⟨b,0,none⟩), .string s] w fun e w'=>e= .returned (.tuple #[.int .i64 s.size, .nilIface])∧w'=dO.setCell ⟨b,1,none⟩ (.slice cw qv hs):=by
 have vL:Calls Tryz.prog 147 #[.pointer (some ⟨b,0,none⟩)] w fun e w'=>e= .returned (.tuple #[])∧w'=cH:=by
  rcases aB with ⟨rfl,rfl⟩|⟨rfl,rfl⟩
  · exact Tryz.TN b w (by rw [Lib.cell_of_heap ae];rfl) (by simp [World.shape?,ae]) (Lib.frozen_of_heap ae 0)
  · exact Tryz.TM b cH (by rw [Lib.cell_of_heap ae];rfl)
 have iO:cH.heap[b]?=some (.cells #[.pointer (some ⟨b,0,none⟩), .slice a n c] 112 (0,0)):=by
  rcases aB with ⟨rfl,rfl⟩|⟨rfl,rfl⟩
  · rw [heap_setCell_same _ b 0 _ 112 _ ae];rfl
  · exact ae
 go_enter Tryz.func80,Tryz.ntmps80
 go_wp2_with (go_at_call 147;refine vL.mono ?_)
 rintro e W ⟨rfl,rfl⟩
 have fH:W.cell? ⟨b,1,none⟩=some (.slice a n c):=by rw [Lib.cell_of_heap iO];rfl
 have d1:dO.cell? ⟨b,1,none⟩=some (.slice a n c):=by rw [Lib.cell_of_heap J];rfl
 have f1:dO.frozen? ⟨b,1,none⟩=false:=Lib.frozen_of_heap J 1
 go_wp2_with (at_builtin;refine TL rfl _ _ 110 9 rfl _ _ rfl rfl _ _ ck ?_)
 go_wp2
 go_ret2
 exact ⟨rfl,rfl⟩
set_option maxHeartbeats 2000000 in
set_option maxRecDepth 100000 in
theorem Tryz.TP (b g c:Nat) (p:Value) (cur:Array Value) (l:List UInt8) (w:World) (aq:l≠[]) (uF:c≠0) (TQ:l.length≤9223372036854775807) (ae:w.heap[b]?=some (.cells #[p, .slice (some ⟨g,0,none⟩) l.length c] 112 (0,0)))
 (a8:w.heap[g]?=some (.cells cur 5 (0,0))) (aL:l.length≤cur.size) (ag:∀j x,l[j]?=some x→w.cell? ⟨g,j,none⟩=some (.int .u8 x.toNat)):
 Calls Tryz.prog 58 #[.pointer (some ⟨b,0,none⟩)] w fun e w'=>e= .returned (.string ⟨l.toArray⟩)∧w'=w.drew.freeze ⟨g,0,none⟩ l.length:=by
 have fH:w.drew.cell? ⟨b,1,none⟩=some (.slice (some ⟨g,0,none⟩) l.length c):=by
  have:w.drew.heap[b]?=some (.cells #[p, .slice (some ⟨g,0,none⟩) l.length c] 112 (0,0)):=ae
  rw [Lib.cell_of_heap this];rfl
 have TR:(Builtin.unsafeSliceData_ #[110] 205 #[.slice (some ⟨g,0,none⟩) l.length c]).run Tryz.prog w.drew= .ok (.pointer (some ⟨g,0,none⟩)) w.drew:=
  Lib.run_unsafeSliceData_row _ _ _ _ _ _ uF
 have TS:(Builtin.unsafeString_ #[205,3] 9 #[.pointer (some ⟨g,0,none⟩), .int .i64 l.length]).run Tryz.prog w.drew= .ok (.string ⟨l.toArray⟩) (w.drew.freeze ⟨g,0,none⟩ l.length):=by
  refine Lib.run_unsafeString_row w.drew 205 3 9 5 Tryz.underlying205 (by kernel_rfl) g cur.size (by have zK:w.drew.heap[g]?=some (.cells cur 5 (0,0)):=a8;simp [World.shape?,zK]) l aq aL TQ ?_
  intro j x ah
  rw [Addr.add_lit,Nat.zero_add]
  exact ag j x ah
 go_enter Tryz.func58,Tryz.ntmps58
 go_wp2
 go_region
 all_goals (go_wp2;go_ret;exact ⟨rfl,rfl⟩)
set_option maxHeartbeats 2000000 in
set_option maxRecDepth 100000 in
theorem Tryz.TT (b:Nat) (p:Value) (w:World) (ae:w.heap[b]?=some (.cells #[p, .slice none 0 0] 112 (0,0))):
 Calls Tryz.prog 58 #[.pointer (some ⟨b,0,none⟩)] w fun e w'=>e= .returned (.string ⟨#[]⟩)∧w'=w.drew:=by
 have fH:w.drew.cell? ⟨b,1,none⟩=some (.slice none 0 0):=by
  have:w.drew.heap[b]?=some (.cells #[p, .slice none 0 0] 112 (0,0)):=ae
  rw [Lib.cell_of_heap this];rfl
 have TR:(Builtin.unsafeSliceData_ #[110] 205 #[.slice none 0 0]).run Tryz.prog w.drew= .ok (.pointer none) w.drew:=Lib.run_unsafeSliceData_nil _ _ _ _ _
 have TS:(Builtin.unsafeString_ #[205,3] 9 #[.pointer none, .int .i64 0]).run Tryz.prog w.drew= .ok (.string .empty) w.drew:=Lib.run_unsafeString_none w.drew _ _ _ none
 go_enter Tryz.func58,Tryz.ntmps58
 go_wp2
 go_region
 all_goals (go_wp2;go_ret;exact ⟨rfl,rfl⟩)
end Go.Proofs
end
section
namespace Go.Proofs
open Go.Shelf
def Tryz.TU:Go.Shelf.Ren:=⟨fun|137=>175|217=>213|266=>232|n=>n,fun|9=>9|5=>5|3=>3|n=>n,fun|n=>n⟩
theorem Tryz.TV:Go.Proofs.Lays.n137 Tryz.prog Tryz.TU:={
 mixed:=by kernel_rfl
 f137:=Tryz.func175.trans (congrArg some (by kernel_rfl))
 f217:=Tryz.func213.trans (congrArg some (by kernel_rfl))
 f266:=Tryz.func232.trans (congrArg some (by kernel_rfl))
 t3:=Tryz.underlying3
 a3:=Tryz.isAgg3
 z3:=Tryz.sizeOf3
 v3:=Tryz.zeroValue3
 t5:=Tryz.underlying5
 a5:=Tryz.isAgg5
 z5:=Tryz.sizeOf5
 v5:=Tryz.zeroValue5
 t9:=Tryz.underlying9
 a9:=Tryz.isAgg9
 z9:=Tryz.sizeOf9
 v9:=Tryz.zeroValue9}
open Go.RowKit in
theorem Tryz.strings_IndexByte (s:ByteArray) (c:Int) (w:World):
 Calls Tryz.prog 175 #[.string s, .int .u8 c] w fun e w'=>e= .returned (.int .i64 (Lib.indexByte s.data.toList c.toNat.toUInt8))∧w'=w:=Any.strings_IndexByte Tryz.TV s c w
def Tryz.TW:Go.Shelf.Ren:=⟨fun|172=>170|244=>210|245=>211|247=>227|279=>228|280=>229|281=>230|282=>231|287=>239|316=>240|171=>86|205=>241|321=>243|322=>244|243=>157|246=>199|283=>200|284=>201|285=>202|286=>203|129=>219|317=>218|318=>220|319=>221|320=>222|337=>233|338=>234|n=>n,fun|9=>9|3=>3|75=>34|76=>159|4=>4|5=>5|167=>287|37=>110|0=>0|85=>288|2=>2|168=>290|53=>173|175=>294|46=>246|210=>297|127=>205|145=>308|143=>306|21=>21|171=>263|173=>266|212=>281|51=>268|20=>20|213=>282|232=>299|233=>300|80=>114|n=>n,fun|15=>2|16=>3|17=>1|18=>4|19=>5|n=>n⟩
theorem Tryz.TX:Go.Proofs.Lays.n172 Tryz.prog Tryz.TW:={
 mixed:=by kernel_rfl
 f129:=Tryz.func219.trans (congrArg some (by kernel_rfl))
 f171:=Tryz.func86.trans (congrArg some (by kernel_rfl))
 f172:=Tryz.func170.trans (congrArg some (by kernel_rfl))
 f205:=Tryz.func241.trans (congrArg some (by kernel_rfl))
 f243:=Tryz.func157.trans (congrArg some (by kernel_rfl))
 f244:=Tryz.func210.trans (congrArg some (by kernel_rfl))
 f245:=Tryz.func211.trans (congrArg some (by kernel_rfl))
 f246:=Tryz.func199.trans (congrArg some (by kernel_rfl))
 f247:=Tryz.func227.trans (congrArg some (by kernel_rfl))
 f279:=Tryz.func228.trans (congrArg some (by kernel_rfl))
 f280:=Tryz.func229.trans (congrArg some (by kernel_rfl))
 f281:=Tryz.func230.trans (congrArg some (by kernel_rfl))
 f282:=Tryz.func231.trans (congrArg some (by kernel_rfl))
 f283:=Tryz.func200.trans (congrArg some (by kernel_rfl))
 f284:=Tryz.func201.trans (congrArg some (by kernel_rfl))
 f285:=Tryz.func202.trans (congrArg some (by kernel_rfl))
 f286:=Tryz.func203.trans (congrArg some (by kernel_rfl))
 f287:=Tryz.func239.trans (congrArg some (by kernel_rfl))
 f316:=Tryz.func240.trans (congrArg some (by kernel_rfl))
 f317:=Tryz.func218.trans (congrArg some (by kernel_rfl))
 f318:=Tryz.func220.trans (congrArg some (by kernel_rfl))
 f319:=Tryz.func221.trans (congrArg some (by kernel_rfl))
 f320:=Tryz.func222.trans (congrArg some (by kernel_rfl))
 f321:=Tryz.func243.trans (congrArg some (by kernel_rfl))
 f322:=Tryz.func244.trans (congrArg some (by kernel_rfl))
 f337:=Tryz.func233.trans (congrArg some (by kernel_rfl))
 f338:=Tryz.func234.trans (congrArg some (by kernel_rfl))
 t0:=Tryz.underlying0
 a0:=Tryz.isAgg0
 z0:=Tryz.sizeOf0
 v0:=Tryz.zeroValue0
 t2:=Tryz.underlying2
 a2:=Tryz.isAgg2
 z2:=Tryz.sizeOf2
 v2:=Tryz.zeroValue2
 t3:=Tryz.underlying3
 a3:=Tryz.isAgg3
 z3:=Tryz.sizeOf3
 v3:=Tryz.zeroValue3
 t4:=Tryz.underlying4
 a4:=Tryz.isAgg4
 z4:=Tryz.sizeOf4
 v4:=Tryz.zeroValue4
 t5:=Tryz.underlying5
 a5:=Tryz.isAgg5
 z5:=Tryz.sizeOf5
 v5:=Tryz.zeroValue5
 t9:=Tryz.underlying9
 a9:=Tryz.isAgg9
 z9:=Tryz.sizeOf9
 v9:=Tryz.zeroValue9
 t20:=Tryz.underlying20
 a20:=Tryz.isAgg20
 z20:=Tryz.sizeOf20
 v20:=Tryz.zeroValue20
 t21:=Tryz.underlying21
 a21:=Tryz.isAgg21
 z21:=Tryz.sizeOf21
 v21:=Tryz.zeroValue21
 t37:=Tryz.underlying110
 a37:=Tryz.isAgg110
 z37:=Tryz.sizeOf110
 v37:=Tryz.zeroValue110
 t46:=Tryz.underlying246
 a46:=Tryz.isAgg246
 z46:=Tryz.sizeOf246
 v46:=Tryz.zeroValue246
 t51:=Tryz.underlying268
 a51:=Tryz.isAgg268
 z51:=Tryz.sizeOf268
 v51:=Tryz.zeroValue268
 t53:=Tryz.underlying173
 a53:=Tryz.isAgg173
 z53:=Tryz.sizeOf173
 v53:=Tryz.zeroValue173
 t75:=Tryz.underlying34
 a75:=Tryz.isAgg34
 z75:=Tryz.sizeOf34
 v75:=Tryz.zeroValue34
 t76:=Tryz.underlying159
 a76:=Tryz.isAgg159
 z76:=Tryz.sizeOf159
 v76:=Tryz.zeroValue159
 t85:=Tryz.underlying288
 a85:=Tryz.isAgg288
 z85:=Tryz.sizeOf288
 v85:=Tryz.zeroValue288
 t127:=Tryz.underlying205
 a127:=Tryz.isAgg205
 z127:=Tryz.sizeOf205
 v127:=Tryz.zeroValue205
 t143:=Tryz.underlying306
 a143:=Tryz.isAgg306
 z143:=Tryz.sizeOf306
 v143:=Tryz.zeroValue306
 t145:=Tryz.underlying308
 a145:=Tryz.isAgg308
 z145:=Tryz.sizeOf308
 v145:=Tryz.zeroValue308
 t167:=Tryz.underlying287
 a167:=Tryz.isAgg287
 z167:=Tryz.sizeOf287
 v167:=Tryz.zeroValue287
 t168:=Tryz.underlying290
 a168:=Tryz.isAgg290
 z168:=Tryz.sizeOf290
 v168:=Tryz.zeroValue290
 t171:=Tryz.underlying263
 a171:=Tryz.isAgg263
 z171:=Tryz.sizeOf263
 v171:=Tryz.zeroValue263
 t173:=Tryz.underlying266
 a173:=Tryz.isAgg266
 z173:=Tryz.sizeOf266
 v173:=Tryz.zeroValue266
 t175:=Tryz.underlying294
 a175:=Tryz.isAgg294
 z175:=Tryz.sizeOf294
 v175:=Tryz.zeroValue294
 t210:=Tryz.underlying297
 a210:=Tryz.isAgg297
 z210:=Tryz.sizeOf297
 v210:=Tryz.zeroValue297
 t212:=Tryz.underlying281
 a212:=Tryz.isAgg281
 z212:=Tryz.sizeOf281
 v212:=Tryz.zeroValue281
 t213:=Tryz.underlying282
 a213:=Tryz.isAgg282
 z213:=Tryz.sizeOf282
 t232:=Tryz.underlying299
 a232:=Tryz.isAgg299
 z232:=Tryz.sizeOf299
 v232:=Tryz.zeroValue299
 t233:=Tryz.underlying300
 a233:=Tryz.isAgg300
 z233:=Tryz.sizeOf300
 v233:=Tryz.zeroValue300
 g15:=by kernel_rfl
 g16:=by kernel_rfl
 g17:=by kernel_rfl
 g18:=by kernel_rfl
 g19:=by kernel_rfl}
open Go.RowKit in
theorem Tryz.strconv_Atoi (s:ByteArray) (n:Int) (ar:s.size≤18) (h:Lib.atoi s.data.toList=some n) (w:World):
 Calls Tryz.prog 170 #[.string s] w fun e w'=>e= .returned (.tuple #[.int .i64 n, .nilIface])∧∃t,w'=Lib.bytesWorld w 5 t:=Any.strconv_Atoi Tryz.TX s n ar h w
def Tryz.TY:Go.Shelf.Ren:=⟨fun|171=>86|243=>157|246=>199|283=>200|284=>201|285=>202|286=>203|129=>219|317=>218|318=>220|319=>221|320=>222|337=>233|338=>234|n=>n,fun|3=>3|9=>9|2=>2|4=>4|171=>263|0=>0|53=>173|37=>110|5=>5|173=>266|212=>281|51=>268|20=>20|213=>282|46=>246|232=>299|233=>300|n=>n,fun|17=>1|18=>4|19=>5|n=>n⟩
theorem Tryz.yD:Go.Proofs.LaysM.n171 Tryz.prog Tryz.TY:={
 mixed:=by kernel_rfl
 f129:=Tryz.func219.trans (congrArg some (by kernel_rfl))
 f171:=Tryz.func86.trans (congrArg some (by kernel_rfl))
 f243:=Tryz.func157.trans (congrArg some (by kernel_rfl))
 f246:=Tryz.func199.trans (congrArg some (by kernel_rfl))
 f283:=Tryz.func200.trans (congrArg some (by kernel_rfl))
 f284:=Tryz.func201.trans (congrArg some (by kernel_rfl))
 f285:=Tryz.func202.trans (congrArg some (by kernel_rfl))
 f286:=Tryz.func203.trans (congrArg some (by kernel_rfl))
 f317:=Tryz.func218.trans (congrArg some (by kernel_rfl))
 f318:=Tryz.func220.trans (congrArg some (by kernel_rfl))
 f319:=Tryz.func221.trans (congrArg some (by kernel_rfl))
 f320:=Tryz.func222.trans (congrArg some (by kernel_rfl))
 f337:=Tryz.func233.trans (congrArg some (by kernel_rfl))
 f338:=Tryz.func234.trans (congrArg some (by kernel_rfl))
 t0:=Tryz.underlying0
 a0:=Tryz.isAgg0
 z0:=Tryz.sizeOf0
 v0:=Tryz.zeroValue0
 t2:=Tryz.underlying2
 a2:=Tryz.isAgg2
 z2:=Tryz.sizeOf2
 v2:=Tryz.zeroValue2
 t3:=Tryz.underlying3
 a3:=Tryz.isAgg3
 z3:=Tryz.sizeOf3
 v3:=Tryz.zeroValue3
 t4:=Tryz.underlying4
 a4:=Tryz.isAgg4
 z4:=Tryz.sizeOf4
 v4:=Tryz.zeroValue4
 t5:=Tryz.underlying5
 a5:=Tryz.isAgg5
 z5:=Tryz.sizeOf5
 v5:=Tryz.zeroValue5
 t9:=Tryz.underlying9
 a9:=Tryz.isAgg9
 z9:=Tryz.sizeOf9
 v9:=Tryz.zeroValue9
 t20:=Tryz.underlying20
 a20:=Tryz.isAgg20
 z20:=Tryz.sizeOf20
 v20:=Tryz.zeroValue20
 t37:=Tryz.underlying110
 a37:=Tryz.isAgg110
 z37:=Tryz.sizeOf110
 v37:=Tryz.zeroValue110
 t46:=Tryz.underlying246
 a46:=Tryz.isAgg246
 z46:=Tryz.sizeOf246
 v46:=Tryz.zeroValue246
 t51:=Tryz.underlying268
 a51:=Tryz.isAgg268
 z51:=Tryz.sizeOf268
 v51:=Tryz.zeroValue268
 t53:=Tryz.underlying173
 a53:=Tryz.isAgg173
 z53:=Tryz.sizeOf173
 v53:=Tryz.zeroValue173
 t171:=Tryz.underlying263
 a171:=Tryz.isAgg263
 z171:=Tryz.sizeOf263
 v171:=Tryz.zeroValue263
 t173:=Tryz.underlying266
 a173:=Tryz.isAgg266
 z173:=Tryz.sizeOf266
 v173:=Tryz.zeroValue266
 t212:=Tryz.underlying281
 a212:=Tryz.isAgg281
 z212:=Tryz.sizeOf281
 v212:=Tryz.zeroValue281
 t213:=Tryz.underlying282
 a213:=Tryz.isAgg282
 z213:=Tryz.sizeOf282
 t232:=Tryz.underlying299
 a232:=Tryz.isAgg299
 z232:=Tryz.sizeOf299
 v232:=Tryz.zeroValue299
 t233:=Tryz.underlying300
 a233:=Tryz.isAgg300
 z233:=Tryz.sizeOf300
 v233:=Tryz.zeroValue300
 g17:=by kernel_rfl
 g18:=by kernel_rfl
 g19:=by kernel_rfl
 i0:=by kernel_rfl
 i2:=by kernel_rfl
 i3:=by kernel_rfl
 i4:=by kernel_rfl
 i5:=by kernel_rfl
 i9:=by kernel_rfl
 i20:=by kernel_rfl
 i37:=by kernel_rfl
 i46:=by kernel_rfl
 i51:=by kernel_rfl
 i53:=by kernel_rfl
 i171:=by kernel_rfl
 i173:=by kernel_rfl
 i212:=by kernel_rfl
 i232:=by kernel_rfl
 i233:=by kernel_rfl
 m17:=by kernel_rfl
 m18:=by kernel_rfl
 m19:=by kernel_rfl}
open Go.RowKit Go.Sort Go.Lib in
theorem Tryz.strconv_Itoa (n:Int) (aq:-9223372036854775808≤n) (I:n≤9223372036854775807) (w:World) (rf:Lib.TabIs Tryz.prog w "internal/strconv.uint64pow10" .u64 Lib.pow10Tab):
 Calls Tryz.prog 86 #[.int .i64 n] w fun e w'=>e= .returned (.string ⟨(Lib.itoa n).toArray⟩)∧∃k os,w'=grow (w.drewN k) os:=Any.strconv_Itoa Tryz.yD n aq I w rf
def Tryz.TZ:Go.Shelf.Ren:=⟨fun|172=>170|244=>210|245=>211|247=>227|279=>228|280=>229|281=>230|282=>231|287=>239|316=>240|171=>86|205=>241|321=>243|322=>244|243=>157|246=>199|283=>200|284=>201|285=>202|286=>203|129=>219|317=>218|318=>220|319=>221|320=>222|337=>233|338=>234|n=>n,fun|9=>9|3=>3|75=>34|76=>159|4=>4|5=>5|167=>287|37=>110|0=>0|85=>288|2=>2|168=>290|53=>173|175=>294|46=>246|210=>297|127=>205|145=>308|143=>306|21=>21|171=>263|173=>266|212=>281|51=>268|20=>20|213=>282|232=>299|233=>300|80=>114|n=>n,fun|15=>2|16=>3|17=>1|18=>4|19=>5|n=>n⟩
theorem Tryz.A7:Go.Proofs.LaysC.n172 Tryz.prog Tryz.TZ:={
 mixed:=by kernel_rfl
 f129:=Tryz.func219.trans (congrArg some (by kernel_rfl))
 f171:=Tryz.func86.trans (congrArg some (by kernel_rfl))
 f172:=Tryz.func170.trans (congrArg some (by kernel_rfl))
 f205:=Tryz.func241.trans (congrArg some (by kernel_rfl))
 f243:=Tryz.func157.trans (congrArg some (by kernel_rfl))
 f244:=Tryz.func210.trans (congrArg some (by kernel_rfl))
 f245:=Tryz.func211.trans (congrArg some (by kernel_rfl))
 f246:=Tryz.func199.trans (congrArg some (by kernel_rfl))
 f247:=Tryz.func227.trans (congrArg some (by kernel_rfl))
 f279:=Tryz.func228.trans (congrArg some (by kernel_rfl))
 f280:=Tryz.func229.trans (congrArg some (by kernel_rfl))
 f281:=Tryz.func230.trans (congrArg some (by kernel_rfl))
 f282:=Tryz.func231.trans (congrArg some (by kernel_rfl))
 f283:=Tryz.func200.trans (congrArg some (by kernel_rfl))
 f284:=Tryz.func201.trans (congrArg some (by kernel_rfl))
 f285:=Tryz.func202.trans (congrArg some (by kernel_rfl))
 f286:=Tryz.func203.trans (congrArg some (by kernel_rfl))
 f287:=Tryz.func239.trans (congrArg some (by kernel_rfl))
 f316:=Tryz.func240.trans (congrArg some (by kernel_rfl))
 f317:=Tryz.func218.trans (congrArg some (by kernel_rfl))
 f318:=Tryz.func220.trans (congrArg some (by kernel_rfl))
 f319:=Tryz.func221.trans (congrArg some (by kernel_rfl))
 f320:=Tryz.func222.trans (congrArg some (by kernel_rfl))
 f321:=Tryz.func243.trans (congrArg some (by kernel_rfl))
 f322:=Tryz.func244.trans (congrArg some (by kernel_rfl))
 f337:=Tryz.func233.trans (congrArg some (by kernel_rfl))
 f338:=Tryz.func234.trans (congrArg some (by kernel_rfl))
 t0:=Tryz.underlying0
 a0:=Tryz.isAgg0
 z0:=Tryz.sizeOf0
 v0:=Tryz.zeroValue0
 t2:=Tryz.underlying2
 a2:=Tryz.isAgg2
 z2:=Tryz.sizeOf2
 v2:=Tryz.zeroValue2
 t3:=Tryz.underlying3
 a3:=Tryz.isAgg3
 z3:=Tryz.sizeOf3
 v3:=Tryz.zeroValue3
 t4:=Tryz.underlying4
 a4:=Tryz.isAgg4
 z4:=Tryz.sizeOf4
 v4:=Tryz.zeroValue4
 t5:=Tryz.underlying5
 a5:=Tryz.isAgg5
 z5:=Tryz.sizeOf5
 v5:=Tryz.zeroValue5
 t9:=Tryz.underlying9
 a9:=Tryz.isAgg9
 z9:=Tryz.sizeOf9
 v9:=Tryz.zeroValue9
 t20:=Tryz.underlying20
 a20:=Tryz.isAgg20
 z20:=Tryz.sizeOf20
 v20:=Tryz.zeroValue20
 t21:=Tryz.underlying21
 a21:=Tryz.isAgg21
 z21:=Tryz.sizeOf21
 v21:=Tryz.zeroValue21
 t37:=Tryz.underlying110
 a37:=Tryz.isAgg110
 z37:=Tryz.sizeOf110
 v37:=Tryz.zeroValue110
 t46:=Tryz.underlying246
 a46:=Tryz.isAgg246
 z46:=Tryz.sizeOf246
 v46:=Tryz.zeroValue246
 t51:=Tryz.underlying268
 a51:=Tryz.isAgg268
 z51:=Tryz.sizeOf268
 v51:=Tryz.zeroValue268
 t53:=Tryz.underlying173
 a53:=Tryz.isAgg173
 z53:=Tryz.sizeOf173
 v53:=Tryz.zeroValue173
 t75:=Tryz.underlying34
 a75:=Tryz.isAgg34
 z75:=Tryz.sizeOf34
 v75:=Tryz.zeroValue34
 t76:=Tryz.underlying159
 a76:=Tryz.isAgg159
 z76:=Tryz.sizeOf159
 v76:=Tryz.zeroValue159
 t85:=Tryz.underlying288
 a85:=Tryz.isAgg288
 z85:=Tryz.sizeOf288
 v85:=Tryz.zeroValue288
 t127:=Tryz.underlying205
 a127:=Tryz.isAgg205
 z127:=Tryz.sizeOf205
 v127:=Tryz.zeroValue205
 t143:=Tryz.underlying306
 a143:=Tryz.isAgg306
 z143:=Tryz.sizeOf306
 v143:=Tryz.zeroValue306
 t145:=Tryz.underlying308
 a145:=Tryz.isAgg308
 z145:=Tryz.sizeOf308
 v145:=Tryz.zeroValue308
 t167:=Tryz.underlying287
 a167:=Tryz.isAgg287
 z167:=Tryz.sizeOf287
 v167:=Tryz.zeroValue287
 t168:=Tryz.underlying290
 a168:=Tryz.isAgg290
 z168:=Tryz.sizeOf290
 v168:=Tryz.zeroValue290
 t171:=Tryz.underlying263
 a171:=Tryz.isAgg263
 z171:=Tryz.sizeOf263
 v171:=Tryz.zeroValue263
 t173:=Tryz.underlying266
 a173:=Tryz.isAgg266
 z173:=Tryz.sizeOf266
 v173:=Tryz.zeroValue266
 t175:=Tryz.underlying294
 a175:=Tryz.isAgg294
 z175:=Tryz.sizeOf294
 v175:=Tryz.zeroValue294
 t210:=Tryz.underlying297
 a210:=Tryz.isAgg297
 z210:=Tryz.sizeOf297
 v210:=Tryz.zeroValue297
 t212:=Tryz.underlying281
 a212:=Tryz.isAgg281
 z212:=Tryz.sizeOf281
 v212:=Tryz.zeroValue281
 t213:=Tryz.underlying282
 a213:=Tryz.isAgg282
 z213:=Tryz.sizeOf282
 t232:=Tryz.underlying299
 a232:=Tryz.isAgg299
 z232:=Tryz.sizeOf299
 v232:=Tryz.zeroValue299
 t233:=Tryz.underlying300
 a233:=Tryz.isAgg300
 z233:=Tryz.sizeOf300
 v233:=Tryz.zeroValue300
 g15:=by kernel_rfl
 g16:=by kernel_rfl
 g17:=by kernel_rfl
 g18:=by kernel_rfl
 g19:=by kernel_rfl
 t80:=Tryz.underlying114
 a80:=Tryz.isAgg114
 z80:=Tryz.sizeOf114
 v80:=Tryz.zeroValue114
 i0:=by kernel_rfl
 i2:=by kernel_rfl
 i3:=by kernel_rfl
 i4:=by kernel_rfl
 i5:=by kernel_rfl
 i9:=by kernel_rfl
 i20:=by kernel_rfl
 i21:=by kernel_rfl
 i37:=by kernel_rfl
 i46:=by kernel_rfl
 i51:=by kernel_rfl
 i53:=by kernel_rfl
 i75:=by kernel_rfl
 i76:=by kernel_rfl
 i80:=by kernel_rfl
 i85:=by kernel_rfl
 i127:=by kernel_rfl
 i143:=by kernel_rfl
 i145:=by kernel_rfl
 i167:=by kernel_rfl
 i168:=by kernel_rfl
 i171:=by kernel_rfl
 i173:=by kernel_rfl
 i175:=by kernel_rfl
 i210:=by kernel_rfl
 i212:=by kernel_rfl
 i232:=by kernel_rfl
 i233:=by kernel_rfl
 m15:=by kernel_rfl
 m16:=by kernel_rfl
 m17:=by kernel_rfl
 m18:=by kernel_rfl
 m19:=by kernel_rfl
 c0:=by kernel_rfl
 c2:=by kernel_rfl
 c3:=by kernel_rfl
 c4:=by kernel_rfl
 c5:=by kernel_rfl
 c9:=by kernel_rfl
 c20:=by kernel_rfl
 c21:=by kernel_rfl
 c37:=by kernel_rfl
 c46:=by kernel_rfl
 c51:=by kernel_rfl
 c53:=by kernel_rfl
 c75:=by kernel_rfl
 c76:=by kernel_rfl
 c80:=by kernel_rfl
 c85:=by kernel_rfl
 c127:=by kernel_rfl
 c143:=by kernel_rfl
 c145:=by kernel_rfl
 c167:=by kernel_rfl
 c168:=by kernel_rfl
 c171:=by kernel_rfl
 c173:=by kernel_rfl
 c175:=by kernel_rfl
 c210:=by kernel_rfl
 c212:=by kernel_rfl
 c213:=by kernel_rfl
 c232:=by kernel_rfl
 c233:=by kernel_rfl}
open Go.RowKit in
theorem Tryz.strconv_Atoi_err (s:ByteArray) (ar:s.size≤18) (h:Lib.atoi s.data.toList=none) (fq:Value) (w:World) (bc:w.cell? ⟨2,0,none⟩=some fq) (n5:fq= .nilIface∨∃te pW,fq= .iface te pW):
 Calls Tryz.prog 170 #[.string s] w fun e w'=>∃N,e= .returned (.tuple #[.int .i64 0, .iface 290 (.pointer (some ⟨N,0,none⟩))])∧w.heap.size≤N∧w'.heap[N]?=some (.cells #[.string ⟨#[65,116,111,105]⟩, .string s,fq] 297 (0,0))∧Below w.heap.size w w':=Any.strconv_Atoi_err Tryz.A7 s ar h fq w bc n5
def Tryz.T0:Go.Shelf.Ren:=⟨fun|99=>174|206=>212|n=>n,fun|9=>9|4=>4|3=>3|n=>n,fun|n=>n⟩
theorem Tryz.T1:Go.Proofs.Lays.n99 Tryz.prog Tryz.T0:={
 mixed:=by kernel_rfl
 f99:=Tryz.func174.trans (congrArg some (by kernel_rfl))
 f206:=Tryz.func212.trans (congrArg some (by kernel_rfl))
 t3:=Tryz.underlying3
 a3:=Tryz.isAgg3
 z3:=Tryz.sizeOf3
 v3:=Tryz.zeroValue3
 t4:=Tryz.underlying4
 a4:=Tryz.isAgg4
 z4:=Tryz.sizeOf4
 v4:=Tryz.zeroValue4
 t9:=Tryz.underlying9
 a9:=Tryz.isAgg9
 z9:=Tryz.sizeOf9
 v9:=Tryz.zeroValue9}
open Go.RowKit Go.Lib in
theorem Tryz.strings_HasPrefix (s p:ByteArray) (w:World):
 Calls Tryz.prog 174 #[.string s, .string p] w fun e w'=>e= .returned (.bool (Lib.hasPrefix s.data.toList p.data.toList))∧w'=w:=Any.strings_HasPrefix Tryz.T1 s p w
end Go.Proofs
end
section
namespace Go.Proofs
open Go Go.bh Go.bS
def tb:hZ:=[(3,⟨.int .i64,1,8,[.i .i64]⟩),
 (9,⟨.str,1,16,[.s]⟩),
 (25,⟨.st [(0,3),(1,3),(2,9),(3,22),(4,23)],5,80,[.i .i64, .i .i64, .s, .l, .l]⟩),
 (29,⟨.st [(0,3),(1,25),(6,9),(7,9),(8,26),(9,27)],10,168,[.i .i64, .i .i64, .i .i64, .s, .l, .l, .s, .s, .l, .l]⟩),
 (78,⟨.st [(0,3),(1,75),(2,76),(3,23)],4,80,[.i .i64, .l, .l, .l]⟩),
 (62,⟨.st [(0,9),(1,58),(2,59),(3,60)],4,88,[.s, .l, .l, .l]⟩),
 (23,⟨.bO 168,1,24,[.l]⟩),
 (26,⟨.bO 29,1,24,[.l]⟩),
 (27,⟨.bO 9,1,24,[.l]⟩),
 (5,⟨.int .u8,1,1,[.i .u8]⟩),
 (142,⟨.st [(0,9),(1,9),(2,140)],3,56,[.s, .s, .l]⟩),
 (165,⟨.st [(0,9),(1,9),(2,3),(3,25)],8,120,[.s, .s, .i .i64, .i .i64, .i .i64, .s, .l, .l]⟩),
 (22,⟨.bO 25,1,24,[.l]⟩),
 (168,⟨.st [(0,9),(1,25)],6,96,[.s, .i .i64, .i .i64, .s, .l, .l]⟩),
 (60,⟨.bO 145,1,24,[.l]⟩),
 (58,⟨.bO 138,1,24,[.l]⟩),
 (59,⟨.bO 142,1,24,[.l]⟩),
 (47,⟨.bO 62,1,24,[.l]⟩),
 (140,⟨.bO 144,1,24,[.l]⟩),
 (76,⟨.bO 167,1,24,[.l]⟩),
 (110,⟨.bO 5,1,24,[.l]⟩),
 (75,⟨.bO 165,1,24,[.l]⟩),
 (34,⟨.ml,1,16,[.n]⟩),
 (115,⟨.int .i64,1,8,[.i .i64]⟩),
 (51,⟨.st [(0,47),(1,49),(2,49)],3,72,[.l, .l, .l]⟩),
 (49,⟨.bO 136,1,24,[.l]⟩),
 (136,⟨.bO 3,1,24,[.l]⟩),
 (145,⟨.st [(0,9),(1,29)],11,184,[.s, .i .i64, .i .i64, .i .i64, .s, .l, .l, .s, .s, .l, .l]⟩),
 (138,⟨.st [(0,9),(1,25)],6,96,[.s, .i .i64, .i .i64, .s, .l, .l]⟩),
 (167,⟨.st [(0,3),(1,165),(9,9)],10,144,[.i .i64, .s, .s, .i .i64, .i .i64, .i .i64, .s, .l, .l, .s]⟩),
 (144,⟨.st [(0,9),(1,29)],11,184,[.s, .i .i64, .i .i64, .i .i64, .s, .l, .l, .s, .s, .l, .l]⟩),
 (122,⟨.bO 209,1,24,[.l]⟩),
 (127,⟨.st [(0,122),(1,3),(2,3),(3,34),(4,3)],5,64,[.l, .i .i64, .i .i64, .n, .i .i64]⟩),
 (134,⟨.st [(0,122),(1,3),(2,3),(3,3),(4,3)],5,56,[.l, .i .i64, .i .i64, .i .i64, .i .i64]⟩),
 (173,⟨.int .u64,1,8,[.i .u64]⟩),
 (112,⟨.st [(0,109),(1,110)],2,32,[]⟩),
 (202,⟨.st [(0,9),(1,9),(2,9),(3,3)],4,56,[.s, .s, .s, .i .i64]⟩),
 (178,⟨.mp 9 9,1,8,[.m]⟩),
 (84,⟨.ptr,1,8,[.p]⟩),
 (109,⟨.ptr,1,8,[.p]⟩),
 (150,⟨.st [(0,51)],3,72,[.l, .l, .l]⟩),
 (209,⟨.st [(0,3),(1,3),(2,9)],3,32,[.i .i64, .i .i64, .s]⟩),
 (4,⟨.bool,1,1,[.b]⟩),
 (276,⟨.st [(0,49)],1,24,[.l]⟩),
 (185,⟨.bO 184,1,24,[.l]⟩),
 (181,⟨.st [(0,178),(1,178),(2,179),(3,3),(4,4),(5,3)],6,64,[.m, .m, .l, .i .i64, .b, .i .i64]⟩),
 (204,⟨.mp 3 9,1,8,[.m]⟩),
 (184,⟨.It,1,8,[.f]⟩),
 (205,⟨.ptr,1,8,[.p]⟩),
 (179,⟨.bO 202,1,24,[.l]⟩)]
theorem cc:fm Tryz.prog tb=true:=by decide+kernel
end Go.Proofs
end
section
namespace Go.Proofs
open Go Go.bh Go.bS
set_option maxRecDepth 100000
abbrev ak:=List UInt8
noncomputable def cP (w st x8 xs cv bs:List Nat):gl:=⟨Tryz.prog,tb,115,w,st,x8,xs,cv,bs⟩
theorem lP {α:Type} [Inhabited α] {l:List α} {i:Int} (aq:0≤i) (ab:i<l.length):l.take (i+1).toNat=l.take i.toNat++[aa l i]:=by
 have e:(i+1).toNat=i.toNat+1:=by omega
 have aL:i.toNat<l.length:=by omega
 rw [e,List.take_succ_eq_append_getElem aL]
 simp [aa,List.getD_eq_getElem?_getD,aL]
theorem ch {α:Type} [Inhabited α] {l:List α} {i:Int} (aq:0≤i) (ab:i<l.length):aa l i∈l:=by
 simp only [aa,List.getD_eq_getElem?_getD,List.getElem?_eq_getElem (show i.toNat<l.length by omega),Option.getD_some]
 exact List.getElem_mem _
theorem jM {α:Type} {l:List α} {i:Int} (ab:l.length≤i):l.take i.toNat=l:=List.take_of_length_le (by omega)
inductive aR where
 |mk (kind n:Int) (s:ak) (l:List aR) (f:List (ak×aR))
instance:Inhabited aR:=⟨.mk 0 0 [] [] []⟩
def aR.kind:aR→Int| .mk k _ _ _ _=>k
def aR.n:aR→Int| .mk _ n _ _ _=>n
def aR.s:aR→ak| .mk _ _ s _ _=>s
def aR.l:aR→List aR| .mk _ _ _ l _=>l
def aR.f:aR→List (ak×aR)| .mk _ _ _ _ f=>f
mutual
def cm:aR→R
 | .mk k n s l f=> .agg [.int .i64 k, .int .i64 n, .str s, .slice false (yE l), .slice false (yF f)]
def yE:List aR→List R
 |[]=>[]
 |v::r=>cm v::yE r
def yF:List (ak×aR)→List R
 |[]=>[]
 |(s, .mk k n t l f)::r=> .agg [.str s, .int .i64 k, .int .i64 n, .str t, .slice false (yE l), .slice false (yF f)]::yF r
end
def bB (p:ak×aR):R:= .agg (.str p.1::(cm p.2).cells)
theorem T2 (l:List aR):yE l=l.map cm:=by
 induction l with
 |nil=>rfl
 |cons v r aQ=>simp only [yE,List.map_cons,aQ]
theorem T3 (l:List (ak×aR)):yF l=l.map bB:=by
 induction l with
 |nil=>rfl
 |cons v r aQ=>
  obtain ⟨s,v⟩:=v
  cases v with
  |mk k n t l f=>simp only [yF,List.map_cons,aQ,bB,cm,R.cells]
def cG (v:aR):R:= .agg [.int .i64 v.kind, .int .i64 v.n, .str v.s, .slice false (v.l.map cm), .slice false (v.f.map bB)]
def gA (p:ak×aR):R:= .agg [.str p.1, .int .i64 p.2.kind, .int .i64 p.2.n, .str p.2.s, .slice false (p.2.l.map cm), .slice false (p.2.f.map bB)]
theorem jN (v:aR):cm v=cG v:=by
 cases v with
 |mk k n s l f=>simp only [cm,cG,T2,T3,aR.kind,aR.n,aR.s,aR.l,aR.f]
theorem fI (p:ak×aR):bB p=gA p:=by
 rw [bB,jN];rfl
mutual
def mU (eC:Int):aR→Int
 | .mk _ _ s l f=>pX eC f (o7 eC l (1+s.length))
def o7 (eC:Int):List aR→Int→Int
 |[],n=>n
 |v::r,n=>if n≤eC then o7 eC r (IntKind.i64.wrap (n+mU eC v)) else n
def pX (eC:Int):List (ak×aR)→Int→Int
 |[],n=>n
 |(s, .mk _ _ t l f)::r,n=>if n≤eC then pX eC r (IntKind.i64.wrap (IntKind.i64.wrap (n+s.length)+pX eC f (o7 eC l (1+t.length)))) else n
end
theorem T4 (eC:Int) (v:aR):mU eC v=pX eC v.f (o7 eC v.l (1+v.s.length)):=by
 cases v with
 |mk k n s l f=>simp only [mU,aR.f,aR.l,aR.s]
theorem J0 (eC:Int) (p:ak×aR) (r:List (ak×aR)) (n:Int):pX eC (p::r) n=if n≤eC then pX eC r (IntKind.i64.wrap (IntKind.i64.wrap (n+p.1.length)+mU eC p.2)) else n:=by
 obtain ⟨s,v⟩:=p
 cases v with
 |mk k n t l f=>simp only [pX,mU]
theorem T5 (eC:Int) (l:List aR) (n:Int) (h:eC<n):o7 eC l n=n:=by
 cases l with
 |nil=>simp only [o7]
 |cons v r=>simp only [o7];rw [if_neg (by omega)]
theorem T6 (eC:Int) (l:List (ak×aR)) (n:Int) (h:eC<n):pX eC l n=n:=by
 cases l with
 |nil=>simp only [pX]
 |cons v r=>rw [J0,if_neg (by omega)]
theorem lQ {α:Type} [Inhabited α] {l:List α} {i:Int} (aq:0≤i) (ab:i<l.length):l.drop i.toNat=aa l i::l.drop (i+1).toNat:=by
 have h:i.toNat<l.length:=by omega
 have e:(i+1).toNat=i.toNat+1:=by omega
 rw [List.drop_eq_getElem_cons h,e]
 simp [aa,List.getD_eq_getElem?_getD,h]
mutual
def bq:aR→Nat
 | .mk _ _ _ l f=>k4 l+kD f+1
def k4:List aR→Nat
 |[]=>0
 |v::r=>bq v+k4 r
def kD:List (ak×aR)→Nat
 |[]=>0
 |(_, .mk _ _ _ l f)::r=>k4 l+kD f+1+kD r
end
theorem gP {l:List aR} {v:aR} (h:v∈l):bq v≤k4 l:=by
 induction l with
 |nil=>cases h
 |cons a r aQ=>
  simp only [k4]
  rcases List.mem_cons.1 h with rfl|h
  · omega
  · have:=aQ h;omega
theorem gQ {l:List (ak×aR)} {p:ak×aR} (h:p∈l):bq p.2≤kD l:=by
 induction l with
 |nil=>cases h
 |cons a r aQ=>
  obtain ⟨s,v⟩:=a
  cases v with
  |mk k n t l f=>
   simp only [kD]
   rcases List.mem_cons.1 h with rfl|h
   · simp only [bq];omega
   · have:=aQ h;omega
theorem fR (v:aR):bq v=k4 v.l+kD v.f+1:=by
 cases v with
 |mk k n s l f=>simp only [bq,aR.l,aR.f]
set_option maxHeartbeats 4000000 in
theorem T7 (v:aR) (eC:Int) (aQ:∀w:aR,bq w<bq v→∀(m:ad) (K:R→ad→Prop),K (.int .i64 (mU eC w)) m→bn Tryz.prog 71 [cG w, .int .i64 eC] m K) (m:ad) (K:R→ad→Prop) (U:K (.int .i64 (mU eC v)) m):bn Tryz.prog 71 [cG v, .int .i64 eC] m K:=by
 refine enter (c:=cP [32,53,62] [0] [3,7] [] [] []) (vs:=[.aK (cG v), .aK (.int .i64 eC)]) (L:=[]) (m:=m) false cc Tryz.mixed Tryz.func71 rfl (k:=2) (by show cJ [] _ _ _=true;decide+kernel) rfl (Good.nil m) ?_
 refine ⟨fun c6=>?_⟩
 have rj:v.s.length≤140737488355328:=(c6 0 2 (Nat.le_of_ble_eq_true rfl))
 have pY:v.l.length≤140737488355328:=gj (c6 0 3 (Nat.le_of_ble_eq_true rfl))
 have rk:v.f.length≤140737488355328:=gj (c6 0 4 (Nat.le_of_ble_eq_true rfl))
 refine an (by omega) ?_
 refine aZ ?_
 refine ev (σ:=Int×Int) [] [1,2,5,6] 1 (fun ⟨og,i⟩=>([(1,aw eC),(2, .loc 0 0),(5,aw og),(6,aw i)],[.cells [aw v.kind,aw v.n,bf v.s,bj (v.l.map cm),bj (v.f.map bB)]],m)) (fun ⟨og,i⟩=>0≤i∧i≤v.l.length∧o7 eC v.l (1+v.s.length)=o7 eC (v.l.drop i.toNat) og) (fun ⟨og,i⟩=>v.l.length- i.toNat) (1+(v.s.length:Int),0) ⟨rfl,rfl⟩ ?_ ?_
 · try dsimp only
   exact ⟨by omega,by omega,rfl⟩
 rintro ⟨og,i⟩ aM
 dsimp only at aM
 refine aZ ?_
 refine cx [1,2,5,6] 21 ((decide (i<(v.l.length:Int)))&&(decide (og≤eC))) ?_ ?_
 · repeat' first
    |exact ⟨⟨_,rfl,by grind [bM.val]⟩,rfl⟩
    |refine an (fun _=>?_) (fun _=>?_)
    |refine dq ?_
 refine an (fun I=>?_) (fun I=>?_)
 · replace I:(i<(v.l.length:Int))∧(og≤eC):=⟨(of_decide_eq_true (e4 I)),(of_decide_eq_true (fY I))⟩
   refine aZ ?_
   refine e0 cG jN (by omega) ?_
   refine ct (fun _=>aQ (aa v.l i) (by have:=fR v;first|(have:=gP (ch (l:=v.l) (i:=i) aM.1 I.1);omega)|(have:=gQ (ch (l:=v.f) (i:=k) cg.1 J.1);omega))) rfl ?_
   refine an (by omega) ?_
   refine ⟨(IntKind.i64.wrap (og+(mU eC (aa v.l i))),i+1),⟨rfl,rfl⟩,?_,?_⟩
   · try dsimp only
     refine ⟨by omega,by omega,?_⟩
     rw [aM.2.2,lQ aM.1 I.1]
     simp only [o7]
     rw [if_pos I.2]
   try dsimp only
   omega
 replace I:((v.l.length:Int)≤i)∨(eC<og):=((fZ I).imp (fun q=>(Int.not_lt.1 (of_decide_eq_false q))) (fun q=>(Int.not_le.1 (of_decide_eq_false q))))
 refine aZ ?_
 refine ev (σ:=Int×Int) [] [1,2,5,7] 1 (fun ⟨gq,k⟩=>([(1,aw eC),(2, .loc 0 0),(5,aw gq),(7,aw k)],[.cells [aw v.kind,aw v.n,bf v.s,bj (v.l.map cm),bj (v.f.map bB)]],m)) (fun ⟨gq,k⟩=>0≤k∧k≤v.f.length∧mU eC v=pX eC (v.f.drop k.toNat) gq) (fun ⟨gq,k⟩=>v.f.length- k.toNat) (og,0) ⟨rfl,rfl⟩ ?_ ?_
 · try dsimp only
   refine ⟨by omega,by omega,?_⟩
   have e:o7 eC (v.l.drop i.toNat) og=og:=by
    by_cases aL:eC<og
    · exact T5 _ _ _ aL
    · have ab:(v.l.length:Int)≤i:=by
       rcases I with h|h<;>omega
      rw [List.drop_eq_nil_of_le (by omega)];simp only [o7]
   rw [T4,aM.2.2,e];rfl
 rintro ⟨gq,k⟩ cg
 dsimp only at cg
 refine aZ ?_
 refine cx [1,2,5,7] 42 ((decide (k<(v.f.length:Int)))&&(decide (gq≤eC))) ?_ ?_
 · repeat' first
    |exact ⟨⟨_,rfl,by grind [bM.val]⟩,rfl⟩
    |refine an (fun _=>?_) (fun _=>?_)
    |refine dq ?_
 refine an (fun J=>?_) (fun J=>?_)
 · replace J:(k<(v.f.length:Int))∧(gq≤eC):=⟨(of_decide_eq_true (e4 J)),(of_decide_eq_true (fY J))⟩
   refine aZ ?_
   refine e0 gA fI (by omega) ?_
   refine e0 gA fI (by omega) ?_
   refine hx (fun _=>aQ ((aa v.f k).2) (by have:=fR v;first|(have:=gP (ch (l:=v.l) (i:=i) aM.1 I.1);omega)|(have:=gQ (ch (l:=v.f) (i:=k) cg.1 J.1);omega))) ?_
   refine an (by omega) ?_
   refine ⟨(IntKind.i64.wrap ((IntKind.i64.wrap (gq+(((aa v.f k).1).length:Int)))+(mU eC ((aa v.f k).2))),k+1),⟨rfl,rfl⟩,?_,?_⟩
   · try dsimp only
     exact ⟨by omega,by omega,by rw [cg.2.2,lQ cg.1 J.1,J0,if_pos J.2]⟩
   try dsimp only
   omega
 replace J:((v.f.length:Int)≤k)∨(eC<gq):=((fZ J).imp (fun q=>(Int.not_lt.1 (of_decide_eq_false q))) (fun q=>(Int.not_le.1 (of_decide_eq_false q))))
 refine bt rfl fun _=>?_
 show K (.int .i64 gq) m
 have e:mU eC v=gq:=by
  rw [cg.2.2]
  by_cases aL:eC<gq
  · exact T6 _ _ _ aL
  · have ab:(v.f.length:Int)≤k:=by
     rcases J with h|h<;>omega
    rw [List.drop_eq_nil_of_le (by omega)];simp only [pX]
 rw [e] at U;exact U
theorem A8 (eC:Int):∀(n:Nat) (v:aR),bq v<n→∀(m:ad) (K:R→ad→Prop),K (.int .i64 (mU eC v)) m→bn Tryz.prog 71 [cG v, .int .i64 eC] m K
 |0,_,h=>absurd h (Nat.not_lt_zero _)
 |n+1,v,h=>fun m K U=>T7 v eC (fun w hw=>A8 eC n w (by omega)) m K U
end Go.Proofs
end
section
namespace Go.Proofs
open Go Go.bh Go.bS
set_option maxRecDepth 100000
def lR (c:UInt8):Bool:=decide (97≤(c.toNat:Int))&&decide ((c.toNat:Int)≤122)
def lS (c:UInt8):Bool:=decide (48≤(c.toNat:Int))&&decide ((c.toNat:Int)≤57)
def kE:ak→Bool→Bool
 |[],_=>true
 |c::r,first=>(lR c||(!first&&lS c))&&kE r false
def b1 (s:ak):Bool:=kE s true&&!(s==[])&&decide ((s.length:Int)≤12)
theorem vO {s:ak} {i:Int} (aq:0≤i) (ab:i<s.length):kE (s.drop i.toNat) (i==0)=((lR (aa s i)||(!(i==0)&&lS (aa s i)))&&kE (s.drop (i+1).toNat) (i+1==0)):=by
 have e:(i+1==0)=false:=by simp;omega
 rw [lQ aq ab,kE,e]
set_option maxHeartbeats 2000000 in
theorem sA (s:ak) (al:s.length≤140737488355328) (m:ad) (K:R→ad→Prop) (U:K (.bool (b1 s)) m):bn Tryz.prog 77 [.str s] m K:=by
 refine enter (c:=cP [] [] [5,8] [] [] []) (vs:=[.aK (.str s)]) (L:=[]) (m:=m) false cc Tryz.mixed Tryz.func77 rfl (k:=1) (by show cJ [] _ _ _=true;decide+kernel) rfl (Good.nil m) ?_
 refine aZ ?_
 refine ev (σ:=Int) [] [0,6,7] 0 (fun i=>([(0,bf s),(6,aw (s.length:Int)),(7,aw i)],[],m)) (fun i=>0≤i∧i≤s.length∧kE s true=kE (s.drop i.toNat) (i==0)) (fun i=>s.length- i.toNat) (0) ⟨rfl,rfl⟩ ?_ ?_
 · try dsimp only
   exact ⟨by omega,by omega,by simp⟩
 rintro i aM
 refine aZ ?_
 refine an (fun I=>?_) (fun I=>?_)
 · refine aZ ?_
   refine an (by omega) ?_
   refine cx [0,6,7] 30 (((decide (((aa s i).toNat:Int)<97))||(decide (122<((aa s i).toNat:Int))))&&(((i==0)||(decide (((aa s i).toNat:Int)<48)))||(decide (57<((aa s i).toNat:Int))))) ?_ ?_
   · repeat' first
      |exact ⟨⟨_,rfl,by grind [bM.val]⟩,rfl⟩
      |refine an (fun _=>?_) (fun _=>?_)
   refine an (fun J=>?_) (fun J=>?_)
   · replace J:((((aa s i).toNat:Int)<97)∨(122<((aa s i).toNat:Int)))∧(((i=0)∨(((aa s i).toNat:Int)<48))∨(57<((aa s i).toNat:Int))):=⟨((da (e4 J)).imp (fun q=>(of_decide_eq_true q)) (fun q=>(of_decide_eq_true q))),((da (fY J)).imp (fun q=>((da q).imp (fun q=>(eq_of_beq q)) (fun q=>(of_decide_eq_true q)))) (fun q=>(of_decide_eq_true q)))⟩
     refine bt rfl fun _=>e9 U ?_
     show R.bool (b1 s)=R.bool false
     refine congrArg R.bool ?_
     have ae:(lR (aa s i)||(!(i==0)&&lS (aa s i)))=false:=by
      rw [Bool.eq_false_iff];intro ba;simp [lR,lS] at ba;omega
     rw [b1,aM.2.2,vO aM.1 I,ae];rfl
   replace J:((97≤((aa s i).toNat:Int))∧(((aa s i).toNat:Int)≤122))∨(((i≠0)∧(48≤((aa s i).toNat:Int)))∧(((aa s i).toNat:Int)≤57)):=((fZ J).imp (fun q=>⟨(Int.not_lt.1 (of_decide_eq_false (bZ q))),(Int.not_lt.1 (of_decide_eq_false (c8 q)))⟩) (fun q=>⟨⟨(ne_of_beq_false (bZ (bZ q))),(Int.not_lt.1 (of_decide_eq_false (c8 (bZ q))))⟩,(Int.not_lt.1 (of_decide_eq_false (c8 q)))⟩))
   refine an (by omega) ?_
   refine ⟨(i+1),⟨rfl,rfl⟩,?_,?_⟩
   · try dsimp only
     have ae:(lR (aa s i)||(!(i==0)&&lS (aa s i)))=true:=by simp [lR,lS];omega
     exact ⟨by omega,by omega,by rw [aM.2.2,vO aM.1 I,ae];rfl⟩
   try dsimp only
   omega
 refine cx [] 2 ((!(s==([])))&&(decide ((s.length:Int)≤12))) ?_ ?_
 · repeat' first
    |exact ⟨⟨_,rfl,by grind [bM.val]⟩,rfl⟩
    |refine an (fun _=>?_) (fun _=>?_)
 refine bt rfl fun _=>e9 U ?_
 show R.bool (b1 s)=R.bool ((!(s==([])))&&(decide ((s.length:Int)≤12)))
 refine congrArg R.bool ?_
 have aH:kE s true=true:=by rw [aM.2.2,List.drop_eq_nil_of_le (by omega)];rfl
 rw [b1,aH];cases s<;>simp
end Go.Proofs
end
section
namespace Go.Proofs
open Go Go.bh Go.bS
set_option maxRecDepth 100000
def cK:aR:= .mk 0 0 [] [] []
theorem aR.ext' {a b:aR} (I:a.kind=b.kind) (J:a.n=b.n) (ai:a.s=b.s) (aC:a.l=b.l) (aN:a.f=b.f):a=b:=by
 cases a;cases b;simp only [aR.kind,aR.n,aR.s,aR.l,aR.f] at I J ai aC aN;subst I J ai aC aN;rfl
noncomputable def hd (a b:aR):Bool:=@decide (a=b) (Classical.propDecidable _)
theorem tS {a b:aR} (h:a=b):hd a b=true:=by simp [hd,h]
theorem vP {a b:aR} (h:a≠b):hd a b=false:=by simp [hd,h]
theorem vQ {a b:aR}:hd a b=true↔a=b:=by simp [hd]
def h0 {α:Type} (g:α→Int→Bool×Int):List α→Int→Bool×Int
 |[],n=>(true,n)
 |x::r,n=>if (g x n).1=true then h0 g r (g x n).2 else (false,(g x n).2)
def ei:Nat→Int→aR→Int→Bool×Int
 |0,_,_,n=>(false,n)
 |k+1,deep,v,n=>
  if 6<deep∨n- 1<0 then (false,n- 1)
  else if (h0 (ei k (deep+1)) v.l (n- 1)).1=false then (false,(h0 (ei k (deep+1)) v.l (n- 1)).2)
  else h0 (fun p=>ei k (deep+1) p.2) v.f (h0 (ei k (deep+1)) v.l (n- 1)).2
def hy {α:Type} (g:α→Nat):List α→Nat
 |[]=>0
 |x::r=>g x+hy g r
theorem A9 (l:List aR):hy bq l=k4 l:=by
 induction l with
 |nil=>rfl
 |cons v r aQ=>simp only [hy,k4,aQ]
theorem Ba (l:List (ak×aR)):hy (fun p=>bq p.2) l=kD l:=by
 induction l with
 |nil=>rfl
 |cons p r aQ=>
  obtain ⟨s,v⟩:=p
  cases v with
  |mk k n t l f=>simp only [hy,kD,aQ,bq]
theorem Bb {α:Type} {g:α→Int→Bool×Int} {d:α→Nat} (a8:∀x n,0≤n→(g x n).1=true→0≤(g x n).2∧(g x n).2+d x=n):∀(l:List α) (n:Int),0≤n→(h0 g l n).1=true→0≤(h0 g l n).2∧(h0 g l n).2+hy d l=n
 |[],n,aq,_=>by simp [h0,hy,aq]
 |x::r,n,aq,h=>by
  rw [h0] at h ⊢
  split at h
  · rename_i I
    have J:=a8 x n aq I
    have ai:=Bb a8 r _ J.1 h
    rw [if_pos I,hy]
    exact ⟨ai.1,by push_cast;omega⟩
  · cases h
theorem sB:∀(k:Nat) (deep:Int) (v:aR) (n:Int),0≤n→(ei k deep v n).1=true→0≤(ei k deep v n).2∧(ei k deep v n).2+bq v=n
 |0,_,_,_,_,h=>by simp [ei] at h
 |k+1,deep,v,n,aq,h=>by
  rw [ei] at h ⊢
  split at h
  · cases h
  · rename_i I
    rw [if_neg I]
    split at h
    · cases h
    · rename_i J
      rw [if_neg J]
      have ai:(h0 (ei k (deep+1)) v.l (n- 1)).1=true:=by simpa using J
      have a:=Bb (d:=bq) (g:=ei k (deep+1)) (fun x n aL ah=>sB k (deep+1) x n aL ah) v.l (n- 1) (by omega) ai
      have b:=Bb (d:=fun p:ak×aR=>bq p.2) (g:=fun p=>ei k (deep+1) p.2) (fun x n aL ah=>sB k (deep+1) x.2 n aL ah) v.f _ a.1 h
      rw [A9] at a
      rw [Ba] at b
      have e:=fR v
      exact ⟨b.1,by omega⟩
def kF:Option ak→List (ak×aR)→Bool
 |_,[]=>true
 |p,f::r=>b1 f.1&&(match p with|none=>true|some s=>Op.bytesLess s f.1)&&kF (some f.1) r
def eD (v:aR):Bool:=
 if v.kind=0 then ((v.n==0)&&(v.s==[]))&&((v.l.length:Int)+(v.f.length:Int)==0)
 else if v.kind=1 then ((decide (-1000000000≤v.n)&&decide (v.n≤1000000000))&&(v.s==[]))&&((v.l.length:Int)+(v.f.length:Int)==0)
 else if v.kind=2 then ((v.n==0)&&decide ((v.s.length:Int)≤40))&&((v.l.length:Int)+(v.f.length:Int)==0)
 else if v.kind=3 then (((v.n==0)||(v.n==1))&&(v.s==[]))&&((v.l.length:Int)+(v.f.length:Int)==0)
 else if v.kind=4 then ((v.n==0)&&(v.s==[]))&&((v.f.length:Int)==0)
 else if v.kind=5 then (((v.n==0)&&(v.s==[]))&&((v.l.length:Int)==0))&&kF none v.f
 else false
def cL:Nat→aR→Bool
 |0,_=>false
 |k+1,v=>eD v&&v.l.all (cL k)&&v.f.all (fun p=>cL k p.2)
def mq (b:Bool):Int:=if b=true then 0 else 3
def bF (v:aR):Int:=if (ei (bq v+1) 1 v 60).1=true then mq (cL (bq v+1) v) else 2
def rl (l:List (ak×aR)) (i:Int):Option ak:=if i=0 then none else some (aa l (i- 1)).1
theorem J1 (p:Option ak) (f:ak×aR) (r:List (ak×aR)):kF p (f::r)=(b1 f.1&&(match p with|none=>true|some s=>Op.bytesLess s f.1)&&kF (some f.1) r):=by cases p<;>rfl
theorem vR {l:List (ak×aR)} {i:Int} (aq:0≤i) (ab:i<l.length):kF (rl l i) (l.drop i.toNat)=(b1 (aa l i).1&&((i==0)||Op.bytesLess (aa l (i- 1)).1 (aa l i).1)&&kF (rl l (i+1)) (l.drop (i+1).toNat)):=by
 have e:rl l (i+1)=some (aa l i).1:=by rw [rl,if_neg (by omega)];congr 2;congr 1;omega
 rw [lQ aq ab,J1,e,rl]
 by_cases h:i=0
 · simp [h]
 · have:(i==0)=false:=by simpa using h
   rw [if_neg h,this,Bool.false_or]
theorem Bc {α:Type} [Inhabited α] {g:α→Int→Bool×Int} {l:List α} {i n:Int} (aq:0≤i) (ab:i<l.length):h0 g (l.drop i.toNat) n=if (g (aa l i) n).1=true then h0 g (l.drop (i+1).toNat) (g (aa l i) n).2 else (false,(g (aa l i) n).2):=by
 rw [lQ aq ab,h0]
theorem sC {α:Type} [Inhabited α] {g:α→Bool} {l:List α} {i:Int} (aq:0≤i) (ab:i<l.length):(l.drop i.toNat).all g=(g (aa l i)&&(l.drop (i+1).toNat).all g):=by
 rw [lQ aq ab,List.all_cons]
theorem T8 {k:Nat} {deep n x:Int} {v:aR} (h:¬(6<deep∨n- 1<0)) (e:h0 (ei k (deep+1)) v.l (n- 1)=(false,x)):ei (k+1) deep v n=(false,x):=by
 rw [ei,if_neg h,e,if_pos rfl]
theorem T9 {k:Nat} {deep n x:Int} {v:aR} (h:¬(6<deep∨n- 1<0)) (e:h0 (ei k (deep+1)) v.l (n- 1)=(true,x)):ei (k+1) deep v n=h0 (fun p=>ei k (deep+1) p.2) v.f x:=by
 rw [ei,if_neg h,e,if_neg (by simp)]
theorem EX {b:Bool} (h:mq b=0):b=true:=by cases b<;>first|rfl|simp [mq] at h
theorem J2 {b:Bool} (h:mq b≠0):b=false:=by cases b<;>first|rfl|simp [mq] at h
theorem Ua {k:Nat} {v:aR} (h:eD v=false):mq (cL (k+1) v)=3:=by rw [cL,h];rfl
theorem Ub {k:Nat} {v:aR} (h:v.l.all (cL k)=false):mq (cL (k+1) v)=3:=by rw [cL,h];simp [mq]
theorem Uc {k:Nat} {v:aR} (h:v.f.all (fun p=>cL k p.2)=false):mq (cL (k+1) v)=3:=by rw [cL,h];simp [mq]
theorem Ud {k:Nat} {v:aR} (I:eD v=true) (J:v.l.all (cL k)=true) (ai:v.f.all (fun p=>cL k p.2)=true):mq (cL (k+1) v)=0:=by rw [cL,I,J,ai];rfl
set_option maxHeartbeats 4000000 in
theorem Ue (k:Nat) (v:aR) (deep n:Int) (p:Nat) (aQ:∀(w:aR) (deep n:Int),bq w<k→1≤deep→deep≤7→0≤n→n≤60→∀(b:Nat) (m:ad),fx [b] m→∀(K:R→ad→Prop),K (.bool (ei k deep w n).1) (ad.aX m [(b, .cells [.int .i64 (ei k deep w n).2])])→bn Tryz.prog 159 [cG w, .int .i64 deep, .ptr ⟨b,0,none⟩] (ad.aX m [(b, .cells [.int .i64 n])]) K) (aY:bq v<k+1) (r3:1≤deep) (aaf:deep≤7) (yC:0≤n) (aag:n≤60) (m:ad) (gd:fx [p] m) (K:R→ad→Prop) (U:K (.bool (ei (k+1) deep v n).1) (ad.aX m [(p, .cells [.int .i64 (ei (k+1) deep v n).2])])):bn Tryz.prog 159 [cG v, .int .i64 deep, .ptr ⟨p,0,none⟩] (ad.aX m [(p, .cells [.int .i64 n])]) K:=by
 refine enter (c:=cP [] [0] [2] [] [] [p]) (vs:=[.aK (cG v), .aK (.int .i64 deep), .loc 0 0]) (L:=[.cells [aw n]]) (m:=m) false cc Tryz.mixed Tryz.func159 rfl (k:=3) (by show cJ [] _ _ _=true;decide+kernel) rfl (gd.jq rfl) ?_
 refine ⟨fun c6=>?_⟩
 have rj:v.s.length≤140737488355328:=(c6 0 2 (Nat.le_of_ble_eq_true rfl))
 have pY:v.l.length≤140737488355328:=gj (c6 0 3 (Nat.le_of_ble_eq_true rfl))
 have rk:v.f.length≤140737488355328:=gj (c6 0 4 (Nat.le_of_ble_eq_true rfl))
 refine an (by omega) ?_
 refine aZ ?_
 refine cx [1,2,3] 23 ((decide (6<deep))||(decide (n- 1<0))) ?_ ?_
 · repeat' first
    |exact ⟨⟨_,rfl,by grind [bM.val]⟩,rfl⟩
    |refine an (fun _=>?_) (fun _=>?_)
 refine an (fun I=>?_) (fun I=>?_)
 · replace I:(6<deep)∨(n- 1<0):=((da I).imp (fun q=>(of_decide_eq_true q)) (fun q=>(of_decide_eq_true q)))
   refine rt rfl fun _=>?_
   show K (.bool false) (ad.aX m [(p, .cells [.int .i64 (n- 1)])])
   rw [ei,if_pos (by omega)] at U;exact U
 replace I:(deep≤6)∧(0≤n- 1):=⟨(Int.not_lt.1 (of_decide_eq_false (bZ I))),(Int.not_lt.1 (of_decide_eq_false (c8 I)))⟩
 refine aZ ?_
 refine dq ?_
 refine ev (σ:=Int×Int) [] [1,2,3,25,26,27] 2 (fun ⟨i,nl⟩=>([(1,aw deep),(2, .loc 0 0),(3, .loc 1 0),(25,bj (v.l.map cm)),(26,aw (v.l.length:Int)),(27,aw i)],[.cells [aw nl], .cells [aw v.kind,aw v.n,bf v.s,bj (v.l.map cm),bj (v.f.map bB)]],m)) (fun ⟨i,nl⟩=>0≤i∧i≤v.l.length∧0≤nl∧nl≤60∧h0 (ei k (deep+1)) v.l (n- 1)=h0 (ei k (deep+1)) (v.l.drop i.toNat) nl) (fun ⟨i,nl⟩=>v.l.length- i.toNat) (0,n- 1) ⟨rfl,rfl⟩ ?_ ?_
 · try dsimp only
   exact ⟨by omega,by omega,by omega,by omega,rfl⟩
 rintro ⟨i,nl⟩ aM
 dsimp only at aM
 refine aZ ?_
 refine an (fun J=>?_) (fun J=>?_)
 · refine aZ ?_
   refine e0 cG jN (by omega) ?_
   refine an (by omega) ?_
   refine fE [0] [.cells [aw ((ei k (deep+1) (aa v.l i) nl).2)]] (e6 ((ei k (deep+1) (aa v.l i) nl).1)) rfl (fun bs az gd=>aQ (aa v.l i) (deep+1) nl (by have:=fR v;first|(have:=gP (ch (l:=v.l) (i:=i) aM.1 (by assumption));omega)|(have:=gQ (ch (l:=v.f) (i:=i2) cg.1 (by assumption));omega)) (by omega) (by omega) (by omega) (by omega) (bs.getD 0 0) az gd) ?_
   refine an (fun ai=>?_) (fun ai=>?_)
   · refine an (by omega) ?_
     refine ⟨(i+1,(ei k (deep+1) (aa v.l i) nl).2),⟨rfl,rfl⟩,?_,?_⟩
     · try dsimp only
       have q:=sB k (deep+1) (aa v.l i) nl aM.2.2.1 ai
       exact ⟨by omega,by omega,by omega,by omega,by rw [aM.2.2.2.2,Bc aM.1 J,if_pos ai]⟩
     try dsimp only
     omega
   refine rt rfl fun _=>?_
   show K (.bool false) (ad.aX m [(p, .cells [.int .i64 ((ei k (deep+1) (aa v.l i) nl).2)])])
   have e:ei (k+1) deep v n=(false,(ei k (deep+1) (aa v.l i) nl).2):=T8 (by omega) (by rw [aM.2.2.2.2,Bc aM.1 J,if_neg (by simp [ai])])
   rw [e] at U;exact U
 refine aZ ?_
 refine dq ?_
 refine ev (σ:=Int×Int) [] [1,2,39,40,41] 2 (fun ⟨i2,mr⟩=>([(1,aw deep),(2, .loc 0 0),(39,bj (v.f.map bB)),(40,aw (v.f.length:Int)),(41,aw i2)],[.cells [aw mr], .cells [aw v.kind,aw v.n,bf v.s,bj (v.l.map cm),bj (v.f.map bB)]],m)) (fun ⟨i2,mr⟩=>0≤i2∧i2≤v.f.length∧0≤mr∧mr≤60∧ei (k+1) deep v n=h0 (fun p=>ei k (deep+1) p.2) (v.f.drop i2.toNat) mr) (fun ⟨i2,mr⟩=>v.f.length- i2.toNat) (0,nl) ⟨rfl,rfl⟩ ?_ ?_
 · try dsimp only
   have e:h0 (ei k (deep+1)) v.l (n- 1)=(true,nl):=by rw [aM.2.2.2.2,List.drop_eq_nil_of_le (by omega)];rfl
   exact ⟨by omega,by omega,by omega,by omega,by rw [T9 (by omega) e];rfl⟩
 rintro ⟨i2,mr⟩ cg
 dsimp only at cg
 refine aZ ?_
 refine an (fun aC=>?_) (fun aC=>?_)
 · refine aZ ?_
   refine e0 gA fI (by omega) ?_
   refine an (by omega) ?_
   refine fE [0] [.cells [aw ((ei k (deep+1) ((aa v.f i2).2) mr).2)]] (e6 ((ei k (deep+1) ((aa v.f i2).2) mr).1)) rfl (fun bs az gd=>aQ ((aa v.f i2).2) (deep+1) mr (by have:=fR v;first|(have:=gP (ch (l:=v.l) (i:=i) aM.1 (by assumption));omega)|(have:=gQ (ch (l:=v.f) (i:=i2) cg.1 (by assumption));omega)) (by omega) (by omega) (by omega) (by omega) (bs.getD 0 0) az gd) ?_
   refine an (fun aN=>?_) (fun aN=>?_)
   · refine an (by omega) ?_
     refine ⟨(i2+1,(ei k (deep+1) ((aa v.f i2).2) mr).2),⟨rfl,rfl⟩,?_,?_⟩
     · try dsimp only
       have q:=sB k (deep+1) (aa v.f i2).2 mr cg.2.2.1 aN
       exact ⟨by omega,by omega,by omega,by omega,by rw [cg.2.2.2.2,Bc cg.1 aC,if_pos aN]⟩
     try dsimp only
     omega
   refine rt rfl fun _=>?_
   show K (.bool false) (ad.aX m [(p, .cells [.int .i64 ((ei k (deep+1) ((aa v.f i2).2) mr).2)])])
   have e:ei (k+1) deep v n=(false,(ei k (deep+1) (aa v.f i2).2 mr).2):=by
    rw [cg.2.2.2.2,Bc cg.1 aC,if_neg (by simp [aN])]
   rw [e] at U;exact U
 refine rt rfl fun _=>?_
 show K (.bool true) (ad.aX m [(p, .cells [.int .i64 mr])])
 have e:ei (k+1) deep v n=(true,mr):=by rw [cg.2.2.2.2,List.drop_eq_nil_of_le (by omega)];rfl
 rw [e] at U;exact U
theorem J3:∀(k:Nat) (v:aR) (deep n:Int),bq v<k→1≤deep→deep≤7→0≤n→n≤60→∀(b:Nat) (m:ad),fx [b] m→∀(K:R→ad→Prop),K (.bool (ei k deep v n).1) (ad.aX m [(b, .cells [.int .i64 (ei k deep v n).2])])→bn Tryz.prog 159 [cG v, .int .i64 deep, .ptr ⟨b,0,none⟩] (ad.aX m [(b, .cells [.int .i64 n])]) K
 |0,_,_,_,h=>absurd h (Nat.not_lt_zero _)
 |k+1,v,deep,n,h=>fun I dk aq bE b m gd K U=>Ue k v deep n b (J3 k) h I dk aq bE m gd K U
set_option maxHeartbeats 8000000 in
theorem Uf (k:Nat) (v:aR) (aQ:∀(w:aR),bq w<k→∀(m:ad) (K:R→ad→Prop),K (.err 115 (mq (cL k w))) m→bn Tryz.prog 160 [cG w] m K) (aY:bq v<k+1) (m:ad) (K:R→ad→Prop) (U:K (.err 115 (mq (cL (k+1) v))) m):bn Tryz.prog 160 [cG v] m K:=by
 refine enter (c:=cP [] [0,19] [5,7,9,11,13,15,19] [] [] []) (vs:=[.aK (cG v)]) (L:=[]) (m:=m) true cc Tryz.mixed Tryz.func160 rfl (k:=1) (by show cJ [] _ _ _=true;decide+kernel) rfl (Good.nil m) ?_
 refine ⟨fun c6=>?_⟩
 have rj:v.s.length≤140737488355328:=(c6 0 2 (Nat.le_of_ble_eq_true rfl))
 have pY:v.l.length≤140737488355328:=gj (c6 0 3 (Nat.le_of_ble_eq_true rfl))
 have rk:v.f.length≤140737488355328:=gj (c6 0 4 (Nat.le_of_ble_eq_true rfl))
 refine AF (σ:=Bool) [(3,0)] [1,3] 1 (fun ok=>([(1, .loc 0 0),(3,e6 ok)],[.cells [aw v.kind,aw v.n,bf v.s,bj (v.l.map cm),bj (v.f.map bB)]],m)) (fun ok=>ok=eD v) ?_ ?_
 · rintro ok o8
   refine aZ ?_
   refine an (fun I=>?_) (fun I=>?_)
   · refine aZ ?_
     refine dq ?_
     refine ev (σ:=Int) [] [1,170,171,172] 1 (fun i=>([(1, .loc 0 0),(170,bj (v.l.map cm)),(171,aw (v.l.length:Int)),(172,aw i)],[.cells [aw v.kind,aw v.n,bf v.s,bj (v.l.map cm),bj (v.f.map bB)]],m)) (fun i=>0≤i∧i≤v.l.length∧v.l.all (cL k)=(v.l.drop i.toNat).all (cL k)) (fun i=>v.l.length- i.toNat) (0) ⟨rfl,rfl⟩ ?_ ?_
     · try dsimp only
       exact ⟨by omega,by omega,rfl⟩
     rintro i aM
     refine aZ ?_
     refine an (fun J=>?_) (fun J=>?_)
     · refine aZ ?_
       refine e0 cG jN (by omega) ?_
       refine ct (fun _=>aQ (aa v.l i) (by have:=fR v;first|(have:=gP (ch (l:=v.l) (i:=i) aM.1 (by assumption));omega)|(have:=gQ (ch (l:=v.f) (i:=i2) cg.1 (by assumption));omega))) rfl ?_
       refine an (fun ai=>?_) (fun ai=>?_)
       · refine an (by omega) ?_
         refine ⟨(i+1),⟨rfl,rfl⟩,?_,?_⟩
         · try dsimp only
           exact ⟨by omega,by omega,by rw [aM.2.2,sC aM.1 J,EX ai,Bool.true_and]⟩
         try dsimp only
         omega
       refine bt rfl fun _=>?_
       show K (.err 115 3) m
       rw [Ub (by rw [aM.2.2,sC aM.1 J,J2 ai,Bool.false_and])] at U;exact U
     refine aZ ?_
     refine dq ?_
     refine ev (σ:=Int) [] [182,183,184] 1 (fun i2=>([(182,bj (v.f.map bB)),(183,aw (v.f.length:Int)),(184,aw i2)],[.cells [aw v.kind,aw v.n,bf v.s,bj (v.l.map cm),bj (v.f.map bB)]],m)) (fun i2=>0≤i2∧i2≤v.f.length∧v.f.all (fun p=>cL k p.2)=(v.f.drop i2.toNat).all (fun p=>cL k p.2)) (fun i2=>v.f.length- i2.toNat) (0) ⟨rfl,rfl⟩ ?_ ?_
     · try dsimp only
       exact ⟨by omega,by omega,rfl⟩
     rintro i2 cg
     refine aZ ?_
     refine an (fun aC=>?_) (fun aC=>?_)
     · refine aZ ?_
       refine e0 gA fI (by omega) ?_
       refine ct (fun _=>aQ ((aa v.f i2).2) (by have:=fR v;first|(have:=gP (ch (l:=v.l) (i:=i) aM.1 (by assumption));omega)|(have:=gQ (ch (l:=v.f) (i:=i2) cg.1 (by assumption));omega))) rfl ?_
       refine an (fun aN=>?_) (fun aN=>?_)
       · refine an (by omega) ?_
         refine ⟨(i2+1),⟨rfl,rfl⟩,?_,?_⟩
         · try dsimp only
           exact ⟨by omega,by omega,by rw [cg.2.2,sC (g:=fun p:ak×aR=>cL k p.2) cg.1 aC,EX aN,Bool.true_and]⟩
         try dsimp only
         omega
       refine bt rfl fun _=>?_
       show K (.err 115 3) m
       rw [Uc (by rw [cg.2.2,sC (g:=fun p:ak×aR=>cL k p.2) cg.1 aC,J2 aN,Bool.false_and])] at U;exact U
     refine bt rfl fun _=>?_
     show K (.err 115 0) m
     rw [Ud (by rw [←o8,I]) (by rw [aM.2.2,List.drop_eq_nil_of_le (by omega)];rfl) (by rw [cg.2.2,List.drop_eq_nil_of_le (by omega)];rfl)] at U;exact U
   refine bt rfl fun _=>?_
   show K (.err 115 3) m
   rw [Ua (by rw [←o8,I])] at U;exact U
 refine an (fun bE=>?_) (fun bE=>?_)
 · refine cx [1] 3 (((v.n==0)&&(v.s==([])))&&(((v.l.length:Int)+(v.f.length:Int))==0)) ?_ ?_
   · repeat' first
      |exact ⟨⟨_,rfl,by grind [bM.val]⟩,rfl⟩
      |refine an (fun _=>?_) (fun _=>?_)
      |refine dq ?_
      |refine an (by omega) ?_
   refine ⟨((((v.n==0)&&(v.s==([])))&&(((v.l.length:Int)+(v.f.length:Int))==0))),⟨rfl,rfl⟩,?_⟩
   unfold eD
   repeat' split
   all_goals first|omega|rfl
 refine an (fun dk=>?_) (fun dk=>?_)
 · refine cx [1] 3 ((((decide (-1000000000≤v.n))&&(decide (v.n≤1000000000)))&&(v.s==([])))&&(((v.l.length:Int)+(v.f.length:Int))==0)) ?_ ?_
   · repeat' first
      |exact ⟨⟨_,rfl,by grind [bM.val]⟩,rfl⟩
      |refine an (fun _=>?_) (fun _=>?_)
      |refine dq ?_
      |refine an (by omega) ?_
   refine ⟨(((((decide (-1000000000≤v.n))&&(decide (v.n≤1000000000)))&&(v.s==([])))&&(((v.l.length:Int)+(v.f.length:Int))==0))),⟨rfl,rfl⟩,?_⟩
   unfold eD
   repeat' split
   all_goals first|omega|rfl
 refine an (fun cW=>?_) (fun cW=>?_)
 · refine cx [1] 3 (((v.n==0)&&(decide ((v.s.length:Int)≤40)))&&(((v.l.length:Int)+(v.f.length:Int))==0)) ?_ ?_
   · repeat' first
      |exact ⟨⟨_,rfl,by grind [bM.val]⟩,rfl⟩
      |refine an (fun _=>?_) (fun _=>?_)
      |refine dq ?_
      |refine an (by omega) ?_
   refine ⟨((((v.n==0)&&(decide ((v.s.length:Int)≤40)))&&(((v.l.length:Int)+(v.f.length:Int))==0))),⟨rfl,rfl⟩,?_⟩
   unfold eD
   repeat' split
   all_goals first|omega|rfl
 refine an (fun dB=>?_) (fun dB=>?_)
 · refine cx [1] 3 ((((v.n==0)||(v.n==1))&&(v.s==([])))&&(((v.l.length:Int)+(v.f.length:Int))==0)) ?_ ?_
   · repeat' first
      |exact ⟨⟨_,rfl,by grind [bM.val]⟩,rfl⟩
      |refine an (fun _=>?_) (fun _=>?_)
      |refine dq ?_
      |refine an (by omega) ?_
   refine ⟨(((((v.n==0)||(v.n==1))&&(v.s==([])))&&(((v.l.length:Int)+(v.f.length:Int))==0))),⟨rfl,rfl⟩,?_⟩
   unfold eD
   repeat' split
   all_goals first|omega|rfl
 refine an (fun dV=>?_) (fun dV=>?_)
 · refine cx [1] 3 (((v.n==0)&&(v.s==([])))&&((v.f.length:Int)==0)) ?_ ?_
   · repeat' first
      |exact ⟨⟨_,rfl,by grind [bM.val]⟩,rfl⟩
      |refine an (fun _=>?_) (fun _=>?_)
      |refine dq ?_
   refine ⟨((((v.n==0)&&(v.s==([])))&&((v.f.length:Int)==0))),⟨rfl,rfl⟩,?_⟩
   unfold eD
   repeat' split
   all_goals first|omega|rfl
 refine an (fun fj=>?_) (fun fj=>?_)
 · refine cx [1] 3 (((v.n==0)&&(v.s==([])))&&((v.l.length:Int)==0)) ?_ ?_
   · repeat' first
      |exact ⟨⟨_,rfl,by grind [bM.val]⟩,rfl⟩
      |refine an (fun _=>?_) (fun _=>?_)
      |refine dq ?_
   refine dq ?_
   refine ev (σ:=Bool×Int) [(3,0)] [1,3,136,137,138] 1 (fun ⟨ok,i⟩=>([(1, .loc 0 0),(3,e6 ok),(136,bj (v.f.map bB)),(137,aw (v.f.length:Int)),(138,aw i)],[.cells [aw v.kind,aw v.n,bf v.s,bj (v.l.map cm),bj (v.f.map bB)]],m)) (fun ⟨ok,i⟩=>0≤i∧i≤v.f.length∧eD v=(ok&&kF (rl v.f i) (v.f.drop i.toNat))) (fun ⟨ok,i⟩=>v.f.length- i.toNat) ((((v.n==0)&&(v.s==([])))&&((v.l.length:Int)==0)),0) ⟨rfl,rfl⟩ ?_ ?_
   · try dsimp only
     refine ⟨by omega,by omega,?_⟩
     unfold eD
     rw [if_neg (by assumption),if_neg (by assumption),if_neg (by assumption),if_neg (by assumption),if_neg (by assumption),if_pos (by assumption)]
     rfl
   rintro ⟨ok,i⟩ aM
   dsimp only at aM
   refine aZ ?_
   refine an (fun rm=>?_) (fun rm=>?_)
   · refine aZ ?_
     refine e0 gA fI (by omega) ?_
     refine ⟨fun Ug=>?_⟩
     have Uh:(aa v.f i).1.length≤140737488355328:=HV (f:=bB) (Ug 136).2 (ch aM.1 rm) 0 (Nat.succ_pos _)
     refine cx [1,136,137,138] 3 ((ok&&(b1 ((aa v.f i).1)))&&((i==0)||(Op.bytesLess ((aa v.f (i- 1)).1) ((aa v.f i).1)))) ?_ ?_
     · repeat' first
        |exact ⟨⟨_,rfl,by grind [bM.val]⟩,rfl⟩
        |refine an (fun _=>?_) (fun _=>?_)
        |refine hx (fun _=>sA ((aa v.f i).1) Uh) ?_
        |refine an (by omega) ?_
        |refine e0 gA fI (by omega) ?_
     refine an (by omega) ?_
     refine ⟨(((ok&&(b1 ((aa v.f i).1)))&&((i==0)||(Op.bytesLess ((aa v.f (i- 1)).1) ((aa v.f i).1)))),i+1),⟨rfl,rfl⟩,?_,?_⟩
     · try dsimp only
       exact ⟨by omega,by omega,by rw [aM.2.2,vR aM.1 rm];simp only [Bool.and_assoc]⟩
     try dsimp only
     omega
   refine ⟨(ok),⟨rfl,rfl⟩,?_⟩
   rw [aM.2.2,List.drop_eq_nil_of_le (by omega)];simp [kF]
 refine ⟨(false),⟨rfl,rfl⟩,?_⟩
 unfold eD
 repeat' split
 all_goals first|omega|rfl
theorem J4:∀(k:Nat) (v:aR),bq v<k→∀(m:ad) (K:R→ad→Prop),K (.err 115 (mq (cL k v))) m→bn Tryz.prog 160 [cG v] m K
 |0,_,h=>absurd h (Nat.not_lt_zero _)
 |k+1,v,h=>fun m K U=>Uf k v (J4 k) h m K U
set_option maxHeartbeats 2000000 in
theorem yG (v:aR) (m:ad) (K:R→ad→Prop) (U:K (.err 115 (bF v)) m):bn Tryz.prog 92 [cG v] m K:=by
 refine enter (c:=cP [] [] [] [] [] []) (vs:=[.aK (cG v)]) (L:=[]) (m:=m) true cc Tryz.mixed Tryz.func92 rfl (k:=1) (by show cJ [] _ _ _=true;decide+kernel) rfl (Good.nil m) ?_
 refine aZ ?_
 refine fE [1] [.cells [aw ((ei (bq v+1) 1 v 60).2)]] (e6 ((ei (bq v+1) 1 v 60).1)) rfl (fun bs az gd=>J3 (bq v+1) v 1 60 (Nat.lt_succ_self _) (by omega) (by omega) (by omega) (by omega) (bs.getD 1 0) az gd) ?_
 refine an (fun I=>?_) (fun I=>?_)
 · refine ct (fun _=>J4 (bq v+1) v (Nat.lt_succ_self _)) rfl ?_
   have bp:bF v=(mq (cL (bq v+1) v):Int):=by
    first|(rw [bF,if_pos (by assumption)];done)|(rw [bF,if_neg (by simp_all)];done)
   rw [bp] at U
   exact bt rfl fun _=>U
 have bp:bF v=(2:Int):=by
  first|(rw [bF,if_pos (by assumption)];done)|(rw [bF,if_neg (by simp_all)];done)
 rw [bp] at U
 exact bt rfl fun _=>U
set_option maxHeartbeats 4000000 in
theorem Ui (a b:aR) (aQ:∀v w:aR,bq v<bq a→∀(m:ad) (K:R→ad→Prop),K (.bool (hd v w)) m→bn Tryz.prog 117 [cG v,cG w] m K) (m:ad) (K:R→ad→Prop) (U:K (.bool (hd a b)) m):bn Tryz.prog 117 [cG a,cG b] m K:=by
 refine enter (c:=cP [] [0] [1,12] [] [] []) (vs:=[.aK (cG a), .aK (cG b)]) (L:=[]) (m:=m) false cc Tryz.mixed Tryz.func117 rfl (k:=2) (by show cJ [] _ _ _=true;decide+kernel) rfl (Good.nil m) ?_
 refine ⟨fun c6=>?_⟩
 have rj:a.s.length≤140737488355328:=(c6 0 2 (Nat.le_of_ble_eq_true rfl))
 have pY:a.l.length≤140737488355328:=gj (c6 0 3 (Nat.le_of_ble_eq_true rfl))
 have rk:a.f.length≤140737488355328:=gj (c6 0 4 (Nat.le_of_ble_eq_true rfl))
 have J5:b.s.length≤140737488355328:=(c6 1 2 (Nat.le_of_ble_eq_true rfl))
 have J6:b.l.length≤140737488355328:=gj (c6 1 3 (Nat.le_of_ble_eq_true rfl))
 have J7:b.f.length≤140737488355328:=gj (c6 1 4 (Nat.le_of_ble_eq_true rfl))
 refine aZ ?_
 refine cx [2,3] 43 (((((!(a.kind==b.kind))||(!(a.n==b.n)))||(!(a.s==b.s)))||(!((a.l.length:Int)==(b.l.length:Int))))||(!((a.f.length:Int)==(b.f.length:Int)))) ?_ ?_
 · repeat' first
    |exact ⟨⟨_,rfl,by grind [bM.val]⟩,rfl⟩
    |refine an (fun _=>?_) (fun _=>?_)
    |refine dq ?_
 refine an (fun I=>?_) (fun I=>?_)
 · replace I:((((a.kind≠b.kind)∨(a.n≠b.n))∨(a.s≠b.s))∨((a.l.length:Int)≠(b.l.length:Int)))∨((a.f.length:Int)≠(b.f.length:Int)):=((da I).imp (fun q=>((da q).imp (fun q=>((da q).imp (fun q=>((da q).imp (fun q=>(ne_of_beq_false (dD q))) (fun q=>(ne_of_beq_false (dD q))))) (fun q=>(ne_of_beq_false (dD q))))) (fun q=>(ne_of_beq_false (dD q))))) (fun q=>(ne_of_beq_false (dD q))))
   refine bt rfl fun _=>?_
   show K (.bool false) m
   rw [vP (by intro ba;subst ba;simp at I)] at U;exact U
 replace I:((((a.kind=b.kind)∧(a.n=b.n))∧(a.s=b.s))∧((a.l.length:Int)=(b.l.length:Int)))∧((a.f.length:Int)=(b.f.length:Int)):=⟨⟨⟨⟨(eq_of_beq (dC (bZ (bZ (bZ (bZ I)))))),(eq_of_beq (dC (c8 (bZ (bZ (bZ I))))))⟩,(eq_of_beq (dC (c8 (bZ (bZ I)))))⟩,(eq_of_beq (dC (c8 (bZ I))))⟩,(eq_of_beq (dC (c8 I)))⟩
 obtain ⟨⟨⟨⟨aj,aL⟩,al⟩,ar⟩,aW⟩:=I
 refine aZ ?_
 refine dq ?_
 refine ev (σ:=Int) [] [2,3,46,47] 2 (fun i=>([(2, .loc 0 0),(3, .loc 1 0),(46,aw (a.l.length:Int)),(47,aw i)],[.cells [aw a.kind,aw a.n,bf a.s,bj (a.l.map cm),bj (a.f.map bB)], .cells [aw b.kind,aw b.n,bf b.s,bj (b.l.map cm),bj (b.f.map bB)]],m)) (fun i=>0≤i∧i≤a.l.length∧a.l.take i.toNat=b.l.take i.toNat) (fun i=>a.l.length- i.toNat) (0) ⟨rfl,rfl⟩ ?_ ?_
 · try dsimp only
   exact ⟨by omega,by omega,rfl⟩
 rintro i aM
 refine aZ ?_
 refine an (fun J=>?_) (fun J=>?_)
 · refine aZ ?_
   refine e0 cG jN (by omega) ?_
   refine e0 cG jN (by omega) ?_
   refine hx (fun _=>aQ (aa a.l i) (aa b.l i) (by have:=fR a;first|(have:=gP (ch (l:=a.l) (i:=i) aM.1 (by assumption));omega)|(have:=gQ (ch (l:=a.f) (i:=i2) cg.1 (by assumption));omega))) ?_
   refine an (fun ai=>?_) (fun ai=>?_)
   · refine an (by omega) ?_
     refine ⟨(i+1),⟨rfl,rfl⟩,?_,?_⟩
     · try dsimp only
       exact ⟨by omega,by omega,by rw [lP aM.1 J,lP aM.1 (by omega),aM.2.2,vQ.1 ai]⟩
     try dsimp only
     omega
   refine bt rfl fun _=>?_
   show K (.bool false) m
   rw [vP (by intro ba;subst ba;rw [tS rfl] at ai;cases ai)] at U;exact U
 refine aZ ?_
 refine dq ?_
 refine ev (σ:=Int) [] [2,3,65,66] 2 (fun i2=>([(2, .loc 0 0),(3, .loc 1 0),(65,aw (a.f.length:Int)),(66,aw i2)],[.cells [aw a.kind,aw a.n,bf a.s,bj (a.l.map cm),bj (a.f.map bB)], .cells [aw b.kind,aw b.n,bf b.s,bj (b.l.map cm),bj (b.f.map bB)]],m)) (fun i2=>0≤i2∧i2≤a.f.length∧a.f.take i2.toNat=b.f.take i2.toNat) (fun i2=>a.f.length- i2.toNat) (0) ⟨rfl,rfl⟩ ?_ ?_
 · try dsimp only
   exact ⟨by omega,by omega,rfl⟩
 rintro i2 cg
 refine aZ ?_
 refine an (fun aC=>?_) (fun aC=>?_)
 · refine aZ ?_
   refine cx [2,3,65,66] 97 ((!(((aa a.f i2).1)==((aa b.f i2).1)))||(!(hd ((aa a.f i2).2) ((aa b.f i2).2)))) ?_ ?_
   · repeat' first
      |exact ⟨⟨_,rfl,by grind [bM.val]⟩,rfl⟩
      |refine an (fun _=>?_) (fun _=>?_)
      |refine e0 gA fI (by omega) ?_
      |refine hx (fun _=>aQ ((aa a.f i2).2) ((aa b.f i2).2) (by have:=fR a;first|(have:=gP (ch (l:=a.l) (i:=i) aM.1 (by assumption));omega)|(have:=gQ (ch (l:=a.f) (i:=i2) cg.1 (by assumption));omega))) ?_
   refine an (fun aN=>?_) (fun aN=>?_)
   · replace aN:((aa a.f i2).1≠(aa b.f i2).1)∨(hd ((aa a.f i2).2) ((aa b.f i2).2)=false):=((da aN).imp (fun q=>(ne_of_beq_false (dD q))) (fun q=>(dD q)))
     refine bt rfl fun _=>?_
     show K (.bool false) m
     rw [vP (by intro ba;subst ba;rw [tS rfl] at aN;simp at aN)] at U;exact U
   replace aN:((aa a.f i2).1=(aa b.f i2).1)∧(hd ((aa a.f i2).2) ((aa b.f i2).2)=true):=⟨(eq_of_beq (dC (bZ aN))),(dC (c8 aN))⟩
   refine an (by omega) ?_
   refine ⟨(i2+1),⟨rfl,rfl⟩,?_,?_⟩
   · try dsimp only
     exact ⟨by omega,by omega,by rw [lP cg.1 aC,lP cg.1 (by omega),cg.2.2,Prod.ext aN.1 (vQ.1 aN.2)]⟩
   try dsimp only
   omega
 refine bt rfl fun _=>?_
 show K (.bool true) m
 rw [tS (aR.ext' aj aL al (by have:=aM.2.2;rwa [jM (by omega),jM (by omega)] at this) (by have:=cg.2.2;rwa [jM (by omega),jM (by omega)] at this))] at U;exact U
theorem J8:∀(n:Nat) (a b:aR),bq a<n→∀(m:ad) (K:R→ad→Prop),K (.bool (hd a b)) m→bn Tryz.prog 117 [cG a,cG b] m K
 |0,_,_,h=>absurd h (Nat.not_lt_zero _)
 |n+1,a,b,h=>fun m K U=>Ui a b (fun v w bc=>J8 n v w (by omega)) m K U
theorem Uj (a b:aR) (m:ad) (K:R→ad→Prop) (U:K (.bool (hd a b)) m):bn Tryz.prog 117 [cG a,cG b] m K:=J8 (bq a+1) a b (Nat.lt_succ_self _) m K U
end Go.Proofs
end
