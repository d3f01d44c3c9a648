/-
  The executor, part 11: a function.
-/
import Derived.Test.YtnahenbiipdlkaaGreatDoorWyJ
import Derived.Lib.AppendStr
import Derived.Lib.LaidTab
import Derived.Lib.ItoaNum
import Derived.Sort.Grow
import Derived.Test.YtnahenbiipdlkaaGreatDoorWwS
import Derived.Test.YtnahenbiipdlkaaGreatDoorWyD
import Derived.Test.YtnahenbiipdlkaaGreatDoorWxk
import Derived.Lib.AtoiErrMem
import Derived.Lib.Atoi
import Derived.Below
import Derived.Lib.AtoiAllCases
import Derived.Shelf.Strconv.AtoiAll
import Derived.Shelf.Strings.Prefix
import Derived.Shelf.Slices.Clone
import Derived.Shelf.Slices.CompactS
import Derived.Shelf.Slices.Turned
import Derived.Shelf.Small.Wraps
section
namespace Go.bS
open Go Go.bh
section
variable {c:gl} {n:Nat} {b:List Nat} {fr:bT} {L:List bz} {m:ad}
theorem qt (aJ:fm c.P c.T=true) (g:Good b L m) {r:ResultVar} {k:a6→Prop} (h:AJ c.T fr L r k):∃v side x,k v∧l9 c.P (bm b fr) (bK b L m) r=some (side,x)∧side∧x=den b v:=by
 cases r with
 |tmp t=>
  simp only [AJ] at h
  rw [mj] at h
  exact ⟨_,True,_,h,by simp only [l9,lo],trivial,rfl⟩
 |cell a t=>
  simp only [AJ] at h
  rw [mj] at h
  have au:=lo b fr a
  cases bc:eR fr a with
  |loc i off=>
   rw [bc] at h au
   simp only [den] at h au
   cases av:nth L i with
   |none=>rw [av] at h;exact h.elim
   |some o=>
    rw [av] at h
    cases o with
    |obj o=>exact h.elim
    |cells l=>
     obtain ⟨dZ,cN,h⟩:=et aJ h
     rw [j2] at av
     have hm:=mO g av
     have aO:l9 c.P (bm b fr) (bK b L m) (.cell a t)=some (jA c.P t (bo b l) off,(apart c.P t (bo b l) off).plain):=by simp only [l9,au,hm,er]
     cases bW:dZ.k.ij with
     |true=>
      rw [bW] at h
      obtain ⟨ae,h⟩:=dN.1 h
      obtain ⟨u,h,hu⟩:=vg b h
      exact ⟨_,_,_,h,aO,vu cN bW (by rw [kW];exact Nat.le_of_ble_eq_true ae),by rw [vr cN bW];simp only [den,R.plain,hu,DP,DO]⟩
     |false=>
      rw [bW] at h
      simp only at h
      cases aL:nth l off with
      |none=>rw [aL] at h;exact h.elim
      |some v=>
       rw [aL] at h
       obtain ⟨u,h,hu⟩:=oY b h
       obtain ⟨aI,bG⟩:=sd (bs:=b) aL
       exact ⟨_,_,_,h,aO,vv cN bW bG,by rw [vt cN bW,aI,hu]⟩
  |_=>rw [bc] at h;exact h.elim
theorem Em (aJ:fm c.P c.T=true) {b0 new:List Nat} (dz:c.bs=b0) (g:Good (b0++new) L m) {fn:Func} (aC:fn.results.toList.length≤4) {K:R→ad→Prop} (h:AK c.T fr L fn.results.toList fun vs=>yf c K vs L m):uT c.P fn (bm (b0++new) fr) (bK (b0++new) L m) K:=by
 subst dz
 unfold uT
 generalize fn.results.toList=rs at h aC ⊢
 match rs,h with
 |[],h=>
  obtain ⟨m',I,J⟩:=h.h new g
  exact ⟨m',I,J⟩
 |[r],h=>
  obtain ⟨v,zD,x,h,ax,s1,rfl⟩:=qt aJ g h
  obtain ⟨m',I,J⟩:=h.h new g
  simp only [ax]
  exact ⟨s1,m',I,J⟩
 |[r,s],h=>
  obtain ⟨v,zD,x,h,ax,s1,rfl⟩:=qt aJ g h
  obtain ⟨v2,I3,vD,h,aI,s2,rfl⟩:=qt aJ g h
  obtain ⟨m',I,J⟩:=h.h new g
  simp only [ax,aI]
  exact ⟨s1,s2,m',I,J⟩
 |[r,s,t],h=>
  obtain ⟨v,zD,x,h,ax,s1,rfl⟩:=qt aJ g h
  obtain ⟨v2,I3,vD,h,aI,s2,rfl⟩:=qt aJ g h
  obtain ⟨v3,Sj,ym,h,cR,fk,rfl⟩:=qt aJ g h
  obtain ⟨m',I,J⟩:=h.h new g
  simp only [ax,aI,cR]
  exact ⟨s1,s2,fk,m',I,J⟩
 |[r,s,t,u],h=>
  obtain ⟨v,zD,x,h,ax,s1,rfl⟩:=qt aJ g h
  obtain ⟨v2,I3,vD,h,aI,s2,rfl⟩:=qt aJ g h
  obtain ⟨v3,Sj,ym,h,cR,fk,rfl⟩:=qt aJ g h
  obtain ⟨v4,aab,aac,h,kB,rb,rfl⟩:=qt aJ g h
  obtain ⟨m',I,J⟩:=h.h new g
  simp only [ax,aI,cR,kB]
  exact ⟨s1,s2,fk,rb,m',I,J⟩
 |r::s::t::u::q::rest,h=>simp at aC
theorem I4:∀(l:List Nat) (t:Nat),has l t=l.contains t
 |[],t=>rfl
 |x::r,t=>by
  simp only [has,List.contains_cons]
  cases ae:Nat.beq x t with
  |true=>obtain rfl:=Nat.eq_of_beq_eq_true ae;simp
  |false=>
   have:¬t=x:=fun e=>by subst e;rw [Nat.beq_refl] at ae;cases ae
   simp [this,I4 r t]
theorem I5 (E:Nat) (bC:List Nat):∀(fr:bT),bm b (AM E bC fr)=Fr.toErr E bC (bm b fr)
 |[]=>rfl
 |(t,v)::r=>by
  simp only [AM,bm,Fr.toErr,List.map_cons,I4]
  have:=I5 E bC r
  simp only [Fr.toErr] at this
  rw [this]
  cases ag:bC.contains t<;>simp [IV]
theorem Sk {P:Program} {hc:Code} {Q ha:Exit→Fr→ad→Prop} {f:Fr} {az:ad} (E:Nat) (bC:List Nat) (aO:∀e f m,Q e f m→ha e f m∨ha e (f.toErr E bC) m) (h:b7 P n hc Q f az):b7 P n hc ha f az:=fun F lim w ca st=>
 wp_mono (h F lim w ca st) fun e _ _ ⟨l,f,az,q,fM,dL⟩=>by
  rcases aO e f az q with q|q
  · exact ⟨l,f,az,q,fM,dL⟩
  · refine ⟨l,_,az,q,fM.conv fun t bR ah=>?_,dL⟩
    rw [Fr.HF] at ah
    cases ag:bC.contains t with
    |false=>rw [ag] at ah;exact ⟨bR,by simpa using ah,fun _ _ h=>h⟩
    |true=>
     rw [ag] at ah
     simp only [if_true] at ah
     cases a8:f.get t with
     |none=>rw [a8] at ah;cases ah
     |some y=>
      rw [a8] at ah
      simp only [Option.map_some,Option.some.injEq] at ah
      subst ah
      exact ⟨y,rfl,fun v os h=>toErr_rep E h⟩
def cJ (c:List Nat) (fn:Func) (hc:Code) (k:Nat):Bool:=!(fn.name== "runtime.NumGoroutine")&&Nat.ble k fn.ntmps&&od c fn.ntmps hc&&Nat.ble fn.results.size 4
theorem I6 (b:List Nat):∀(i:Nat) (vs:List a6),bm b (ye i vs)=Fr.init i (bo b vs)
 |_,[]=>by simp only [ye,bm,bo,Fr.init]
 |i,v::r=>by simp only [ye,bm,bo,Fr.init,I6 b (i+1) r]
theorem enter {f:FuncId} {fn:Func} {hc:Code} {vs:List a6} {K:R→ad→Prop} (e:Bool) (aJ:fm c.P c.T=true) (hm:c.P.follows .mixedOrders=true) (aW:c.P.funcs[f]?=some fn) (ae:fn.body=some hc) {k:Nat} (cO:cJ c.xs fn hc k=true) (ar:vs.length=k) (g:Good c.bs L m)
 (h:mQ c hc (D2 c false fn.results.toList K) (fun _ _ _ _=>False) (D2 c e fn.results.toList K) (ye 0 vs) L m):bn c.P f (bo c.bs vs) (bK c.bs L m) K:=by
 simp only [cJ,Bool.and_eq_true,Bool.not_eq_true'] at cO
 obtain ⟨⟨⟨k2,o5⟩,sn⟩,En⟩:=cO
 refine oS aW ae k2 (by rw [kW,ar];exact Nat.le_of_ble_eq_true o5) ?_
 have:=qs (b0:=c.bs) (new:=[]) aJ hm rfl hc (by rw [List.append_nil];exact g) sn h
 rw [List.append_nil,I6] at this
 refine Sk c.E (AL fn.results.toList) (fun ex f az aB=>?_) this
 obtain ⟨bb,bJ,m',eu,dQ,rfl,rfl,cb⟩:=aB
 cases ex with
 |normal=>exact .inl (Em aJ rfl dQ (by simpa using Nat.le_of_ble_eq_true En) cb)
 |exit id=>exact cb.elim
 |ret=>
  simp only [D2] at cb
  cases e with
  |false=>exact .inl (Em aJ rfl dQ (by simpa using Nat.le_of_ble_eq_true En) cb)
  |true=>
   simp only at cb
   rw [hv] at cb
   right
   rw [←I5]
   exact Em aJ rfl dQ (by simpa using Nat.le_of_ble_eq_true En) cb
 |_=>exact cb.elim
theorem rt {K:R→ad→Prop} {vs:List a6} (al:(lp c.bs.length (L.take c.bs.length)&&Nat.ble c.bs.length L.length)=true) (h:∀new,K (D1 (c.bs++new) vs) (bK c.bs (L.take c.bs.length) m)):yf c K vs L m:=⟨fun new g=>by
 simp only [Bool.and_eq_true] at al
 have:=yl (c:=c) (md:=[]) (ks:=[]) (k:=c.bs.length) (fr:=[]) (s:=([],o3 (L.take c.bs.length),m)) rfl g ⟨rfl,by simp only [o1,Bool.true_and,Bool.and_eq_true,AT];exact ⟨⟨al.1,al.2⟩,Nat.ble_eq_true_of_le (Nat.le_refl _)⟩⟩
 simp only [Nat.sub_self,List.take_zero,List.append_nil] at this
 have hS:bK c.bs (o3 (L.take c.bs.length)) m=bK c.bs (L.take c.bs.length) m:=by simp only [bK,j3,Ei]
 rw [hS] at this
 exact ⟨_,this.2.2.1,h new⟩⟩
theorem bt {K:R→ad→Prop} {vs:List a6} (ae:c.bs=[]) (h:∀new,K (D1 new vs) m):yf c K vs L m:=⟨fun new g=>by
 rw [ae,List.nil_append] at g ⊢
 refine ⟨m,fun b o Eo=>?_,h new⟩
 by_cases hm:b∈new
 · rw [g.fresh b hm] at Eo;cases Eo
 · rw [bK,nt (by rw [o0 g.len];exact hm)]
   exact Eo⟩
theorem ct {b0:List Nat} {P:Program} {f:FuncId} {vs:List a6} {x:R} {Q:a6→List bz→ad→Prop} (h:∀bs (az:ad) (K:R→ad→Prop),K x az→bn P f (bo bs vs) az K) (aB:x.plain=x) (gI:Q (qp x) L m):oc P b0 f vs fr L m Q:=
 .one (qp x) L m (fun new _ K U=>h _ _ K (by
   have:=U []
   simp only [List.append_nil,q2,aB] at this
   exact this (by assumption))) (by rw [Nat.beq_refl];rfl) gI
theorem lu {b0:List Nat} {P:Program} {f:FuncId} {vs:List a6} (y:a6) {Q:a6→List bz→ad→Prop} (h:∀bs (az:ad) (K:R→ad→Prop),K (den bs y) az→bn P f (bo bs vs) az K) (gI:Q y L m):oc P b0 f vs fr L m Q:=
 .one y L m (fun new g K U=>h _ _ K (by
   have:=U [] (by rw [List.append_nil];exact g)
   simp only [List.append_nil] at this
   exact this)) (by rw [Nat.beq_refl];rfl) gI
theorem hx {b0:List Nat} {P:Program} {f:FuncId} {vs:List a6} {x:R} {Q:a6→Prop} (h:∀bs (az:ad) (K:R→ad→Prop),K x az→bn P f (bo bs vs) az K) (gI:Q (qp x)):DW P b0 f vs L m Q:=
 ⟨qp x,fun new _=>⟨x,fun K U=>h _ _ K U,by rw [q2]⟩,gI⟩
theorem an {p q:Prop} (aB:p) (aO:q):p∧q:=⟨aB,aO⟩
theorem Good.nil (m:ad):Good [] [] m:=⟨List.nodup_nil,rfl,fun _ h=>by cases h⟩
structure fx (bs:List Nat) (m:ad):Prop where
 iR:bs.Nodup
 fresh:∀b∈bs,m b=none
theorem fx.jq {bs:List Nat} (g:fx bs m) (h:bs.length=L.length):Good bs L m:=⟨g.iR,h,g.fresh⟩
theorem fx.nil (m:ad):fx [] m:=⟨List.nodup_nil,fun _ h=>by cases h⟩
def iS (bs:List Nat):List Nat→List Nat
 |[]=>[]
 |i::r=>bs.getD i 0::iS bs r
def oe (L:List bz):List Nat→List bz
 |[]=>[]
 |i::r=>
  match nth L i with
  |some o=>o::oe L r
  |none=> .obj (.cells [])::oe L r
def kC:List bz→List Nat→List bz→List bz
 |L,[],_=>L
 |L,_::_,[]=>L
 |L,i::r,o::os=>kC (L.set i o) r os
def mS (bs:List Nat) (is:List Nat) (os:List bz):List (Nat×ed):=(iS bs is).zip (os.map (er bs))
def isOk (n:Nat):List Nat→Bool
 |[]=>true
 |i::r=>Nat.ble (i+1) n&&!(has r i)&&isOk n r
theorem I7:∀{l:List Nat} {t:Nat},has l t=true↔t∈l
 |[],t=>by simp [has]
 |x::r,t=>by
  simp only [has,List.mem_cons]
  cases ae:Nat.beq x t with
  |true=>obtain rfl:=Nat.eq_of_beq_eq_true ae;simp
  |false=>
   have:¬t=x:=fun e=>by subst e;rw [Nat.beq_refl] at ae;cases ae
   simp [this,I7 (l:=r)]
theorem I8 (bs:List Nat):∀(is:List Nat),(iS bs is).length=is.length
 |[]=>rfl
 |i::r=>by simp only [iS,List.length_cons,I8 bs r]
theorem vE (L:List bz):∀(is:List Nat),(oe L is).length=is.length
 |[]=>rfl
 |i::r=>by
  simp only [oe]
  split<;>simp only [List.length_cons,vE L r]
theorem getD_inj {bs:List Nat} (h:bs.Nodup) {i j:Nat} (ab:i<bs.length) (ay:j<bs.length) (e:bs.getD i 0=bs.getD j 0):i=j:=by
 rw [List.getD_eq_getElem?_getD,List.getD_eq_getElem?_getD,List.getElem?_eq_getElem ab,List.getElem?_eq_getElem ay] at e
 exact (List.getElem_inj h).1 e
theorem vF {bs:List Nat}:∀{is:List Nat} {b:Nat},b∈iS bs is→∃i∈is,b=bs.getD i 0
 |[],_,h=>by cases h
 |i::r,b,h=>by
  simp only [iS,List.mem_cons] at h
  rcases h with rfl|h
  · exact ⟨i,List.mem_cons_self ..,rfl⟩
  · obtain ⟨j,ay,e⟩:=vF h
    exact ⟨j,List.mem_cons_of_mem _ ay,e⟩
theorem I9 {bs:List Nat}:∀{is:List Nat} {i:Nat},i∈is→bs.getD i 0∈iS bs is
 |[],_,h=>by cases h
 |a::r,i,h=>by
  simp only [iS,List.mem_cons]
  rcases List.mem_cons.1 h with rfl|h
  · exact .inl rfl
  · exact .inr (I9 h)
theorem vG {n:Nat}:∀{is:List Nat},isOk n is=true→(∀i∈is,i<n)∧is.Nodup
 |[],_=>⟨by simp,List.nodup_nil⟩
 |i::r,h=>by
  simp only [isOk,Bool.and_eq_true,Bool.not_eq_true'] at h
  obtain ⟨⟨I,J⟩,ai⟩:=h
  obtain ⟨aC,aN⟩:=vG ai
  refine ⟨fun j ay=>?_,?_⟩
  · rcases List.mem_cons.1 ay with rfl|ay
    · exact Nat.le_of_ble_eq_true I
    · exact aC j ay
  · rw [List.nodup_cons]
    refine ⟨fun hm=>?_,aN⟩
    rw [I7.2 hm] at J;cases J
theorem yn {bs:List Nat} (aL:bs.Nodup):∀{is:List Nat},isOk bs.length is=true→(iS bs is).Nodup
 |[],_=>List.nodup_nil
 |i::r,h=>by
  have aq:=vG h
  simp only [isOk,Bool.and_eq_true,Bool.not_eq_true'] at h
  obtain ⟨⟨I,J⟩,ai⟩:=h
  simp only [iS,List.nodup_cons]
  refine ⟨fun hm=>?_,yn aL ai⟩
  obtain ⟨j,ay,e⟩:=vF hm
  have:=getD_inj aL (aq.1 i (List.mem_cons_self ..)) (aq.1 j (List.mem_cons_of_mem _ ay)) e
  subst this
  exact (List.nodup_cons.1 aq.2).1 ay
theorem so:∀{is:List Nat} {L os:List bz},(kC L is os).length=L.length
 |[],_,_=>by simp only [kC]
 |_::_,_,[]=>by simp only [kC]
 |i::r,L,o::os=>by rw [kC,so,List.length_set]
def tO (az:ad) (S:List Nat):ad:=fun b=>if b∈S then none else az b
theorem Ep {bs:List Nat} {is:List Nat} {os:List bz} {az:ad} (cd:(iS bs is).Nodup) (ar:is.length=os.length) {j i:Nat} {o:bz} (ay:is[j]?=some i) (av:os[j]?=some o):az.aX (mS bs is os) (bs.getD i 0)=some (er bs o):=by
 have ae:(iS bs is)[j]?=some (bs.getD i 0):=by
  clear cd ar av
  induction is generalizing j with
  |nil=>cases ay
  |cons a r aQ=>
   cases j with
   |zero=>simp only [List.getElem?_cons_zero,Option.some.injEq] at ay;subst ay;rfl
   |succ j=>simp only [iS,List.getElem?_cons_succ] at ay ⊢;exact aQ ay
 refine oa j ?_ ?_
 · rw [mS,List.map_fst_zip (by rw [I8,List.length_map];omega)];exact cd
 · simp only [mS,List.zip,List.getElem?_zipWith,ae,List.getElem?_map,av,Option.map_some]
theorem Er {bs:List Nat} {is:List Nat} {os:List bz} {az:ad} {b:Nat} (h:b∉iS bs is):az.aX (mS bs is os) b=az b:=by
 refine nt fun hm=>h ?_
 obtain ⟨p,aB,rfl⟩:=List.mem_map.1 hm
 exact (List.of_mem_zip aB).1
theorem Es:∀{is:List Nat} {L os:List bz},is.Nodup→(∀i∈is,i<L.length)→is.length=os.length→(∀(j i:Nat) (o:bz),is[j]?=some i→os[j]?=some o→(kC L is os)[i]?=some o)∧∀(i:Nat),i∉is→(kC L is os)[i]?=L[i]?
 |[],L,os,_,_,_=>⟨fun j i o h=>(by simp at h),fun _ _=>by simp only [kC]⟩
 |_::_,_,[],_,_,ar=>by cases ar
 |a::r,L,p::os,aL,bG,ar=>by
  obtain ⟨I,J⟩:=Es (is:=r) (L:=L.set a p) (os:=os) (List.nodup_cons.1 aL).2 (fun i ab=>by rw [List.length_set];exact bG i (List.mem_cons_of_mem _ ab)) (by simpa using ar)
  refine ⟨fun j i o ay av=>?_,fun i ab=>?_⟩
  · cases j with
    |zero=>
     simp only [List.getElem?_cons_zero,Option.some.injEq] at ay av
     subst ay;subst av
     rw [kC,J a (List.nodup_cons.1 aL).1]
     simp [bG a (List.mem_cons_self ..)]
    |succ j=>exact I j i o ay av
  · rw [kC,J i (fun h=>ab (List.mem_cons_of_mem _ h))]
    have:a≠i:=fun e=>ab (e▸List.mem_cons_self ..)
    simp [this]
theorem Ja (L:List bz):∀{is:List Nat} {j i:Nat},is[j]?=some i→i<L.length→(oe L is)[j]?=L[i]?
 |[],_,_,h,_=>by cases h
 |a::r,j,i,h,ab=>by
  have aL:nth L a=L[a]?:=j2 L a
  cases j with
  |zero=>
   simp only [List.getElem?_cons_zero,Option.some.injEq] at h
   subst h
   simp only [oe,aL,List.getElem?_eq_getElem ab,List.getElem?_cons_zero]
  |succ j=>
   simp only [List.getElem?_cons_succ] at h
   have:=Ja L h ab
   simp only [oe]
   split<;>simpa using this
theorem vH {bs:List Nat} {os:List bz} (g:Good bs L m) {is:List Nat} (ab:isOk L.length is=true) (ar:is.length=os.length):bK bs (kC L is os) m=(tO (bK bs L m) (iS bs is)).aX (mS bs is os):=by
 obtain ⟨I,J⟩:=vG ab
 have cd:=yn g.iR (by rw [g.len];exact ab)
 obtain ⟨s1,s2⟩:=Es (L:=L) J I ar
 have g2:Good bs (kC L is os) m:=⟨g.iR,by rw [so];exact g.len,g.fresh⟩
 funext b
 by_cases ae:b∈iS bs is
 · obtain ⟨i,Et,rfl⟩:=vF ae
   obtain ⟨j,ay⟩:=List.getElem?_of_mem Et
   have r1:j<os.length:=by
    rcases Nat.lt_or_ge j is.length with h|h
    · omega
    · rw [List.getElem?_eq_none h] at ay;cases ay
   rw [Ep cd ar ay (List.getElem?_eq_getElem r1),mO g2 (s1 j i _ ay (List.getElem?_eq_getElem r1))]
 · rw [Er ae,tO,if_neg ae]
   by_cases Eu:b∈bs
   · obtain ⟨i,j1⟩:=List.getElem?_of_mem Eu
     have Sl:i<bs.length:=by
      rcases Nat.lt_or_ge i bs.length with h|h
      · exact h
      · rw [List.getElem?_eq_none h] at j1;cases j1
     have e:b=bs.getD i 0:=by rw [List.getD_eq_getElem?_getD,j1];rfl
     subst e
     have x6:i∉is:=fun h=>ae (I9 h)
     have Jb:i<L.length:=by rw [←g.len];exact Sl
     rw [mO g (List.getElem?_eq_getElem Jb),mO g2 (by rw [s2 i x6];exact List.getElem?_eq_getElem Jb)]
   · rw [bK,nt (by rw [o0 g2.len];exact Eu),bK,nt (by rw [o0 g.len];exact Eu)]
theorem Ev:∀{is:List Nat} {L:List bz},isOk L.length is=true→kC L is (oe L is)=L:=fun {is L} ab=>by
 obtain ⟨I,J⟩:=vG ab
 obtain ⟨s1,s2⟩:=Es (L:=L) J I (vE L is).symm
 apply List.ext_getElem?
 intro i
 by_cases h:i∈is
 · obtain ⟨j,ay⟩:=List.getElem?_of_mem h
   have e:=Ja L ay (I i h)
   rw [List.getElem?_eq_getElem (I i h)] at e
   rw [s1 j i _ ay e,List.getElem?_eq_getElem (I i h)]
 · exact s2 i h
theorem fE {b0:List Nat} {P:Program} {f:FuncId} {vs:List a6} {Q:a6→List bz→ad→Prop} (is:List Nat) (os:List bz) (y:a6) (ab:(isOk L.length is&&Nat.beq is.length os.length)=true)
 (h:∀bs (az:ad),fx (iS bs is) az→∀(K:R→ad→Prop),K (den bs y) (az.aX (mS bs is os))→bn P f (bo bs vs) (az.aX (mS bs is (oe L is))) K) (gI:Q y (kC L is os) m):oc P b0 f vs fr L m Q:=by
 simp only [Bool.and_eq_true] at ab
 refine .one y (kC L is os) m (fun new g K U=>?_) (by rw [so,Nat.beq_refl];rfl) gI
 have cd:=yn g.iR (by rw [g.len];exact ab.1)
 have ax:=vH g ab.1 (vE L is).symm
 rw [Ev ab.1] at ax
 rw [ax]
 refine h (b0++new) _ ⟨cd,fun b ae=>by simp [tO,ae]⟩ K ?_
 have:=U [] (by rw [List.append_nil];exact ⟨g.iR,by rw [so];exact g.len,g.fresh⟩)
 rw [List.append_nil,vH g ab.1 (Nat.eq_of_beq_eq_true ab.2)] at this
 exact this
abbrev aw (n:Int):a6:= .aK (.int .i64 n)
abbrev bf (s:List UInt8):a6:= .aK (.str s)
abbrev e6 (b:Bool):a6:= .b (.raw b)
abbrev bj (l:List R):a6:= .aK (.slice false l)
end
end Go.bS
end
section
namespace Go.bh
open Go
section
variable {P:Program} {F:Nat→Prop} {lim:Nat→Nat} {w:World} {n:Nat} {fr:Fr} {m:ad} {ca:Act} {bu:List Nat}
theorem Sm (c:UInt8):(cB c).cells=[cB c]:=rfl
theorem Jc (c:UInt8):aF w lim (.int .u8 c.toNat) (cB c) []:= .int _ _ (by show (0:Int)≤_;omega) (by have:=c.toNat_lt;show _≤(255:Int);omega)
def sq (w:World) (eb:TypeId) (v:Value) (os:List Nat) (ne:Prop):Prop:=v= .slice none 0 0∨∃g n c cur,v= .slice (some ⟨g,0,none⟩) n c∧g∈os∧ne∧w.heap[g]?=some (.cells cur eb (0,0))
set_option maxHeartbeats 1000000 in
theorem Sn (st:bd F lim w n fr m ca bu) {t u e ty:TypeId} (ao:P.underlying t=some (.slice e)) (hu:P.underlying u=some .string) (aA:kp P e=true) (sk:P.cellsOf e=1) (iO:P.bytesOf e=1) {pC:Value} {l:List UInt8} (s:ByteArray) (ae:aF w lim pC (.slice true (l.map cB)) bu)
 (cU:l.length+s.size≤140737488355328) (aJ:sq w e pC bu (l.map cB≠[])):
 ∃fX w' lim' dS,sq w' e fX dS ((l++s.data.toList).map cB≠[])∧(Builtin.append_ #[t,u] ty #[pC, .string s]).run P w= .ok fX w'∧bd F lim' w' n fr m ca dS∧aF w' lim' fX (.slice true ((l++s.data.toList).map cB)) dS∧dc F w lim w' lim':=by
 obtain ⟨i,z,ab,lj,zx,zy,s9⟩:=w1 aA
 obtain ⟨hM,lk⟩:=s7 ab
 have pT:i.size=1:=by rw [←hM,sk]
 have j1:i.bytes=1:=by rw [←lk,iO]
 have b2:s.data.toList.length=s.size:=by rw [Array.length_toList];rfl
 have rQ:∀k:Nat,k≤140737488355328→k≤maxLen:=fun k aj=>by simp only [maxLen];omega
 by_cases mJ:s.size=0
 · have he:s.data.toList=[]:=List.eq_nil_of_length_eq_zero (by rw [b2,mJ])
   refine ⟨pC,w,lim,bu,by simpa [he] using aJ,?_,st,by simpa [he] using ae, .refl _ _ _⟩
   have aW:=Lib.run_firstCells_string (P:=P) w i.size s
   rw [mJ,show Lib.strCells s=[] from by simp [Lib.strCells,he]] at aW
   generalize jl:l.map cB=sl at ae
   cases ae with
   |fz own=>simp [Builtin.append_,run_underlying ao,run_underlying hu,sizeOf,typeInfo,ab,Builtin.lenOf,mJ,aW]
   |own b jH cap sz l cv cur b9 I J ai aC aN bE dk cW dB dV fj=>simp [Builtin.append_,run_underlying ao,run_underlying hu,sizeOf,typeInfo,ab,Builtin.lenOf,mJ,aW,J,storeCells]
 have jg:0<s.size:=Nat.pos_of_ne_zero mJ
 have eB:(l++s.data.toList).map cB≠[]:=fun ba=>by
  have:=congrArg List.length ba
  simp only [List.length_map,List.length_append,b2,List.length_nil] at this
  omega
 have rP:∀a,a<s.size→(Lib.strCells s)[a]?=some (.int .u8 (s.data.toList.getD a 0).toNat):=fun a aH=>by
  rw [←b2] at aH
  simp [Lib.strCells,List.getD_eq_getElem?_getD,List.getElem?_eq_getElem aH]
 have AU:∀a,a<l.length+s.size→((l++s.data.toList).map cB).getD a .aP=cB ((l++s.data.toList).getD a 0):=fun a aH=>by
  have:a<(l++s.data.toList).length:=by rw [List.length_append,b2];exact aH
  rw [List.getD_eq_getElem?_getD,List.getD_eq_getElem?_getD,List.getElem?_map,List.getElem?_eq_getElem this];rfl
 have rR:∀(fG:List Value) (eV:Nat),fG.length=l.length→(∀a,a<l.length→∃v,fG[a]?=some v∧aF w lim v (cB (l.getD a 0)) [])→l.length+s.size≤eV→eV≤maxLen→
  ∃lim' dS,dS=[w.heap.size]∧bd F lim' (w.drew.alloc (.cells (fG.toArray++(Lib.strCells s).toArray++Builtin.zeroCells z.cells (eV- (l.length+s.size))) e)) n fr m ca dS∧
   aF (w.drew.alloc (.cells (fG.toArray++(Lib.strCells s).toArray++Builtin.zeroCells z.cells (eV- (l.length+s.size))) e)) lim' (.slice (some ⟨w.heap.size,0,none⟩) (l.length+s.size) eV) (.slice true ((l++s.data.toList).map cB)) dS∧
   dc F w lim (w.drew.alloc (.cells (fG.toArray++(Lib.strCells s).toArray++Builtin.zeroCells z.cells (eV- (l.length+s.size))) e)) lim':=by
  intro fG eV av qP dT hm
  have ee:=dc.w0 (w':=w.drew) st rfl rfl rfl rfl (.cells (fG.toArray++(Lib.strCells s).toArray++Builtin.zeroCells z.cells (eV- (l.length+s.size))) e) (l.length+s.size)
  refine ⟨_,_,rfl,st.wZ (w':=w.drew) rfl _ (l.length+s.size),?_,ee⟩
  refine uN (sz:=1) (cv:=fun a _=> .int .u8 ((l++s.data.toList).getD a 0).toNat) (by simp [b2]) dT hm cU (.inl (by omega)) (nV w.drew _) ?_ (fun a aH=>?_) (by rw [pA,Nat.mul_one]) (fun a b aH ae=>?_) (fun a b aH ae=>?_)
  · simp only [Array.size_append,List.size_toArray,size_zeroCells,s9,pT,av,Lib.strCells_length];omega
  · rw [AU a aH];rfl
  · obtain rfl:b=0:=by omega
    rw [←Array.getElem?_toList]
    simp only [Array.toList_append,Nat.mul_one,Nat.add_zero]
    by_cases h:a<l.length
    · obtain ⟨v,bc,au⟩:=qP a h
      rw [List.append_assoc,List.getElem?_append_left (by simpa [av] using h),bc]
      have:(l++s.data.toList).getD a 0=l.getD a 0:=by simp [List.getD_eq_getElem?_getD,List.getElem?_append_left h]
      rw [this]
      have jC:=au
      unfold cB at jC
      cases jC
      rfl
    · rw [List.append_assoc,List.getElem?_append_right (by simp [av];omega),List.getElem?_append_left (by simp [av,Lib.strCells_length];omega)]
      rw [rP _ (by simp [av];omega)]
      have:(l++s.data.toList).getD a 0=s.data.toList.getD (a- l.length) 0:=by simp only [List.getD_eq_getElem?_getD];rw [List.getElem?_append_right (by omega)]
      rw [this,av]
  · obtain rfl:b=0:=by omega
    rw [AU a aH]
    exact Jc _
 generalize jl:l.map cB=sl at ae
 cases ae with
 |fz own=>
  obtain rfl:l=[]:=by simpa using jl
  have fN:=run_append_nil_string (P:=P) w t u ty e i z ao hu ab lj s jg (by have:s.size≤140737488355328:=by simpa using cU
                                                                            omega) (by rw [j1];have:s.size≤140737488355328:=by simpa using cU
                                                                                       omega)
  have dT:=grownCap_ge w s.size 0 e
  have n4:=grownCap_le_maxLen w s.size 0 e (rQ _ (by simpa using cU))
  have ax:(s.data.map fun b=>Value.int .u8 b.toNat)=(Lib.strCells s).toArray:=by
   apply Array.ext'
   simp [Lib.strCells]
  rw [ax] at fN
  obtain ⟨lim',dS,aq,I,J,ai⟩:=rR [] (grownCap w s.size 0 e) rfl (fun a aH=>absurd aH (Nat.not_lt_zero _)) (by simpa using dT) n4
  simp only [List.length_nil,Nat.zero_add,List.nil_append,Array.empty_append] at I J ai
  exact ⟨_,_,lim',dS, .inr ⟨_,_,_,_,rfl,by rw [aq];simp,eB,nV w.drew _⟩,fN,I,J,ai⟩
 |own b jH cap sz l' cv cur b9 I J ai aC aN bE dk cW dB dV fj=>
  subst jl
  have xw:l.length=jH:=by simpa using I
  subst xw
  have mn:∀a,a<l.length→(l.map cB).getD a .aP=cB (l.getD a 0):=fun a aH=>by simp [List.getD_eq_getElem?_getD,List.getElem?_eq_getElem aH]
  have oO:l.length=0∨sz=1:=by
   rcases Nat.eq_zero_or_pos l.length with h|h
   · exact .inl h
   · exact .inr (by rw [←cW 0 h,mn 0 h];rfl)
  have hh:∀a,a<l.length→∃v,w.cell? ⟨b,a,none⟩=some v∧aF w lim v (cB (l.getD a 0)) []:=fun a aH=>by
   rcases oO with h|h
   · omega
   · subst h
     have cX:=dV a 0 aH (by omega)
     have cI:=fj a 0 aH (by omega)
     rw [mn a aH] at cI
     simp only [Nat.mul_one,Nat.add_zero] at cX
     exact ⟨_,cX,cI⟩
  by_cases n1:l.length+s.size≤cap
  · have pz:sz=1:=by
     rcases oO with h|h
     · rcases aN with aN|aN<;>omega
     · exact h
    subst pz
    simp only [Nat.mul_one] at dk dB
    obtain rfl:b9=e:=by
     rcases aJ with aJ|⟨g,_,_,_,bc,_,_,a8⟩
     · cases aJ
     · cases bc
       rw [bE] at a8
       simp only [Option.some.injEq,Obj.cells.injEq] at a8
       exact a8.2.1
    have fN:(Builtin.append_ #[t,u] ty #[.slice (some ⟨b,0,none⟩) l.length cap, .string s]).run P w=
     .ok (.slice (some ⟨b,0,none⟩) (l.length+s.size) cap) (w.setRow b (cur.toList.take l.length++Lib.strCells s++cur.toList.drop (l.length+s.size)).toArray):=by
     have aW:=Lib.run_firstCells_string (P:=P) w 1 s
     have bW:=run_storeCells_at P b l.length b9 (Lib.strCells s) 0 cur w bE (by simpa [Lib.strCells_length] using (by omega:l.length+s.size≤cur.size)) (Lib.strCells_oneCell s)
     simp only [Nat.add_zero,Lib.strCells_length] at bW
     simp [Builtin.append_,run_underlying ao,run_underlying hu,sizeOf,typeInfo,ab,pT,Builtin.lenOf,n1,aW,Addr.add_lit,bW]
    generalize ck:(cur.toList.take l.length++Lib.strCells s++cur.toList.drop (l.length+s.size)).toArray=A at fN
    have l7:(w.setRow b A).heap[b]?=some (.cells A b9 (0,0)):=setRow_heap w b cur A b9 (0,0) bE
    have ib:∀k,k<l.length→A[k]?=cur[k]?:=fun k aj=>by
     rw [←ck]
     rw [List.getElem?_toArray,List.append_assoc,List.getElem?_append_left (by simp;omega),List.getElem?_take,if_pos aj,Array.getElem?_toList]
    obtain ⟨s1,s2⟩:=st.Cq (w':=w.setRow b A) (by simp) (fun c ag=>setRow_other w b c A ag) (l.length+s.size) (by omega) (fun o av=>by
     rw [←dB] at av
     simp [World.cell?,l7,bE,ib o av]) rfl rfl rfl
    refine ⟨_,_,_,[b], .inr ⟨_,_,_,_,rfl,by simp,eB,l7⟩,fN,s1,?_,s2⟩
    refine uN (sz:=1) (cv:=fun a _=> .int .u8 ((l++s.data.toList).getD a 0).toNat) (by simp [b2]) n1 ai cU (.inl (by omega)) l7 (by rw [←ck];simp [Lib.strCells_length];omega) (fun a aH=>?_) (by rw [pA,Nat.mul_one]) (fun a c7 aH ae=>?_) (fun a c7 aH ae=>?_)
    · rw [AU a aH];rfl
    · obtain rfl:c7=0:=by omega
      simp only [Nat.mul_one,Nat.add_zero]
      by_cases h:a<l.length
      · rw [ib a h]
        obtain ⟨v,cX,cI⟩:=hh a h
        simp only [World.cell?,bE] at cX
        have:(l++s.data.toList).getD a 0=l.getD a 0:=by simp [List.getD_eq_getElem?_getD,List.getElem?_append_left h]
        rw [this]
        unfold cB at cI
        cases cI
        exact cX
      · rw [←ck,List.getElem?_toArray,List.append_assoc,List.getElem?_append_right (by simp;omega),List.getElem?_append_left (by simp [Lib.strCells_length];omega)]
        have aI:(cur.toList.take l.length).length=l.length:=by simp;omega
        rw [aI,rP _ (by omega)]
        have:(l++s.data.toList).getD a 0=s.data.toList.getD (a- l.length) 0:=by simp only [List.getD_eq_getElem?_getD];rw [List.getElem?_append_right (by omega)]
        rw [this]
    · obtain rfl:c7=0:=by omega
      rw [AU a aH]
      exact Jc _
  · have Sp:∃fG:List Value,fG.length=l.length∧(∀a,a<l.length→∃v,fG[a]?=some v∧w.cell? ⟨b,a,none⟩=some v∧aF w lim v (cB (l.getD a 0)) []):=by
     refine ⟨(List.range l.length).map fun a=>(w.cell? ⟨b,a,none⟩).getD undef,by simp,fun a aH=>?_⟩
     obtain ⟨v,cX,cI⟩:=hh a aH
     exact ⟨v,by simp [aH,cX],cX,cI⟩
    obtain ⟨fG,av,hold⟩:=Sp
    have xb:=growslice_fits (need:=l.length+s.size) (old:=cap) (bytes:=i.bytes) (by omega) (by rw [j1];omega)
    have fN:=Lib.run_append_grow_string (P:=P) w t u ty e i z ao hu ab lj ⟨b,0,none⟩ l.length cap fG (by rw [pT,av,Nat.mul_one]) (fun j v ay=>by
     have bG:j<l.length:=by
      rw [←av]
      rcases Nat.lt_or_ge j fG.length with h|h
      · exact h
      · rw [List.getElem?_eq_none h] at ay;cases ay
     obtain ⟨fX,cX,cI,_⟩:=hold j bG
     rw [ay] at cX
     cases cX
     rw [addr_add,Nat.zero_add]
     exact cI) s (by omega) (by omega) xb
    have dT:=grownCap_ge w (l.length+s.size) cap e
    have n4:=grownCap_le_maxLen w (l.length+s.size) cap e (rQ _ cU)
    obtain ⟨lim',dS,aq,s1,s2,fk⟩:=rR fG (grownCap w (l.length+s.size) cap e) av (fun a aH=>by obtain ⟨v,cX,_,kZ⟩:=hold a aH;exact ⟨v,cX,kZ⟩) dT n4
    exact ⟨_,_,lim',dS, .inr ⟨_,_,_,_,rfl,by rw [aq];simp,eB,nV w.drew _⟩,fN,s1,s2,fk⟩
end
end Go.bh
end
section
namespace Go.bh
open Go
section
variable {P:Program} {F:Nat→Prop} {lim:Nat→Nat} {w:World} {n:Nat} {fr:Fr} {m:ad} {ca:Act} {bu:List Nat}
theorem bd.Jd {oK:Nat→Prop} (st:bd oK lim w n fr m ca bu) (h:∀c,F c→oK c):bd F lim w n fr m ca bu:=by
 obtain ⟨os,b6,bA,s⟩:=st
 exact ⟨os,b6,bA,s.size,s.defers,s.dX,fun b o ae=>⟨(s.mem b o ae).1,(s.mem b o ae).2.1,fun cE=>(s.mem b o ae).2.2 (h b cE)⟩,s.ey,s.ds,s.fL,fun c ag=>⟨fun cE=>(s.free c ag).1 (h c cE),(s.free c ag).2⟩,
  fun b ae=>⟨(s.fresh b ae).1,fun cE=>(s.fresh b ae).2.1 (h b cE),(s.fresh b ae).2.2⟩⟩
theorem bd.Je (st:bd F lim w n fr m ca []) {b:Nat} {e eb:TypeId} {l:List R} (hm:m b=some (.en e eb l)):
 ∃p v os,¬F b∧lim b=0∧w.heap[b]?=some (.cells #[p,v] e (0,0))∧(p= .pointer none∨p= .pointer (some ⟨b,0,none⟩))∧aF w lim v (.slice true l) os∧sq w eb v os (l≠[])∧
  (∀c∈os,¬F c∧m c=none∧c≠b)∧bd (fun c=>F c∨c=b) lim w n fr (m.bL b none) ca os∧bd (fun c=>F c∨c=b∨c∈os) lim w n fr (m.bL b none) ca []:=by
 obtain ⟨os,b6,bA,s⟩:=st
 obtain ⟨eI,ar,cE⟩:=s.mem b _ hm
 replace ar:lim b=0:=ar
 have hi:=s.ds b _ hm 1
 generalize a8:b6 b=gu at eI hi
 have bG:b<w.heap.size:=by
  rcases Nat.lt_or_ge b w.heap.size with h|h
  · exact h
  · rw [(s.fresh b h).2.2] at hm;cases hm
 have hS:∀(c:Nat) o,(m.bL b none) c=some o→c≠b∧m c=some o:=fun c o h=>by
  simp only [ad.bL] at h
  by_cases e:c=b
  · rw [if_pos e] at h;cases h
  · rw [if_neg e] at h;exact ⟨e,h⟩
 have AV:∀(c:Nat),m c=none→(m.bL b none) c=none:=fun c h=>by
  simp only [ad.bL];split
  · rfl
  · exact h
 cases eI with
 |en p v _ _ _ _ ae aB au Sq=>
  have kQ:∀c∈gu 1,¬F c∧m c=none∧c<w.heap.size:=fun c ag=>s.free c (by rw [hi.2 c ag];simp)
  have eB:∀c∈gu 1,c≠b:=fun c ag e=>by
   have:=(kQ c ag).2.1
   rw [e,hm] at this;cases this
  refine ⟨p,v,gu 1,cE,ar,ae,aB,au,Sq,fun c ag=>⟨(kQ c ag).1,(kQ c ag).2.1,eB c ag⟩,?_,?_⟩
  · refine ⟨os,b6,fun c=>if bA c= .nU b 1 then .lB else bA c,s.size,s.defers,s.dX,fun c o h=>?_,fun t x ah=>⟨(s.ey t x ah).1,fun c ag=>?_⟩,fun c o h i=>?_,⟨hi.1,fun c ag=>by rw [if_pos (hi.2 c ag)]⟩,fun c ag=>?_,fun c ag=>?_⟩
    · obtain ⟨ax,I⟩:=hS c o h
      have:=s.mem c o I
      exact ⟨this.1,this.2.1,fun ba=>ba.elim this.2.2 ax⟩
    · rw [(s.ey t x ah).2 c ag,if_neg (by simp)]
    · obtain ⟨ax,I⟩:=hS c o h
      refine ⟨(s.ds c o I i).1,fun d aY=>?_⟩
      rw [(s.ds c o I i).2 d aY,if_neg (by simp [ax])]
    · have hh:bA c≠ .none:=fun h=>ag (by rw [h,if_neg (by simp)])
      have:=s.free c hh
      refine ⟨fun ba=>ba.elim this.1 fun e=>?_,AV c this.2.1,this.2.2⟩
      have J:=this.2.1
      rw [e,hm] at J;cases J
    · have:=s.fresh c ag
      exact ⟨this.1,fun ba=>ba.elim this.2.1 fun e=>by omega,AV c this.2.2⟩
  · refine ⟨os,b6,fun c=>if bA c= .nU b 1 then .none else bA c,s.size,s.defers,s.dX,fun c o h=>?_,fun t x ah=>⟨(s.ey t x ah).1,fun c ag=>?_⟩,fun c o h i=>?_,⟨List.nodup_nil,fun c ag=>by cases ag⟩,fun c ag=>?_,fun c ag=>?_⟩
    · obtain ⟨ax,I⟩:=hS c o h
      have:=s.mem c o I
      refine ⟨this.1,this.2.1,fun ba=>ba.elim this.2.2 fun ba=>ba.elim ax fun ag=>?_⟩
      rw [(kQ c ag).2.1] at I;cases I
    · rw [(s.ey t x ah).2 c ag,if_neg (by simp)]
    · obtain ⟨ax,I⟩:=hS c o h
      refine ⟨(s.ds c o I i).1,fun d aY=>?_⟩
      rw [(s.ds c o I i).2 d aY,if_neg (by simp [ax])]
    · have yo:bA c≠ .nU b 1:=fun h=>ag (by rw [if_pos h])
      have hh:bA c≠ .none:=fun h=>ag (by rw [if_neg yo,h])
      have:=s.free c hh
      refine ⟨fun ba=>ba.elim this.1 fun ba=>ba.elim (fun e=>?_) (fun qu=>yo (hi.2 c qu)),AV c this.2.1,this.2.2⟩
      have J:=this.2.1
      rw [e,hm] at J;cases J
    · have:=s.fresh c ag
      exact ⟨this.1,fun ba=>ba.elim this.2.1 fun ba=>ba.elim (fun e=>by omega) (fun qu=>by have:=(kQ c qu).2.2;omega),AV c this.2.2⟩
theorem bd.Sr {b:Nat} {e eb:TypeId} {l:List R} {p v:Value} {qG:List Nat} (st:bd (fun c=>F c∨c=b) lim w n fr (m.bL b none) ca qG) (cE:¬F b) (ar:lim b=0) (ae:w.heap[b]?=some (.cells #[p,v] e (0,0)))
 (aB:p= .pointer none∨p= .pointer (some ⟨b,0,none⟩)) (au:aF w lim v (.slice true l) qG) (aJ:sq w eb v qG (l≠[])):bd F lim w n fr (m.bL b (some (.en e eb l))) ca []:=by
 obtain ⟨os,b6,bA,s⟩:=st
 have bG:b<w.heap.size:=by
  rcases Nat.lt_or_ge b w.heap.size with h|h
  · exact h
  · rw [Array.getElem?_eq_none h] at ae;cases ae
 have rN:∀c∈qG,bA c= .lB:=s.fL.2
 have iq:∀(c:Nat) (x:Option ed),c≠b→(m.bL b x) c=m c:=fun c x h=>by simp only [ad.bL,if_neg h]
 refine ⟨os,fun c=>if c=b then (fun i=>if i=1 then qG else []) else b6 c,fun c=>if c∈qG then .nU b 1 else bA c,s.size,s.defers,s.dX,fun c o h=>?_,fun t x ah=>⟨(s.ey t x ah).1,fun c ag=>?_⟩,fun c o h i=>?_,⟨List.nodup_nil,fun c ag=>by cases ag⟩,fun c ag=>?_,fun c ag=>?_⟩
 · by_cases ax:c=b
   · subst ax
     simp only [ad.bL,if_true] at h
     obtain rfl:=Option.some.inj h
     refine ⟨?_,ar,cE⟩
     simp only [if_true]
     exact .en p v _ _ _ _ ae aB (by simpa using au) (by simpa [sq] using aJ)
   · rw [iq c _ ax] at h
     simp only [if_neg ax]
     have:=s.mem c o (by rw [iq c _ ax];exact h)
     exact ⟨this.1,this.2.1,fun ba=>this.2.2 (.inl ba)⟩
 · have I:=(s.ey t x ah).2 c ag
   rw [if_neg (fun hm=>by rw [rN c hm] at I;cases I)]
   exact I
 · by_cases ax:c=b
   · subst ax
     simp only [if_true]
     by_cases ab:i=1
     · subst ab
       simp only [if_true]
       exact ⟨s.fL.1,fun d aY=>by rw [if_pos aY]⟩
     · simp [if_neg ab]
   · rw [iq c _ ax] at h
     simp only [if_neg ax]
     have J:=s.ds c o (by rw [iq c _ ax];exact h) i
     refine ⟨J.1,fun d aY=>?_⟩
     have I:=J.2 d aY
     rw [if_neg (fun hm=>by rw [rN d hm] at I;cases I)]
     exact I
 · have hh:bA c≠ .none:=fun h=>by
    by_cases hm:c∈qG
    · rw [rN c hm] at h;cases h
    · exact ag (by rw [if_neg hm,h])
   have:=s.free c hh
   have ax:c≠b:=fun e=>this.1 (.inr e)
   refine ⟨fun ba=>this.1 (.inl ba),?_,this.2.2⟩
   rw [iq c _ ax]
   have J:=this.2.1
   rwa [iq c _ ax] at J
 · have:=s.fresh c ag
   refine ⟨this.1,fun ba=>this.2.1 (.inl ba),?_⟩
   have ax:c≠b:=by omega
   rw [iq c _ ax]
   have J:=this.2.2
   rwa [iq c _ ax] at J
theorem bd.Jf {b i:Nat} {x:Value} (st:bd F lim w n fr m ca bu) (cE:F b) (ar:lim b=0):bd F lim (w.setCell ⟨b,i,none⟩ x) n fr m ca bu:=by
 have hm:m b=none:=by
  obtain ⟨os,b6,bA,s⟩:=st
  cases h:m b with
  |none=>rfl
  |some o=>exact ((s.mem b o h).2.2 cE).elim
 have aW:∀c,w.heap.size≤c→lim c=0:=fun c ag=>by
  obtain ⟨os,b6,bA,s⟩:=st
  exact (s.fresh c ag).1
 refine st.world (by simp) (fun _=>Nat.le_refl _) (fun c o av=>?_) (fun c ag=>?_) (fun c ag=>?_) (fun c ag=>aW c (by simpa using ag))
 · have:c≠b:=fun e=>by subst e;omega
   simp [World.cell?,heap_setCell_other w ⟨b,i,none⟩ c x this]
 · by_cases e:c=b
   · subst e;exact .inl fun h=>h.1 cE
   · exact .inr ⟨heap_setCell_other w ⟨b,i,none⟩ c x e,rfl⟩
 · have:c≠b:=fun e=>ag (e▸hm)
   exact ⟨heap_setCell_other w ⟨b,i,none⟩ c x this,rfl⟩
theorem Jg {b i:Nat} {x:Value} (cE:¬F b) (ar:lim b=0):dc F w lim (w.setCell ⟨b,i,none⟩ x) lim:=by
 refine ⟨rfl,rfl,rfl,by simp,fun c ag=>⟨heap_setCell_other w ⟨b,i,none⟩ c x (fun e=>by have aI:c=b:=e;subst aI;exact cE ag),rfl⟩,fun _=>Nat.le_refl _,fun c o av=>?_⟩
 have:c≠b:=fun e=>by subst e;omega
 simp [World.cell?,heap_setCell_other w ⟨b,i,none⟩ c x this]
theorem Jh {b i:Nat} {x v:Value} {y:R} {os:List Nat} (au:aF w lim v y os) (ar:lim b=0) (kQ:∀c∈os,c≠b):aF (w.setCell ⟨b,i,none⟩ x) lim v y os:=
 au.fA (fun _=>Nat.le_refl _) (fun c o av=>by
  have:c≠b:=fun e=>by subst e;omega
  simp [World.cell?,heap_setCell_other w ⟨b,i,none⟩ c x this]) (fun c ag=>⟨heap_setCell_other w ⟨b,i,none⟩ c x (kQ c ag),rfl⟩)
theorem Ji {b i:Nat} {x v:Value} {eb:TypeId} {os:List Nat} {ne:Prop} (h:sq w eb v os ne) (kQ:∀c∈os,c≠b):sq (w.setCell ⟨b,i,none⟩ x) eb v os ne:=by
 rcases h with h|⟨g,k,c,cur,I,J,ai,aC⟩
 · exact .inl h
 · exact .inr ⟨g,k,c,cur,I,J,ai,(heap_setCell_other w ⟨b,i,none⟩ g x (kQ g J)).trans aC⟩
theorem Ss {cargs:Array Value} (h:cargs.size=2):∃x y,cargs=#[x,y]:=by
 match cargs,h with
 |⟨[x,y]⟩,_=>exact ⟨x,y,rfl⟩
theorem AW {cargs:Array Value} (h:cargs.size=1):∃x,cargs=#[x]:=by
 match cargs,h with
 |⟨[x]⟩,_=>exact ⟨x,rfl⟩
set_option maxHeartbeats 1000000 in
theorem St {f:FuncId} {e eb t u:TypeId} (aW:∃fn,P.funcs[f]?=some fn∧fn.body.isSome=true∧(fn.name== "runtime.NumGoroutine")=false)
 (ao:P.underlying t=some (.slice eb)) (hu:P.underlying u=some .string) (aA:kp P eb=true) (sk:P.cellsOf eb=1) (iO:P.bytesOf eb=1)
 (fN:∀(b:Nat) (s:ByteArray) (w cH dO:World) (p:Value) (a:Option Addr) (n c:Nat) (cw:Option Addr) (qv hs:Nat),w.heap[b]?=some (.cells #[p, .slice a n c] e (0,0))→
   ((p= .pointer none∧cH=w.setCell ⟨b,0,none⟩ (.pointer (some ⟨b,0,none⟩)))∨(p= .pointer (some ⟨b,0,none⟩)∧cH=w))→
   (Builtin.append_ #[t,u] t #[.slice a n c, .string s]).run P cH= .ok (.slice cw qv hs) dO→dO.heap[b]?=some (.cells #[.pointer (some ⟨b,0,none⟩), .slice a n c] e (0,0))→
   Calls P f #[.pointer (some ⟨b,0,none⟩), .string s] w fun e w'=>e= .returned (.tuple #[.int .i64 s.size, .nilIface])∧w'=dO.setCell ⟨b,1,none⟩ (.slice cw qv hs))
 {b:Nat} {l s:List UInt8} {K:R→ad→Prop} (hm:m b=some (.en e eb (l.map cB))) (hlen:l.length+s.length≤140737488355328)
 (U:K (.tuple [.int .i64 s.length, .nilIface]) (m.bL b (some (.en e eb ((l++s).map cB))))):bn P f [.ptr ⟨b,0,none⟩, .str s] m K:=by
 refine ⟨aW,fun F lim w cargs al au st=>?_⟩
 obtain ⟨x,y,rfl⟩:=Ss al
 have pU:aF w lim x (.ptr ⟨b,0,none⟩) []:=au 0 (by simp)
 have hp:aF w lim y (.str s) []:=au 1 (by simp)
 cases pU
 obtain ⟨k3,rfl,rfl⟩:∃k3:ByteArray,y= .string k3∧k3.data.toList=s:=by
  cases hp with
  |str k3 h=>exact ⟨k3,rfl,rfl⟩
 have b2:k3.data.toList.length=k3.size:=by rw [Array.length_toList];rfl
 obtain ⟨p,v,os,cE,ar,ae,aB,qb,aJ,kQ,nz,_⟩:=st.Je hm
 have eB:∀c∈os,c≠b:=fun c ag=>(kQ c ag).2.2
 obtain ⟨cH,Ew,yp,Su,Jj,Ea,Sv⟩:∃cH,((p= .pointer none∧cH=w.setCell ⟨b,0,none⟩ (.pointer (some ⟨b,0,none⟩)))∨(p= .pointer (some ⟨b,0,none⟩)∧cH=w))∧
  bd (fun c=>F c∨c=b) lim cH 0 [] (m.bL b none) oP os∧aF cH lim v (.slice true (l.map cB)) os∧sq cH eb v os (l.map cB≠[])∧cH.heap[b]?=some (.cells #[.pointer (some ⟨b,0,none⟩),v] e (0,0))∧dc F w lim cH lim:=by
  rcases aB with rfl|rfl
  · exact ⟨_, .inl ⟨rfl,rfl⟩,nz.Jf (.inr rfl) ar,Jh qb ar eB,Ji aJ eB,by rw [heap_setCell_same _ b 0 _ e _ ae];rfl,Jg cE ar⟩
  · exact ⟨w, .inr ⟨rfl,rfl⟩,nz,qb,aJ,ae, .refl _ _ _⟩
 obtain ⟨fX,dO,lim',dS,AX,ck,AY,Sw,Jk⟩:=Sn (ty:=t) yp ao hu aA sk iO k3 Su (by rw [b2] at hlen;exact hlen) Jj
 obtain ⟨a,k,c,rfl⟩:∃a k c,v= .slice a k c:=by
  rcases Jj with h|⟨g,k,c,_,h,_⟩
  · exact ⟨_,_,_,h⟩
  · exact ⟨_,_,_,h⟩
 obtain ⟨cw,dU,hs,rfl⟩:∃a k c,fX= .slice a k c:=by
  rcases AX with h|⟨g,k,c,_,h,_⟩
  · exact ⟨_,_,_,h⟩
  · exact ⟨_,_,_,h⟩
 obtain ⟨jK,lL⟩:=Jk.res b (.inr rfl)
 rw [Ea] at jK
 rw [ar] at lL
 have Jl:∀c∈dS,c≠b:=fun c ag ax=>by
  obtain ⟨os,b6,bA,s⟩:=AY
  have:=(s.free c (by rw [s.fL.2 c ag];simp)).1
  exact this (.inr ax)
 refine (fN b k3 w cH dO p a k c cw dU hs ae Ew ck jK).mono fun ax lJ ⟨he,re⟩=>?_
 subst he;subst re
 have AZ:(dO.setCell ⟨b,1,none⟩ (.slice cw dU hs)).heap[b]?=some (.cells #[.pointer (some ⟨b,0,none⟩), .slice cw dU hs] e (0,0)):=by rw [heap_setCell_same _ b 1 _ e _ jK];rfl
 refine ⟨_,_,lim',_,[],rfl,U,?_,(AY.Jf (.inr rfl) lL).Sr cE lL AZ (.inr rfl) (Jh Sw lL Jl) (Ji AX Jl),(Sv.trans (Jk.weaken fun c ag=> .inl ag)).trans (Jg cE lL)⟩
 have:=aF.tuple (w:=dO.setCell ⟨b,1,none⟩ (.slice cw dU hs)) (lim:=lim') #[.int .i64 k3.size, .nilIface] [.int .i64 (k3.data.toList.length:Int), .nilIface] (fun _=>[]) rfl (fun i ab=>by
  match i,ab with
  |0,_=>
   rw [b2]
   exact .int _ _ (by show (-9223372036854775808:Int)≤_;omega) (by show _≤(9223372036854775807:Int);omega)
  |1,_=>exact .nilIface)
 exact this
end
end Go.bh
end
section
namespace Go.bh
open Go
section
variable {P:Program} {F:Nat→Prop} {lim:Nat→Nat} {w:World} {n:Nat} {fr:Fr} {m:ad} {ca:Act} {bu:List Nat}
theorem Jm (w:World) (a:Addr) (k c:Nat) (h:c≠a.block):(w.freeze a k).heap[c]?=w.heap[c]?:=by
 unfold World.freeze
 split
 · rfl
 · simp only [Array.getElem?_modify]
   rw [if_neg (fun e=>h e.symm)]
theorem Sx (w:World) (a:Addr) (k b o:Nat):(w.freeze a k).cell? ⟨b,o,none⟩=w.cell? ⟨b,o,none⟩:=by
 by_cases h:b=a.block
 · subst h
   unfold World.freeze
   split
   · rfl
   · simp only [World.cell?,Array.getElem?_modify,if_true]
     cases w.heap[a.block]? with
     |none=>rfl
     |some gu=>cases gu<;>rfl
 · simp [World.cell?,Jm w a k b h]
theorem Sy {g k c:Nat} {l:List UInt8} {os:List Nat} (au:aF w lim (.slice (some ⟨g,0,none⟩) k c) (.slice true (l.map cB)) os) (aq:l≠[]):
 k=l.length∧c≠0∧(∃cur e,w.heap[g]?=some (.cells cur e (0,0))∧l.length≤cur.size)∧(∀j x,l[j]?=some x→w.cell? ⟨g,j,none⟩=some (.int .u8 x.toNat))∧l.length≤140737488355328:=by
 have jg:0<l.length:=List.length_pos_iff.2 aq
 have mn:∀a,a<l.length→(l.map cB).getD a .aP=cB (l.getD a 0):=fun a aH=>by simp [List.getD_eq_getElem?_getD,List.getElem?_eq_getElem aH]
 generalize jl:l.map cB=sl at au
 cases au with
 |own b jH cap sz l' cv cur b9 I J ai aC aN bE dk cW dB dV fj=>
  subst jl
  obtain rfl:l.length=k:=by simpa using I
  have b2:sz=1:=by rw [←cW 0 jg,mn 0 jg];rfl
  subst b2
  refine ⟨rfl,by omega,⟨cur,b9,bE,by omega⟩,fun j x ah=>?_,aC⟩
  have ay:j<l.length:=by
   rcases Nat.lt_or_ge j l.length with h|h
   · exact h
   · rw [List.getElem?_eq_none h] at ah;cases ah
  have cX:=dV j 0 ay (by omega)
  have cI:=fj j 0 ay (by omega)
  rw [mn j ay,Sm] at cI
  simp only [Nat.mul_one,Nat.add_zero] at cX
  have Sz:l.getD j 0=x:=by simp [List.getD_eq_getElem?_getD,ah]
  rw [Sz] at cI
  have kZ:aF w lim (cv j 0) (.int .u8 x.toNat) []:=cI
  generalize cv j 0=mH at cX kZ
  cases kZ
  exact cX
theorem bd.Jn {b:Nat} {e:TypeId} {p v:Value} (st:bd (fun c=>F c∨c=b) lim w n fr (m.bL b none) ca []) (cE:¬F b) (ar:lim b=0) (ae:w.heap[b]?=some (.cells #[p,v] e (0,0))):bd F lim w n fr (m.bL b (some (.cells [.aP, .aP]))) ca []:=by
 obtain ⟨os,b6,bA,s⟩:=st
 have bG:b<w.heap.size:=by
  rcases Nat.lt_or_ge b w.heap.size with h|h
  · exact h
  · rw [Array.getElem?_eq_none h] at ae;cases ae
 have iq:∀(c:Nat) (x:Option ed),c≠b→(m.bL b x) c=m c:=fun c x h=>by simp only [ad.bL,if_neg h]
 refine ⟨os,fun c=>if c=b then (fun _=>[]) else b6 c,bA,s.size,s.defers,s.dX,fun c o h=>?_,s.ey,fun c o h i=>?_,s.fL,fun c ag=>?_,fun c ag=>?_⟩
 · by_cases ax:c=b
   · subst ax
     simp only [ad.bL,if_true] at h
     obtain rfl:=Option.some.inj h
     refine ⟨?_,ar,cE⟩
     simp only [if_true]
     refine .cells _ e _ _ ae rfl fun i ab=>?_
     match i,ab with
     |0,_=>exact .aP _
     |1,_=>exact .aP _
   · rw [iq c _ ax] at h
     simp only [if_neg ax]
     have:=s.mem c o (by rw [iq c _ ax];exact h)
     exact ⟨this.1,this.2.1,fun ba=>this.2.2 (.inl ba)⟩
 · by_cases ax:c=b
   · simp [ax]
   · rw [iq c _ ax] at h
     simp only [if_neg ax]
     exact s.ds c o (by rw [iq c _ ax];exact h) i
 · have:=s.free c ag
   have ax:c≠b:=fun e=>this.1 (.inr e)
   refine ⟨fun ba=>this.1 (.inl ba),?_,this.2.2⟩
   rw [iq c _ ax]
   have J:=this.2.1
   rwa [iq c _ ax] at J
 · have:=s.fresh c ag
   refine ⟨this.1,fun ba=>this.2.1 (.inl ba),?_⟩
   have ax:c≠b:=by omega
   rw [iq c _ ax]
   have J:=this.2.2
   rwa [iq c _ ax] at J
theorem bd.drew (st:bd F lim w n fr m ca bu):bd F lim w.drew n fr m ca bu:=st.heap rfl
set_option maxHeartbeats 1000000 in
theorem SA {f:FuncId} {e eb:TypeId} (aW:∃fn,P.funcs[f]?=some fn∧fn.body.isSome=true∧(fn.name== "runtime.NumGoroutine")=false)
 (fN:∀(b g c:Nat) (p:Value) (cur:Array Value) (l:List UInt8) (w:World),l≠[]→c≠0→l.length≤9223372036854775807→w.heap[b]?=some (.cells #[p, .slice (some ⟨g,0,none⟩) l.length c] e (0,0))→
   w.heap[g]?=some (.cells cur eb (0,0))→l.length≤cur.size→(∀j x,l[j]?=some x→w.cell? ⟨g,j,none⟩=some (.int .u8 x.toNat))→
   Calls P f #[.pointer (some ⟨b,0,none⟩)] w fun e w'=>e= .returned (.string ⟨l.toArray⟩)∧w'=w.drew.freeze ⟨g,0,none⟩ l.length)
 (mJ:∀(b:Nat) (p:Value) (w:World),w.heap[b]?=some (.cells #[p, .slice none 0 0] e (0,0))→Calls P f #[.pointer (some ⟨b,0,none⟩)] w fun e w'=>e= .returned (.string ⟨#[]⟩)∧w'=w.drew)
 {b:Nat} {l:List UInt8} {K:R→ad→Prop} (hm:m b=some (.en e eb (l.map cB))) (U:K (.str l) (m.bL b (some (.cells [.aP, .aP])))):bn P f [.ptr ⟨b,0,none⟩] m K:=by
 refine ⟨aW,fun F lim w cargs al au st=>?_⟩
 obtain ⟨x,rfl⟩:=AW al
 have pU:aF w lim x (.ptr ⟨b,0,none⟩) []:=au 0 (by simp)
 cases pU
 obtain ⟨p,v,os,cE,ar,ae,aB,qb,aJ,kQ,_,nz⟩:=st.Je hm
 rcases aJ with rfl|⟨g,k,c,cur,rfl,a8,eB,Jo⟩
 · have iP:l=[]:=by
    generalize jl:l.map cB=sl at qb
    cases qb
    simpa using jl
   subst iP
   refine (mJ b p w ae).mono fun ax lJ ⟨he,re⟩=>?_
   subst he;subst re
   exact ⟨_,_,lim,_,[],rfl,U, .str ⟨#[]⟩ (Nat.zero_le _),((nz.drew).Jd fun c ag=>ag.elim .inl fun h=> .inr (.inl h)).Jn cE ar ae, .drew _ _ _⟩
 · have aq:l≠[]:=fun h=>eB (by rw [h];rfl)
   obtain ⟨rfl,uF,⟨Jp,b9,sr,hle⟩,fU,hlen⟩:=Sy qb aq
   have ib:Jp=cur:=by
    rw [Jo] at sr
    simp only [Option.some.injEq,Obj.cells.injEq] at sr
    exact sr.1.symm
   subst ib
   obtain ⟨SB,SC,Jq⟩:=kQ g a8
   refine (fN b g c p Jp l w aq uF (by omega) ae Jo hle fU).mono fun ax lJ ⟨he,re⟩=>?_
   subst he;subst re
   have aW:∀c,w.heap.size≤c→lim c=0:=fun c ag=>by
    obtain ⟨os,b6,bA,s⟩:=nz
    exact (s.fresh c ag).1
   have b2:(w.drew.freeze ⟨g,0,none⟩ l.length).heap.size=w.heap.size:=by
    unfold World.freeze
    split
    · rfl
    · simp [heap_drew]
   have A0:∀c,c≠g→(w.drew.freeze ⟨g,0,none⟩ l.length).heap[c]?=w.heap[c]?:=fun c ag=>by rw [Jm _ _ _ _ ag,heap_drew]
   have kq:∀b o,(w.drew.freeze ⟨g,0,none⟩ l.length).cell? ⟨b,o,none⟩=w.cell? ⟨b,o,none⟩:=fun b o=>by rw [Sx];simp [World.cell?,heap_drew]
   have AY:bd (fun c=>F c∨c=b∨c∈os) lim (w.drew.freeze ⟨g,0,none⟩ l.length) 0 [] (m.bL b none) oP []:=by
    refine nz.world (by rw [b2];exact Nat.le_refl _) (fun _=>Nat.le_refl _) (fun b o _=>kq b o) (fun c ag=>?_) (fun c ag=>?_) (fun c ag=>aW c (by rw [←b2];exact ag))
    · by_cases ax:c=g
      · subst ax;exact .inl fun h=>h.1 (.inr (.inr a8))
      · exact .inr ⟨A0 c ax,rfl⟩
    · have ax:c≠g:=fun ax=>by
       subst ax
       apply ag
       simp only [ad.bL,if_neg Jq]
       exact SC
      exact ⟨A0 c ax,rfl⟩
   refine ⟨_,_,lim,_,[],rfl,U,?_,(AY.Jd fun c ag=>ag.elim .inl fun h=> .inr (.inl h)).Jn cE ar (by rw [A0 b (Ne.symm Jq)];exact ae),?_⟩
   · have:=aF.str (w:=w.drew.freeze ⟨g,0,none⟩ l.length) (lim:=lim) ⟨l.toArray⟩ (by rw [show (⟨l.toArray⟩:ByteArray).size=l.length from rfl];exact hlen)
     exact this
   · refine ⟨?_,?_,?_,by rw [b2];exact Nat.le_refl _,fun c ag=>⟨A0 c (fun ax=>SB (ax▸ag)),rfl⟩,fun _=>Nat.le_refl _,fun b o _=>kq b o⟩
     all_goals (unfold World.freeze;split<;>rfl)
theorem SD {ops:Array Oper} {l:List Oper} {K:Fr→ad→Prop} {d:Nat} {t eb:TypeId} {ty:TypeId} {pos:String} {af:Array Edge} {i:TypeInfo} (ab:P.info? t=some i) (aA:i.zero=some (.agg #[.pointer none, .slice none 0 0]))
 (aj:eQ n ⟨some d, .alloc t,ty,pos,af,none⟩=true) (h:∀b,m b=none→bQ P n ops l K (fr.put d (.ptr ⟨b,0,none⟩)) (m.bL b (some (.en t eb [])))):bQ P n ops (⟨some d, .alloc t,ty,pos,af,none⟩::l) K fr m:=by
 refine bQ.step rfl fun F lim w ca st next Q aL=>?_
 have fN:(execOp ca.eval ⟨some d, .alloc t,ty,pos,af,none⟩).run P w= .ok (.value (.pointer (some ⟨w.heap.size,0,none⟩))) (w.alloc (.cells #[.pointer none, .slice none 0 0] t)):=by
  simp [execOp,Instr.alloc,newVar,newRow,zeroValue,typeInfo,ab,aA,Value.cells]
 obtain ⟨I,J⟩:=st.zg #[.pointer none, .slice none 0 0] t [.fc, .slice true []] rfl (fun i ab=>by
  match i,ab with
  |0,_=>exact .fc
  |1,_=>exact .fz true)
 have yo:w.heap[w.heap.size]?=none:=by simp
 have yp:bd F lim (w.alloc (.cells #[.pointer none, .slice none 0 0] t)) n fr (m.bL w.heap.size (some (.en t eb []))) ca []:=by
  obtain ⟨os,b6,bA,s⟩:=J
  have iq:∀(c:Nat) (x:Option ed),c≠w.heap.size→(m.bL w.heap.size x) c=m c:=fun c x h=>by simp only [ad.bL,if_neg h]
  refine ⟨os,fun c=>if c=w.heap.size then (fun _=>[]) else b6 c,bA,s.size,s.defers,s.dX,fun c o h=>?_,s.ey,fun c o h i=>?_,s.fL,fun c ag=>?_,fun c ag=>?_⟩
  · by_cases ax:c=w.heap.size
    · subst ax
      simp only [ad.bL,if_true] at h
      obtain rfl:=Option.some.inj h
      have:=s.mem w.heap.size (.cells [.fc, .slice true []]) (by simp only [ad.bL,if_true])
      refine ⟨?_,this.2⟩
      simp only [if_true]
      exact .en _ _ _ _ _ _ (nV w _) (.inl rfl) (.fz true) (.inl rfl)
    · rw [iq c _ ax] at h
      simp only [if_neg ax]
      exact s.mem c o (by rw [iq c _ ax];exact h)
  · by_cases ax:c=w.heap.size
    · simp [ax]
    · rw [iq c _ ax] at h
      simp only [if_neg ax]
      exact s.ds c o (by rw [iq c _ ax];exact h) i
  · have:=s.free c ag
    refine ⟨this.1,?_,this.2.2⟩
    have ax:c≠w.heap.size:=fun ax=>by
     have J:=this.2.1
     rw [ax] at J
     simp [ad.bL] at J
    rw [iq c _ ax]
    have J:=this.2.1
    rwa [iq c _ ax] at J
  · have:=s.fresh c ag
    refine ⟨this.1,this.2.1,?_⟩
    have ax:c≠w.heap.size:=fun ax=>by
     have J:=this.2.2
     rw [ax] at J
     simp [ad.bL] at J
    rw [iq c _ ax]
    have J:=this.2.2
    rwa [iq c _ ax] at J
 have ee:=th st (.cells #[.pointer none, .slice none 0 0] t)
 exact nk fN (aL lim _ _ _ _ (h _ I) (yp.set (iJ aj rfl) (.ptr _)) ee)
end
end Go.bh
end
section
namespace Go.bS
open Go Go.bh
section
variable {c:gl} {L:List bz} {fr:bT} {m:ad}
theorem aG {P:Program} {b0:List Nat} {d:Nat} {t eb:TypeId} {i:TypeInfo} {k:cr} (ab:P.info? t=some i) (aA:i.zero=some (.agg #[.pointer none, .slice none 0 0])) (al:(o1 L.length fr&&lp L.length L)=true)
 (h:k ((d, .loc L.length 0)::fr) (L++[.obj (.en t eb [])]) m):ik P b0 (some d) (.alloc t) fr L m k:=
 ⟨fun new g n ops ty pos af l K aj aL U=>SD (eb:=eb) ab aA aj fun b ae=>by
   simp only [Bool.and_eq_true] at al
   have aL:yb fr L (.obj (.en t eb [])) (fun b bJ=>k ((d, .loc b 0)::fr) bJ m):=dN.2 ⟨al.1,dN.2 ⟨al.2,h⟩⟩
   obtain ⟨h,dQ,ax,aI,cR,_⟩:=AP g aL ae
   have:=U _ _ _ (b0++new++[b]) (by rw [List.append_assoc];exact List.prefix_append _ _) dQ h
   rw [ax] at this
   simp only [bm,er,den,cR] at this
   rw [aI] at this
   exact this⟩
theorem fQ {b0:List Nat} {P:Program} {f:FuncId} {vs:List a6} {Q:a6→List bz→ad→Prop} (is:List Nat) (os:List bz) (y:a6) (ab:(isOk L.length is&&Nat.beq is.length os.length)=true)
 (h:∀bs (az:ad),fx (iS bs is) az→(∀b o,m b=some o→az b=some o)→∀(K:R→ad→Prop),K (den bs y) (az.aX (mS bs is os))→bn P f (bo bs vs) (az.aX (mS bs is (oe L is))) K) (gI:Q y (kC L is os) m):oc P b0 f vs fr L m Q:=by
 simp only [Bool.and_eq_true] at ab
 refine .one y (kC L is os) m (fun new g K U=>?_) (by rw [so,Nat.beq_refl];rfl) gI
 have cd:=yn g.iR (by rw [g.len];exact ab.1)
 have ax:=vH g ab.1 (vE L is).symm
 rw [Ev ab.1] at ax
 rw [ax]
 refine h (b0++new) _ ⟨cd,fun b ae=>by simp [tO,ae]⟩ (fun b o ae=>?_) K ?_
 · have I:b∉b0++new:=fun hm=>by rw [g.fresh b hm] at ae;cases ae
   have J:b∉iS (b0++new) is:=fun hm=>by
    obtain ⟨i,j1,e⟩:=vF hm
    have bG:=(vG ab.1).1 i j1
    rw [←g.len] at bG
    apply I
    rw [e,List.getD_eq_getElem?_getD,List.getElem?_eq_getElem bG]
    exact List.getElem_mem _
   simp only [tO,if_neg J,bK]
   rw [nt (by rw [o0 g.len];exact I)]
   exact ae
 · have:=U [] (by rw [List.append_nil];exact ⟨g.iR,by rw [so];exact g.len,g.fresh⟩)
   rw [List.append_nil,vH g ab.1 (Nat.eq_of_beq_eq_true ab.2)] at this
   exact this
end
end Go.bS
namespace Go.bh
open Go
section
variable {P:Program} {F:Nat→Prop} {lim:Nat→Nat} {w:World} {n:Nat} {fr:Fr} {m:ad} {ca:Act} {bu:List Nat}
theorem bd.grow (st:bd F lim w n fr m ca bu) (os:Array Obj) (k:Nat):bd F lim (Sort.grow (w.drewN k) os) n fr m ca bu:=by
 have ba:(w.drewN k).heap=w.heap:=by simp
 have ar:∀c,c<w.heap.size→(Sort.grow (w.drewN k) os).heap[c]?=w.heap[c]?:=fun c ag=>by
  simp only [Sort.grow,ba]
  rw [Array.getElem?_append_left ag]
 have aW:∀c,w.heap.size≤c→lim c=0:=fun c ag=>by
  obtain ⟨_,_,_,s⟩:=st
  exact (s.fresh c ag).1
 have hm:∀b,m b≠none→b<w.heap.size:=fun b ae=>st.p4 ae
 have fU:∀b o,o<lim b→b<w.heap.size:=fun b o av=>st.qF av
 refine st.world (by simp [Sort.grow]) (fun _=>Nat.le_refl _) (fun b o av=>by simp [World.cell?,ar b (fU b o av)]) (fun c ag=> .inr ⟨ar c ag,rfl⟩) (fun b ae=>⟨ar b (hm b ae),rfl⟩) (fun c ag=>aW c (by simp [Sort.grow] at ag;omega))
theorem Jr (st:bd F lim w n fr m ca bu) (os:Array Obj) (k:Nat):dc F w lim (Sort.grow (w.drewN k) os) lim:=by
 have ba:(w.drewN k).heap=w.heap:=by simp
 have ar:∀c,c<w.heap.size→(Sort.grow (w.drewN k) os).heap[c]?=w.heap[c]?:=fun c ag=>by
  simp only [Sort.grow,ba]
  rw [Array.getElem?_append_left ag]
 refine ⟨rfl,rfl,rfl,by simp [Sort.grow],fun b ae=>⟨ar b (st.pt ae),rfl⟩,fun _=>Nat.le_refl _,fun b o av=>by simp [World.cell?,ar b (st.qF av)]⟩
def yq (e:TypeId) (z:Nat×Nat) (k:IntKind) (gk:List Int):ed:= .lb e z (gk.map (Value.int k)).toArray
theorem Js {e:TypeId} {z:Nat×Nat} {k:IntKind} {gk:List Int} {b:Nat} {os:Nat→List Nat} {name:String} (h:kk w lim b (yq e z k gk) os) (a8:P.globalNamed name=some b):Lib.TabIs P w name k gk:=by
 unfold yq at h
 cases h with
 |lb _ _ _ _ ae=>simp only [Lib.TabIs,World.var?,a8,Option.bind_some,ae]
theorem SE {f:FuncId} {name:String} {tP:Nat} {e:TypeId} {z:Nat×Nat} (aW:∃fn,P.funcs[f]?=some fn∧fn.body.isSome=true∧(fn.name== "runtime.NumGoroutine")=false) (a8:P.globalNamed name=some tP)
 (fN:∀(n:Int),-9223372036854775808≤n→n≤9223372036854775807→∀w,Lib.TabIs P w name .u64 Lib.pow10Tab→Calls P f #[.int .i64 n] w fun e w'=>e= .returned (.string ⟨(Lib.itoa n).toArray⟩)∧∃k os,w'=Sort.grow (w.drewN k) os)
 {n:Int} {K:R→ad→Prop} (hm:m tP=some (yq e z .u64 Lib.pow10Tab)) (hlen:(Lib.itoa n).length≤140737488355328) (U:K (.str (Lib.itoa n)) m):bn P f [.int .i64 n] m K:=by
 refine ⟨aW,fun F lim w cargs al au st=>?_⟩
 obtain ⟨x,rfl⟩:=AW al
 have pU:aF w lim x (.int .i64 n) []:=au 0 (by simp)
 obtain ⟨rfl,bD,ab⟩:x= .int .i64 n∧-9223372036854775808≤n∧n≤9223372036854775807:=by
  cases pU with
  |int _ _ bD ab=>exact ⟨rfl,bD,ab⟩
 have rf:Lib.TabIs P w name .u64 Lib.pow10Tab:=by
  obtain ⟨os,b6,bA,s⟩:=st
  exact Js (s.mem tP _ hm).1 a8
 refine (fN n bD ab w rf).mono fun ax lJ ⟨he,k,os,re⟩=>?_
 subst he;subst re
 exact ⟨_,_,lim,_,[],rfl,U, .str ⟨(Lib.itoa n).toArray⟩ (by rw [show (⟨(Lib.itoa n).toArray⟩:ByteArray).size=(Lib.itoa n).length from rfl];exact hlen),st.grow os k,Jr st os k⟩
end
end Go.bh
end
section
namespace Go.bh
open Go
inductive jr:R→Prop
 |bool (b:Bool):jr (.bool b)
 |int (k:IntKind) (n:Int) (h:k≠ .u64):jr (.int k n)
 |str (s:List UInt8):jr (.str s)
 |slice (l:List R) (I:∀x∈l,x.cells≠[]) (h:∀x∈l,∀y∈x.cells,jr y):jr (.slice false l)
 |agg (l:List R) (h:∀y∈l,jr y):jr (.agg l)
theorem SF {w:World} {lim:Nat→Nat} {n:Int} {x:R} {os:List Nat} (h:aF w lim (.int .u64 n) x os) (ah:jr x):False:=by
 cases ah with
 |bool b=>cases h
 |int k m aj=>
  cases h with
  |int=>exact aj rfl
 |str s=>cases h
 |slice l mo ar=>cases h
 |agg l ar=>cases h
section
variable {P:Program}
end
end Go.bh
end
section
namespace Go.bS
open Go Go.bh
def su (m' m:ad):Prop:=∀b dn,m' b=some dn→∃o,m b=some o∧(dn=o∨∃l l',o= .cells l∧dn= .cells l'∧l'.length=l.length∧∀i,lq (l'.getD i .aP) (l.getD i .aP))
section
variable {P:Program} {F:Nat→Prop} {lim:Nat→Nat} {w:World} {n:Nat} {fr:Fr} {m m':ad} {ca:Act} {bu:List Nat}
theorem bd.sv (st:bh.bd F lim w n fr m ca bu) (al:su m' m):bh.bd F lim w n fr m' ca bu:=by
 classical
 obtain ⟨os,b6,bA,h⟩:=st
 let p:Nat→Nat→Prop:=fun b i=>m' b=m b∨∃l l',m b=some (.cells l)∧m' b=some (.cells l')∧l'.getD i .aP=l.getD i .aP
 have aL:∀b,m b=none→m' b=none:=fun b ae=>by
  cases e8:m' b with
  |none=>rfl
  |some o=>obtain ⟨o5,J,_⟩:=al b o e8;rw [ae] at J;cases J
 refine ⟨os,fun b i=>if p b i then b6 b i else [],bA,h.size,h.defers,h.dX,fun b dn ae=>?_,h.ey,fun b dn ae i=>?_,h.fL,fun c ag=>⟨(h.free c ag).1,aL c (h.free c ag).2.1,(h.free c ag).2.2⟩,fun b ae=>⟨(h.fresh b ae).1,(h.fresh b ae).2.1,aL b (h.fresh b ae).2.2⟩⟩
 · obtain ⟨o,av,au⟩:=al b dn ae
   obtain ⟨eI,J,ai⟩:=h.mem b o av
   refine ⟨?_,J.trans (by rcases au with rfl|⟨_,_,rfl,rfl,_⟩<;>rfl),ai⟩
   rcases au with rfl|⟨l,l',rfl,rfl,hlen,hle⟩
   · have:(fun i=>if p b i then b6 b i else [])=b6 b:=by
      funext i
      exact if_pos (.inl (ae.trans av.symm))
     rw [this];exact eI
   · cases eI with
     |cells cs e _ _ SG b2 xJ=>
      refine .cells cs e l' _ SG (b2.trans hlen.symm) fun i ab=>?_
      have eH:i<l.length:=hlen▸ab
      by_cases aB:p b i
      · rw [if_pos aB]
        have e:l'.getD i .aP=l.getD i .aP:=by
         rcases aB with aB|⟨a,cw,aC,aN,bE⟩
         · rw [ae,av] at aB
           simp only [Option.some.injEq,ed.cells.injEq] at aB
           rw [aB]
         · rw [av] at aC;rw [ae] at aN
           simp only [Option.some.injEq,ed.cells.injEq] at aC aN
           rw [aC,aN];exact bE
        rw [e];exact xJ i eH
      · rw [if_neg aB]
        rcases hle i with e|e
        · exact absurd (.inr ⟨l,l',av,ae,e⟩) aB
        · exact e _ _ _ _ (xJ i eH)
 · obtain ⟨o,av,_⟩:=al b dn ae
   show (if p b i then b6 b i else []).Nodup∧∀c∈(if p b i then b6 b i else []),_
   split
   · exact h.ds b o av i
   · exact ⟨List.nodup_nil,fun c ag=>by cases ag⟩
end
section
variable {P:Program} {n:Nat} {fr:Fr} {m m':ad} {ops:Array Oper} {l:List Oper} {K:Fr→ad→Prop}
theorem bQ.sv (al:su m' m) (h:bQ P n ops l K fr m'):bQ P n ops l K fr m:=fun F lim w ca Q st aO=>h F lim w ca Q (bd.sv st al) aO
theorem b7.sv {c:Code} {Q:Exit→Fr→ad→Prop} (al:su m' m) (h:b7 P n c Q fr m'):b7 P n c Q fr m:=fun F lim w ca st=>h F lim w ca (bd.sv st al)
end
theorem lq.aP (x:R):lq .aP x:= .inr fun _ _ _ _ _=> .aP _
theorem lq.fz:lq .fz (.slice true []):= .inr fun w lim v os h=>by
 generalize ah:R.slice true []=x at h
 cases h with
 |fz o=>exact .pq _
 |own b n cap sz l cv cur e aL dT hm cU aq ae ib b2 ek ag au=>
  cases ah
  simp only [List.length_nil] at aL
  subst aL
  rcases aq with aq|aq
  · omega
  · subst aq;exact .pq _
 |_=>cases ah
mutual
def js (i:Nat):a6→Bool
 | .loc j _| .ms j _ _| .mp j| .hY j _ _ _| .bO j _ _ _=>Nat.beq i j
 | .agg l| .ez l=>tQ i l
 | .fn _ a c=>bif tQ i a then true else tQ i c
 |_=>false
def tQ (i:Nat):List a6→Bool
 |[]=>false
 |v::r=>bif js i v then true else tQ i r
end
def yr (i:Nat):bT→(bT→Prop)→Prop
 |[],k=>k []
 |(t,v)::r,k=>bif js i v then yr i r fun dW=>k ((t, .aK .aP)::dW) else yr i r fun dW=>k ((t,v)::dW)
def ys (i:Nat):List a6→(List a6→Prop)→Prop
 |[],k=>k []
 |v::r,k=>bif js i v then ys i r fun dW=>k (.aK .aP::dW) else ys i r fun dW=>k (v::dW)
def yt (i:Nat):List bz→(List bz→Prop)→Prop
 |[],k=>k []
 | .cells l::r,k=>ys i l fun l'=>yt i r fun dW=>k (.cells l'::dW)
 | .obj o::r,k=>yt i r fun dW=>k (.obj o::dW)
theorem getD_set_ne {bs:List Nat} {i j b:Nat} (h:Nat.beq i j=false):(bs.set i b).getD j 0=bs.getD j 0:=by
 have:i≠j:=fun e=>by subst e;rw [Nat.beq_refl] at h;cases h
 simp [List.getD_eq_getElem?_getD,List.getElem?_set_ne this]
mutual
theorem Ex {bs:List Nat} {i b:Nat}:∀{v:a6},js i v=false→den (bs.set i b) v=den bs v
 | .aK _,_=>by simp only [den]
 | .own _,_=>by simp only [den]
 | .b _,_=>by simp only [den]
 | .loc j o,h=>by simp only [js] at h;simp only [den,getD_set_ne h]
 | .ms j o c,h=>by simp only [js] at h;simp only [den,getD_set_ne h]
 | .mp j,h=>by simp only [js] at h;simp only [den,getD_set_ne h]
 | .hY j k w q,h=>by simp only [js] at h;simp only [den,getD_set_ne h]
 | .bO j k w q,h=>by simp only [js] at h;simp only [den,getD_set_ne h]
 | .agg l,h=>by simp only [js] at h;simp only [den,yu h]
 | .ez l,h=>by simp only [js] at h;simp only [den,yu h]
 | .fn f a c,h=>by
   simp only [js] at h
   cases aH:tQ i a with
   |true=>rw [aH] at h;cases h
   |false=>rw [aH] at h;simp only [den,yu aH,yu (l:=c) h]
 | .off,_=>by simp only [den]
theorem yu {bs:List Nat} {i b:Nat}:∀{l:List a6},tQ i l=false→bo (bs.set i b) l=bo bs l
 |[],_=>by simp only [bo]
 |v::r,h=>by
  simp only [tQ] at h
  cases bc:js i v with
  |true=>rw [bc] at h;cases h
  |false=>rw [bc] at h;simp only [bo,Ex bc,yu (l:=r) h]
end
theorem Ey {i:Nat}:∀{fr:bT} {k:bT→Prop},yr i fr k→∃bb,k bb∧∀bs b,gL (bm (bs.set i b) bb) (bm bs fr)
 |[],k,h=>⟨[],h,fun bs b=>gL.refl _⟩
 |(t,v)::r,k,h=>by
  simp only [yr] at h
  cases bc:js i v with
  |true=>
   rw [bc] at h
   obtain ⟨dW,I,J⟩:=Ey (fr:=r) h
   exact ⟨_,I,fun bs b=>(J bs b).cons t (by simp only [den,R.plain];exact lq.aP _)⟩
  |false=>
   rw [bc] at h
   obtain ⟨dW,I,J⟩:=Ey (fr:=r) h
   exact ⟨_,I,fun bs b=>(J bs b).cons t (.inl (Ex bc))⟩
theorem Ez {i:Nat}:∀{l:List a6} {k:List a6→Prop},ys i l k→∃l',k l'∧l'.length=l.length∧∀bs b q,lq ((bo (bs.set i b) l').getD q .aP) ((bo bs l).getD q .aP)
 |[],k,h=>⟨[],h,rfl,fun bs b q=> .inl rfl⟩
 |v::r,k,h=>by
  simp only [ys] at h
  cases bc:js i v with
  |true=>
   rw [bc] at h
   obtain ⟨dW,I,J,ai⟩:=Ez (l:=r) h
   refine ⟨_,I,by simp [J],fun bs b q=>?_⟩
   cases q with
   |zero=>simp only [bo,List.getD_cons_zero,den,R.plain];exact lq.aP _
   |succ q=>simp only [bo,List.getD_cons_succ];exact ai bs b q
  |false=>
   rw [bc] at h
   obtain ⟨dW,I,J,ai⟩:=Ez (l:=r) h
   refine ⟨_,I,by simp [J],fun bs b q=>?_⟩
   cases q with
   |zero=>simp only [bo,List.getD_cons_zero];exact .inl (Ex bc)
   |succ q=>simp only [bo,List.getD_cons_succ];exact ai bs b q
def EA (dn o:ed):Prop:=dn=o∨∃l l',o= .cells l∧dn= .cells l'∧l'.length=l.length∧∀i,lq (l'.getD i .aP) (l.getD i .aP)
theorem EB {i:Nat}:∀{L:List bz} {k:List bz→Prop},yt i L k→∃bJ,k bJ∧bJ.length=L.length∧∀bs b (q:Nat) dn,bJ[q]?=some dn→∃o,L[q]?=some o∧EA (er (bs.set i b) dn) (er bs o)
 |[],k,h=>⟨[],h,rfl,fun bs b q dn h=>by simp at h⟩
 | .obj o::r,k,h=>by
   obtain ⟨dW,I,J,ai⟩:=EB (L:=r) h
   refine ⟨_,I,by simp [J],fun bs b q dn av=>?_⟩
   cases q with
   |zero=>
    simp only [List.getElem?_cons_zero,Option.some.injEq] at av
    subst av
    exact ⟨_,rfl, .inl (by simp only [er])⟩
   |succ q=>exact ai bs b q dn (by simpa using av)
 | .cells l::r,k,h=>by
   simp only [yt] at h
   obtain ⟨l',aq,ax,aI⟩:=Ez h
   obtain ⟨dW,I,J,ai⟩:=EB (L:=r) aq
   refine ⟨_,I,by simp [J],fun bs b q dn av=>?_⟩
   cases q with
   |zero=>
    simp only [List.getElem?_cons_zero,Option.some.injEq] at av
    subst av
    exact ⟨_,rfl, .inr ⟨_,_,rfl,rfl,by rw [kW,kW,ax],aI bs b⟩⟩
   |succ q=>exact ai bs b q dn (by simpa using av)
section
variable {bs:List Nat} {L bJ:List bz} {m:ad}
theorem SH {b:Nat} (g:Good bs L m) {o:ed} (h:bK bs L m b=some o):(∃(q:Nat) (x:bz),bs[q]?=some b∧L[q]?=some x∧o=er bs x)∨(b∉bs∧m b=some o):=by
 by_cases ae:b∈bs
 · left
   obtain ⟨q,aO⟩:=List.getElem?_of_mem ae
   have bG:q<bs.length:=by
    rcases Nat.lt_or_ge q bs.length with h|h
    · exact h
    · rw [List.getElem?_eq_none h] at aO;cases aO
   have eh:q<L.length:=by rw [←g.len];exact bG
   have ah:L[q]?=some L[q]:=List.getElem?_eq_getElem eh
   have:=mO g ah
   have e:bs.getD q 0=b:=by rw [List.getD_eq_getElem?_getD,aO];rfl
   rw [e,h] at this
   exact ⟨q,_,aO,ah,Option.some.inj this⟩
 · right
   rw [bK,nt (by rw [o0 g.len];exact ae)] at h
   exact ⟨ae,h⟩
end
end Go.bS
end
section
namespace Go.bS
open Go Go.bh
section
variable {P:Program} {T:hZ} {b0:List Nat} {fr:bT} {L:List bz} {m:ad} {K:cr}
theorem SI {bs:List Nat} {s:Nat} {v:a6} (h:kX fr s fun u=>u=v) (bc:v≠ .aK .aP):(bm bs fr).get s=some (den bs v):=by
 rw [mj] at h
 cases a8:(bm bs fr).get s with
 |none=>exact absurd (h.symm.trans (Ej a8)) bc
 |some x=>
  have:=lo bs fr s
  rw [a1,a8] at this
  rw [←h,←this];rfl
structure EC (T:hZ) (t e w y:Nat) (sw:List R):Prop where
 t:du T t fun i=>kA i fun b9=>b9=e
 e:du T e fun j=>j.n=w∧j.y=y∧(match j.z with|[]=>False|_=>True)∧R.fe (bo [] (kY j.z))=sw
theorem EC.get (aJ:fm P T=true) {t e w y:Nat} {sw:List R} (h:EC T t e w y sw):P.underlying t=some (.slice e)∧ef P e=true∧0<w∧kp P e=true∧P.cellsOf e=w∧P.bytesOf e=y∧∃z,hG P e=some z∧z.cells.map R.plain=sw∧z.eg=true:=by
 obtain ⟨i,dZ,I⟩:=et aJ h.t
 unfold kA at I
 split at I
 · rename_i aI al
   subst I
   obtain ⟨jD,jE,mm,mP⟩:=dZ.bO al
   obtain ⟨j,fD,J,ai,aC,aN⟩:=et aJ h.e
   have aA:j.z≠[]:=fun e=>by rw [e] at aC;exact aC
   obtain ⟨z,kz,z2,z3,_⟩:=fD.hG (bs:=[]) aA
   refine ⟨jD,jE,by rw [←J,←fD.cells];exact mm,mP,by rw [fD.cells,J],by rw [fD.bytes,ai],z,kz,?_,z3⟩
   rw [z2,←R.iI];exact aN
 · exact I.elim
end
end Go.bS
end
section
namespace Go.bh
open Go
section
variable {P:Program} {F:Nat→Prop} {lim:Nat→Nat} {w:World} {n:Nat} {fr:Fr} {m:ad} {ca:Act} {bu:List Nat}
end
end Go.bh
namespace Go.bS
open Go Go.bh
mutual
theorem Jt {bs gK:List Nat} (h:∀j,bs.getD j 0=gK.getD j 0):∀(v:a6),den bs v=den gK v
 | .aK _| .own _| .b _| .off=>by simp only [den]
 | .loc j o| .ms j o c| .mp j| .hY j k w q| .bO j k w q=>by simp only [den,h]
 | .agg l=>by simp only [den,vI h l]
 | .ez l=>by simp only [den,vI h l]
 | .fn f a c=>by simp only [den,vI h a,vI h c]
theorem vI {bs gK:List Nat} (h:∀j,bs.getD j 0=gK.getD j 0):∀(l:List a6),bo bs l=bo gK l
 |[]=>by simp only [bo]
 |v::r=>by simp only [bo,Jt h v,vI h r]
end
theorem Ju {bs gK:List Nat} (h:∀j,bs.getD j 0=gK.getD j 0):∀(fr:bT),bm bs fr=bm gK fr
 |[]=>rfl
 |(t,v)::r=>by simp only [bm,Jt h v,Ju h r]
theorem SJ {bs gK:List Nat} (h:∀j,bs.getD j 0=gK.getD j 0) (o:bz):er bs o=er gK o:=by
 cases o with
 |cells l=>simp only [er,vI h l]
 |obj o=>rfl
section
variable {bs:List Nat} {L bJ:List bz} {m:ad} {fr:bT}
theorem SK {i:Nat} (g:Good bs L m) (ab:i+1=L.length) (ar:bJ.length=i):Good (bs.take i) bJ m:=by
 have:=g.len
 exact ⟨g.iR.sublist (List.take_sublist _ _),by rw [List.length_take,ar];omega,fun b ae=>g.fresh b (List.mem_of_mem_take ae)⟩
theorem Jv {i:Nat} (ab:bs.length=i+1):∀j,(bs.take i).getD j 0=(bs.set i 0).getD j 0:=fun j=>by
 simp only [List.getD_eq_getElem?_getD,List.getElem?_take,List.getElem?_set]
 by_cases h:j<i
 · rw [if_pos h,if_neg (by omega)]
 · rw [if_neg h]
   by_cases e:i=j
   · subst e;rw [if_pos rfl,if_pos (by omega)];rfl
   · rw [if_neg e,List.getElem?_eq_none (by omega)]
theorem Jw (bs:List Nat) (v:a6):∀(l:List a6) (j:Nat),bo bs (l.set j v)=(bo bs l).set j (den bs v)
 |[],j=>by simp only [List.set_nil,bo]
 |x::r,0=>by simp only [List.set_cons_zero,bo]
 |x::r,j+1=>by simp only [List.set_cons_succ,bo,Jw bs v r j]
theorem ED {c:gl} {A:cr} {q7:Prop} (h:A fr L m):qq (AH c A fr L m) q7:=⟨.inl ⟨fun new g n hc Q gI=>gI fr L m (c.bs++new) (List.prefix_append _ _) g h⟩⟩
end
end Go.bS
end
section
namespace Go.bS
open Go Go.bh
def sx (E:Nat):List a6→List a6
 |[]=>[]
 |v::r=>jb E v::sx E r
def EE (E:Nat):bz→bz
 | .cells l=> .cells (sx E l)
 | .obj o=> .obj o
def rh (E:Nat):List bz→List bz
 |[]=>[]
 |o::r=>EE E o::rh E r
section
variable {fr:bT} {L:List bz} {m:ad}
theorem EF (E:Nat):∀(l:List a6),(sx E l).length=l.length
 |[]=>rfl
 |v::r=>by simp only [sx,List.length_cons,EF E r]
theorem Jx (E:Nat):∀(l:List bz),(rh E l).length=l.length
 |[]=>rfl
 |v::r=>by simp only [rh,List.length_cons,Jx E r]
theorem EG (bs:List Nat) (E:Nat):∀(l:List a6) (i:Nat),lq ((bo bs (sx E l)).getD i .aP) ((bo bs l).getD i .aP)
 |[],i=> .inl rfl
 |v::r,0=>by simp only [sx,bo,List.getD_cons_zero];exact IW bs E v
 |v::r,i+1=>by simp only [sx,bo,List.getD_cons_succ];exact EG bs E r i
theorem SL (bs:List Nat) (E:Nat) (o:bz):EA (er bs (EE E o)) (er bs o):=by
 cases o with
 |obj o=>exact .inl rfl
 |cells l=>exact .inr ⟨_,_,rfl,rfl,by rw [kW,kW,EF],EG bs E l⟩
theorem Jy (E:Nat):∀(l:List bz) (i:Nat),(rh E l)[i]?=(l[i]?).map (EE E)
 |[],i=>by simp [rh]
 |v::r,0=>by simp [rh]
 |v::r,i+1=>by simp [rh,Jy E r i]
theorem bn.sv {P:Program} {f:FuncId} {args:List R} {K:R→ad→Prop} {m':ad} (al:su m' m) (h:bn P f args m' K):bn P f args m K:=
 ⟨h.1,fun F lim w cargs b2 au st=>h.2 F lim w cargs b2 au (bd.sv st al)⟩
theorem su.aX {bs:List Nat} {is:List Nat} {os dS:List bz} {az:ad} (cd:(iS bs is).Nodup) (ar:is.length=os.length) (ic:dS.length=os.length) (h:∀(i:Nat) dn,dS[i]?=some dn→∃o,os[i]?=some o∧EA (er bs dn) (er bs o)):su (az.aX (mS bs is dS)) (az.aX (mS bs is os)):=by
 intro b dn ae
 by_cases hm:b∈iS bs is
 · obtain ⟨i,Et,rfl⟩:=vF hm
   obtain ⟨j,ay⟩:=List.getElem?_of_mem Et
   have r1:j<dS.length:=by
    rcases Nat.lt_or_ge j is.length with h|h
    · omega
    · rw [List.getElem?_eq_none h] at ay;cases ay
   have ns:=List.getElem?_eq_getElem r1
   obtain ⟨o,av,hle⟩:=h j _ ns
   rw [Ep cd (by omega) ay ns] at ae
   obtain rfl:=Option.some.inj ae
   exact ⟨_,Ep cd ar ay av,hle⟩
 · rw [Er hm] at ae
   exact ⟨dn,by rw [Er hm];exact ae, .inl rfl⟩
theorem SM {b0:List Nat} {P:Program} {f:FuncId} {vs:List a6} {Q:a6→List bz→ad→Prop} {σ:Type} (E:Nat) (is:List Nat) (gU:σ→Prop) (y:σ→a6) (os:σ→List bz) (ab:isOk L.length is=true) (ar:∀x,(os x).length=is.length)
 (h:∀bs (az:ad),fx (iS bs is) az→(∀b o,m b=some o→az b=some o)→∀(K:R→ad→Prop),(∀x,gU x→K (den bs (y x)) (az.aX (mS bs is (os x))))→bn P f (bo bs vs) (az.aX (mS bs is (rh E (oe L is)))) K)
 (gI:∀x,gU x→gy (kC L is (os x)) fun bJ=>Q (y x) bJ m):oc P b0 f vs fr L m Q:=by
 refine ⟨σ,gU,y,fun x=>kC L is (os x),fun _=>m,fun new g K U=>?_,fun x=>by rw [so,Nat.beq_refl];rfl,fun x ah=>by have:=gI x ah;rwa [hv] at this⟩
 have cd:=yn g.iR (by rw [g.len];exact ab)
 have ax:=vH g ab (vE L is).symm
 rw [Ev ab] at ax
 rw [ax]
 refine bn.sv (su.aX cd (vE L is).symm (Jx E _) fun i dn ns=>?_) (h (b0++new) _ ⟨cd,fun b ae=>by simp [tO,ae]⟩ (fun b o ae=>?_) K fun x ah=>?_)
 · rw [Jy] at ns
   cases a8:(oe L is)[i]? with
   |none=>rw [a8] at ns;cases ns
   |some o=>
    rw [a8] at ns
    obtain rfl:=Option.some.inj ns
    exact ⟨o,rfl,SL _ E o⟩
 · have I:b∉b0++new:=fun hm=>by rw [g.fresh b hm] at ae;cases ae
   have J:b∉iS (b0++new) is:=fun hm=>by
    obtain ⟨i,j1,e⟩:=vF hm
    have bG:=(vG ab).1 i j1
    rw [←g.len] at bG
    apply I
    rw [e,List.getD_eq_getElem?_getD,List.getElem?_eq_getElem bG]
    exact List.getElem_mem _
   simp only [tO,if_neg J,bK]
   rw [nt (by rw [o0 g.len];exact I)]
   exact ae
 · have:=U x ah [] (by rw [List.append_nil];exact ⟨g.iR,by rw [so];exact g.len,g.fresh⟩)
   rw [List.append_nil,vH g ab (ar x).symm] at this
   exact this
end
end Go.bS
end
section
namespace Go.bS
open Go Go.bh
def A1 (st:Bool) (z:List Z):R:=bif st then .agg (R.fe (bo [] (kY z))) else ((bo [] (kY z)).getD 0 .aP).plain
theorem gz.zeroV {P:Program} {t:Nat} {i:hk} (cN:gz P t i) (aA:i.z≠[]):∃z,bh.hG P t=some z∧z.plain=A1 i.k.ij i.z:=by
 obtain ⟨v,I,J,ai,aC⟩:=cN.zero aA
 refine ⟨kS v,by simp only [bh.hG,I,J,if_true],?_⟩
 unfold vn at ai
 split at ai
 · simp only [Bool.and_eq_true] at ai
   rw [A1,ai.1,cond_true,yg ai.2]
   simp only [kS,R.plain]
 · rename_i bc
   simp only [Bool.and_eq_true,Bool.not_eq_true'] at ai
   have u2:kS v=jc v:=by
    cases v with
    |agg cs=>exact absurd rfl (bc cs)
    |iface t u=>
     cases pO:i.z with
     |nil=>exact absurd pO aA
     |cons a r=>rw [pO] at ai;simp [q3,tz] at ai
    |_=>rfl
   rw [A1,ai.1,cond_false,yg ai.2,u2]
   rfl
def Jz:j4→Option TypeDesc
 | .str=>some .string
 | .int .i64=>some (.int .i64)
 |_=>none
structure JA (T:hZ) (t k e:Nat) (gV:TypeDesc) (z:R):Prop where
 t:du T t fun i=>match i.k with| .mp dU b9=>dU=k∧b9=e|_=>False
 k:du T k fun i=>Jz i.k=some gV
 e:du T e fun i=>(match i.z with|[]=>False|_=>True)∧A1 i.k.ij i.z=z
section
variable {P:Program} {T:hZ} {b0:List Nat} {fr:bT} {L:List bz} {m:ad} {K:cr}
theorem JA.get (aJ:fm P T=true) {t k e:Nat} {gV:TypeDesc} {z:R} (h:JA T t k e gV z):P.underlying t=some (.map k e)∧P.underlying k=some gV∧∃z0,hG P e=some z0∧z0.plain=z:=by
 obtain ⟨i,dZ,I⟩:=et aJ h.t
 obtain ⟨j,fD,J⟩:=et aJ h.k
 obtain ⟨l,SN,ai,aC⟩:=et aJ h.e
 have aA:l.z≠[]:=fun e=>by rw [e] at ai;exact ai
 refine ⟨?_,?_,?_⟩
 · split at I
   · rename_i aj
     obtain ⟨rfl,rfl⟩:=I
     exact dZ.mp aj
   · exact I.elim
 · unfold Jz at J
   split at J
   · rename_i aj
     rw [←Option.some.inj J];exact fD.str aj
   · rename_i aj
     rw [←Option.some.inj J];exact fD.int aj
   · cases J
 · obtain ⟨z0,kz,z2⟩:=SN.zeroV aA
   exact ⟨z0,kz,z2.trans aC⟩
end
end Go.bS
end
section
namespace Go.bS
open Go Go.bh
theorem bn.SO {P:Program} {f:FuncId} {a cw:List R} {m:ad} {K:R→ad→Prop} (ar:cw.length=a.length) (al:∀i,lq (cw.getD i .aP) (a.getD i .aP)) (h:bn P f cw m K):bn P f a m K:=
 ⟨h.1,fun F lim w cargs b2 au st=>h.2 F lim w cargs (by omega) (fun i ab=>by
   rcases al i with e|e
   · rw [e];exact au i (by omega)
   · exact e _ _ _ _ (au i (by omega))) st⟩
section
variable {fr:bT} {L:List bz} {m:ad}
theorem dK {b0:List Nat} {P:Program} {f:FuncId} {vs:List a6} {Q:a6→List bz→ad→Prop} {σ:Type} (E:Nat) (is:List Nat) (gU:σ→Prop) (y:σ→a6) (os:σ→List bz) (ab:isOk L.length is=true) (ar:∀x,(os x).length=is.length)
 (h:∀bs (az:ad),fx (iS bs is) az→(∀b o,m b=some o→az b=some o)→∀(K:R→ad→Prop),(∀x,gU x→K (den bs (y x)) (az.aX (mS bs is (os x))))→bn P f (bo bs (sx E vs)) (az.aX (mS bs is (rh E (oe L is)))) K)
 (gI:∀x,gU x→gy (kC L is (os x)) fun bJ=>Q (y x) bJ m):oc P b0 f vs fr L m Q:=
 SM E is gU y os ab ar (fun bs az gd ao K U=>bn.SO (by rw [kW,kW,EF]) (EG bs E vs) (h bs az gd ao K U)) gI
end
end Go.bS
end
section
namespace Go.bh
open Go
def flat:R→Bool
 | .bool _| .int _ _| .str _| .ptr _| .fc| .ms _ _ _| .nilIface| .err _ _| .opt _=>true
 |_=>false
def uniq:R→Bool
 | .bool _| .int _ _| .str _| .ptr _| .ms _ _ _=>true
 |_=>false
theorem JB {w w':World} {lim lim':Nat→Nat} {v:Value} {x:R} {os:List Nat} (h:aF w lim v x os) (ah:flat x=true):aF w' lim' v x []:=by
 cases h with
 |bool b=>exact .bool b
 |int k n bD ab=>exact .int k n bD ab
 |str s h=>exact .str s h
 |ptr a=>exact .ptr a
 |fc=>exact .fc
 |ms a len cap h hm=>exact .ms a len cap h hm
 |nilIface=>exact .nilIface
 |l2 t=>exact .l2 t
 |jb t e h bD ab=>exact .jb t e h bD ab
 |mB=>exact .mB
 |mC t v=>exact .mC t v
 |_=>simp [flat] at ah
theorem SP {w w':World} {lim lim':Nat→Nat} {v fX:Value} {x:R} {os dS:List Nat} (h:aF w lim v x os) (cb:aF w' lim' fX x dS) (ah:uniq x=true):fX=v:=by
 cases x with
 |bool b=>rw [qJ h,qJ cb]
 |int k n=>rw [(lE h).1,(lE cb).1]
 |str l=>
  obtain ⟨s,rfl,e,_⟩:=uC h
  obtain ⟨hD,rfl,b9,_⟩:=uC cb
  have q:hD.data=s.data:=Array.toList_inj.1 (b9.trans e.symm)
  cases s;cases hD;simp only at q;rw [q]
 |ptr a=>rw [oN h,oN cb]
 |ms a n c=>rw [(rH h).1,(rH cb).1]
 |_=>simp [uniq] at ah
theorem SQ {x:R} (h:uniq x=true):flat x=true:=by cases x<;>first|rfl|cases h
theorem SR {x:R} (h:flat x=true):flat x.plain=true:=by cases x<;>first|rfl|cases h
theorem SS {x:R} (h:uniq x=true):uniq x.plain=true:=by cases x<;>first|rfl|cases h
section
variable {P:Program} {n:Nat} {fr:Fr} {m:ad} {ops:Array Oper} {fuel:Nat} {listed:Array Bool} {K:Fr→ad→Prop}
def pV (ops:Array Oper) (listed:Array Bool) (i:Nat) (o:Oper):Bool:=
 (Region.ready .any ops listed).contains i&&
 (ops.toList.all fun q=>match q.op with| .select _ _=>false|_=>true)&&
 (List.range ops.size).all fun j=>match ops[j]? with
   |some q=>j==i||listed.getD j true||q.after.toList.any (fun e=>Region.binds .any e&&e.on==i)||o.apart ops q
   |none=>true
theorem b8.JC {i:Nat} {o:Oper} {d:Nat} {x:R} (ab:ops[i]?=some o) (jm:o.dst=some d) (fl:d<n) (ae:pV ops listed i o=true)
 (bc:∀F lim w ca,bd F lim w n fr m ca []→∃v,Yields P ops o v ca∧aF w lim v x [])
 (h:b8 P n ops fuel (listed.setIfInBounds i true) K (fr.put d x) m):b8 P n ops (fuel+1) listed K fr m:=by
 intro F lim w ca Q st aO
 obtain ⟨v,Dp,Dq⟩:=bc F lim w ca st
 simp only [pV,Bool.and_eq_true,List.all_eq_true,List.contains_iff_mem] at ae
 obtain ⟨⟨au,al⟩,aH⟩:=ae
 let ha:Exit→Act→World→Prop:=fun e a w=>match e with
  | .normal=>Q .normal a w
  |e=>∀b w',Q e b w'
 have I:wpAny P .any ops ha fuel (listed.setIfInBounds i true) (ca.put (some d) v) w:=h F lim w (ca.put (some d) v) ha (show bd F lim w n (bh.dR fr (some d) x) m (ca.put (some d) v) [] from st.dR (fun t ao=>by cases ao;exact fl) Dq) aO
 have J:wpAny P .any ops ha (fuel+1) listed ca w:=by
  refine wpAny_first (v:=v) ab (fun j q cs b ay ag=>?_) (fun c a w ba=>ba) fuel listed ca w (fun j q ay iM n7 eB=>?_) au Dp (by rw [jm];exact I)
  · have:=al q (by rw [Array.mem_toList_iff];exact Array.mem_of_getElem? ay)
    rw [ag] at this;cases this
  · have q0:j<ops.size:=(Array.getElem?_eq_some_iff.1 ay).1
    have:=aH j (List.mem_range.2 q0)
    rw [ay] at this
    simp only [Bool.or_eq_true,beq_iff_eq,List.any_eq_true,Bool.and_eq_true] at this
    rcases this with ((ai|ai)|⟨e,he,ai,aC⟩)|ai
    · exact absurd ai iM
    · rw [n7] at ai;cases ai
    · exact absurd aC (eB e (by simpa using he) ai)
    · exact ai
 have hm:∀e a w,ha e a w→Q e a w:=fun e a w ba=>by cases e<;>first|exact ba|exact ba a w
 exact Dm hm (fun ⟨a,w,ba⟩=>⟨a,w,hm _ _ _ ba⟩) _ _ _ _ J
theorem b8.yv {i:Nat} {o:Oper} {d:Nat} {x:R} (ab:ops[i]?=some o) (gi:eW ops fr o.guard=some true) (jm:o.dst=some d) (fl:d<n) (ae:pV ops listed i o=true)
 (bc:∀F lim w ca,bd F lim w n fr m ca []→∃v,(∀w',(execOp ca.eval o).run P w'= .ok (.value v) w')∧aF w lim v x [])
 (h:b8 P n ops fuel (listed.setIfInBounds i true) K (fr.put d x) m):b8 P n ops (fuel+1) listed K fr m:=
 b8.JC ab jm fl ae (fun F lim w ca st=>by
  obtain ⟨v,I,J⟩:=bc F lim w ca st
  exact ⟨v, .inl ⟨qU st gi,I⟩,J⟩) h
theorem b8.SU {i:Nat} {o:Oper} {d:Nat} (ab:ops[i]?=some o) (gi:eW ops fr o.guard=some false) (jm:o.dst=some d) (fl:d<n) (ae:pV ops listed i o=true)
 (h:b8 P n ops fuel (listed.setIfInBounds i true) K (fr.put d (.lazy false .aP)) m):b8 P n ops (fuel+1) listed K fr m:=
 b8.JC ab jm fl ae (fun F lim w ca st=>⟨undef, .inr ⟨qU st gi,rfl⟩, .mD _⟩) h
theorem b8.JD {i:Nat} {o:Oper} {d:Nat} {x:R} {side:Prop} (ab:ops[i]?=some o) (gi:eW ops fr o.guard=some true) (jm:o.dst=some d) (fl:d<n) (aj:eQ n o=true) (ae:pV ops listed i o=true)
 (aO:bw P (fun _=>none) (bx (a1 fr)) o.op=some (side,x)) (al:side) (aW:∀y∈o.op.operands.toList,flat (bx (a1 fr) y)=true) (ah:uniq x=true)
 (h:b8 P n ops fuel (listed.setIfInBounds i true) K (fr.put d x) m):b8 P n ops (fuel+1) listed K fr m:=by
 refine b8.yv ab gi jm fl ae (fun F lim w ca st=>?_) h
 have key:∀w':World,∃v,(execOp ca.eval o).run P w'= .ok (.value v) w'∧aF w' (fun _=>0) v x []:=fun w'=>
  wV (m:=fun _=>none) aO al (fun y aE=>JB (ff st (hV aj y aE)) (aW y aE)) (fun b gu ae=>by cases ae)
 obtain ⟨v,I,J⟩:=key w
 refine ⟨v,fun w'=>?_,JB J (SQ ah)⟩
 obtain ⟨fX,ai,aC⟩:=key w'
 rw [SP J aC ah] at ai
 exact ai
theorem b8.SV {i j:Nat} {o:Oper} {y:Operand} {d:Nat} {l:List R} (ab:ops[i]?=some o) (gi:eW ops fr o.guard=some true) (av:o.op= .extract y j) (jm:o.dst=some d) (fl:d<n) (aE:kl y=true) (ae:pV ops listed i o=true) (ah:bx (a1 fr) y= .tuple l) (ay:j<l.length)
 (h:b8 P n ops fuel (listed.setIfInBounds i true) K (fr.put d (l.getD j .aP)) m):b8 P n ops (fuel+1) listed K fr m:=by
 refine b8.yv ab gi jm fl ae (fun F lim w ca st=>?_) h
 have au:=ff st aE
 rw [ah] at au
 obtain ⟨cs,he,ag,hM⟩:=GH au
 exact ⟨cs.getD j undef,fun w'=>by simp [execOp,av,he,Instr.extract,ag,ay],hM j ay⟩
theorem b8.SW {i:Nat} {o:Oper} {y:Operand} {d:Nat} {x:R} (ab:ops[i]?=some o) (gi:eW ops fr o.guard=some true) (av:o.op= .move y) (jm:o.dst=some d) (fl:d<n) (aE:kl y=true) (ae:pV ops listed i o=true) (ah:bx (a1 fr) y=x)
 (h:b8 P n ops fuel (listed.setIfInBounds i true) K (fr.put d x) m):b8 P n ops (fuel+1) listed K fr m:=by
 refine b8.yv ab gi jm fl ae (fun F lim w ca st=>?_) h
 subst ah
 exact ⟨ca.eval y,fun w'=>by simp [execOp,av],ff st aE⟩
theorem b8.SX {i:Nat} {o:Oper} {y:Operand} {d:Nat} {a:Addr} (ab:ops[i]?=some o) (gi:eW ops fr o.guard=some true) (av:o.op= .nilCheck y) (jm:o.dst=some d) (fl:d<n) (aE:kl y=true) (ae:pV ops listed i o=true) (ah:bx (a1 fr) y= .ptr a)
 (h:b8 P n ops fuel (listed.setIfInBounds i true) K (fr.put d (.ptr a)) m):b8 P n ops (fuel+1) listed K fr m:=by
 refine b8.yv ab gi jm fl ae (fun F lim w ca st=>?_) h
 have au:=ff st aE
 rw [ah] at au
 have he:=oN au
 exact ⟨.pointer (some a),fun w'=>by simp [execOp,av,he], .ptr a⟩
theorem b8.JE {i:Nat} {o:Oper} {c y z:Operand} {d:Nat} {b:Bool} {x:R} (ab:ops[i]?=some o) (gi:eW ops fr o.guard=some true) (av:o.op= .pick c y z) (jm:o.dst=some d) (fl:d<n) (aj:eQ n o=true) (ae:pV ops listed i o=true) (ag:bx (a1 fr) c= .bool b) (ah:bx (a1 fr) (if b then y else z)=x)
 (h:b8 P n ops fuel (listed.setIfInBounds i true) K (fr.put d x) m):b8 P n ops (fuel+1) listed K fr m:=by
 refine b8.yv ab gi jm fl ae (fun F lim w ca st=>?_) h
 have au:=ff st (hV aj c (by rw [av];simp [Op.operands]))
 rw [ag] at au
 have he:=qJ au
 subst ah
 refine ⟨ca.eval (if b then y else z),fun w'=>?_,ff st (hV aj _ (by rw [av];cases b<;>simp [Op.operands]))⟩
 cases b<;>simp [execOp,av,he,asBool]
end
end Go.bh
namespace Go.bS
open Go Go.bh
inductive o6 where
 |d
 |z
 |f (i:Nat) (p:o6)
 |s (i:Nat) (p:o6)
 |o (i:Nat) (p q:o6)
def o6.ids:o6→List Nat
 | .o i _ q=>i::q.ids
 |_=>[]
def sy (o:Oper):Bool:=
 o.dst.isSome&&match o.op with
 | .move x| .nilCheck x| .fieldAddr _ x _=>kl x
 | .extract x _=>kl x
 | .binOp .. | .unOp .. | .convert .. | .indexAddr .. | .index .. | .slice _ _ _ _ none| .pick _ _ _=>true
 |_=>false
def JF:a6→Bool
 | .b _| .loc _ _| .ms _ _ _| .hY _ _ _ _| .bO _ _ _ _=>true
 | .aK x=>flat x
 |_=>false
def EH:a6→Bool
 | .b _| .loc _ _| .ms _ _ _| .hY _ _ _ _| .bO _ _ _ _=>true
 | .aK x=>uniq x
 |_=>false
def A2:bT→List Operand→Prop→Prop
 |_,[],k=>k
 |fr,x::r,k=>eX fr x fun v=>bF (JF v) (A2 fr r k)
def nA (ops:Array Oper):o6→Bool→Nat→Array Bool→Bool
 | .d,_,_,l=>(Region.ready .any ops l).isEmpty
 | .z,top,_,_=>!top
 | .f i p,_,k,l=>
   match k with
   |0=>false
   |k+1=>(match ops[i]? with|some o=>pV ops l i o&&sy o|none=>false)&&nA ops p true k (l.setIfInBounds i true)
 | .s i p,_,k,l=>
   match k with
   |0=>false
   |k+1=>!(Region.ready .any ops l).isEmpty&&((Region.ready .any ops l).all fun j=>j==i)&&nA ops p true k (l.setIfInBounds i true)
 | .o i p q,top,k,l=>
   match k with
   |0=>false
   |k+1=>(!top||(!(Region.ready .any ops l).isEmpty&&(Region.ready .any ops l).all fun j=>(i::q.ids).contains j))&&ops[i]?.isSome&&nA ops p true k (l.setIfInBounds i true)&&nA ops q false (k+1) l
def mT (c:gl) (d:Option Nat) (op:Op) (fr:bT) (L:List bz) (k:bT→Prop):Prop:=
 match d,op with
 |some d, .move x=>eX fr x fun v=>k ((d,v)::fr)
 |some d, .nilCheck x=>eX fr x fun v=>
  match v with
  | .loc i off=>k ((d, .loc i off)::fr)
  |_=>False
 |some d, .fieldAddr s x f=>eX fr x fun a=>
  match a with
  | .loc i off=>du c.T s fun dZ=>x3 dZ f fun o _=>k ((d, .loc i (off+o))::fr)
  |_=>False
 |some d, .extract (.tmp t) i=>kX fr t fun a=>
  match a with
  | .ez l=>tE (.ez l) i fun u=>k ((d,u)::fr)
  |_=>False
 |some d, .pick q x y=>eX fr q fun v=>
  match v with
  | .b (.lit true)=>eX fr x fun u=>k ((d,u)::fr)
  | .b (.lit false)=>eX fr y fun u=>k ((d,u)::fr)
  |_=>False
 |some _, .load _ _|some _, .assign _|some _, .call _=>False
 |some d,op=>A2 fr op.operands.toList (sc c.T (has c.w d) fr L op fun u=>bF (EH u) (k ((d,u)::fr)))
 |_,_=>False
def qw (c:gl) (bO:List Nat) (ops:List Oper) (K:cr):o6→cr
 | .d,fr,L,m=>K fr L m
 | .z,_,_,_=>True
 | .f i p,fr,L,m=>
   match nth ops i with
   |some o=>tI ops o.guard fr (fun fr=>mT c o.dst o.op fr L fun fr=>qw c bO ops K p fr L m) (fun fr=>k0 o.dst .off fr fun fr=>qw c bO ops K p fr L m)
   |none=>False
 | .s i p,fr,L,m=>
   match nth ops i with
   |some o=>q8 c ops bO [o] fr L m fun fr L m=>qw c bO ops K p fr L m
   |none=>False
 | .o i p q,fr,L,m=>
   (match nth ops i with
   |some o=>q8 c ops bO [o] fr L m fun fr L m=>qw c bO ops K p fr L m
   |none=>False)∧qw c bO ops K q fr L m
end Go.bS
namespace Go.bh
open Go
section
variable {P:Program} {n:Nat} {fr:Fr} {m:ad} {ops:Array Oper} {fuel:Nat} {listed:Array Bool} {K:Fr→ad→Prop}
theorem b8.JG (eB:Region.ready .any ops listed≠[]) (h:∀i∈Region.ready .any ops listed,∃o,ops[i]?=some o∧bQ P n ops [o] (b8 P n ops fuel (listed.setIfInBounds i true) K) fr m):b8 P n ops (fuel+1) listed K fr m:=by
 intro F lim w ca Q st aO
 refine ⟨fun aq=>absurd aq eB,fun i ab=>?_⟩
 obtain ⟨o,av,key⟩:=h i ab
 unfold wpOp
 rw [av]
 simp only
 let ha:Exit→Act→World→Prop:=fun e a w'=>match e with
  | .normal=>wpAny P .any ops Q fuel (listed.setIfInBounds i true) a w'
  |e=>Q e a w'
 have hw:=key F lim w ca ha st (fun lim' w' bb m' dj ck fM dL=>ck F lim' w' dj Q fM fun hC gG rK nj uJ U u0 rL=>aO hC gG rK nj uJ U u0 (dL.trans rL))
 have conv:∀{C:Act→World→Prop},o.wp P ca w C ha→o.wp P ca w C Q:=by
  intro C ih
  unfold Oper.wp at ih ⊢
  generalize (execOp ca.eval o).run P w=res at ih ⊢
  cases res with
  |ok s w'=>
   cases s with
   |enter f args=>
    refine ih.mono fun e gG ba=>?_
    cases e<;>exact ba
   |_=>exact ih
  |_=>exact ih
 unfold wpList at hw
 split
 · next tr=>
   rw [if_pos tr] at hw
   rcases hw with hw|⟨I,J⟩
   · exact .inl (conv hw)
   · exact .inr ⟨I,J⟩
 · next tr=>
   rw [if_neg tr] at hw
   exact hw
theorem b8.dX (h:b8 P n ops fuel listed K fr m):b8 P n ops fuel listed (fun f m=>(∀t x,f.get t=some x→t<n)∧K f m) fr m:=fun F lim w ca Q st aO=>
 h F lim w ca Q st fun lim' w' f m' dj aj fM dL=>aO lim' w' f m' dj ⟨fun t x ah=>by obtain ⟨_,_,_,s⟩:=fM;exact (s.dX t x ah).1,aj⟩ fM dL
theorem b8.SY {iD:Fr→ad→Prop} (U:∀f m,K f m→iD f m) (h:b8 P n ops fuel listed K fr m):b8 P n ops fuel listed iD fr m:=fun F lim w ca Q st aO=>
 h F lim w ca Q st fun lim' w' f m' dj aj fM dL=>aO lim' w' f m' dj (U _ _ aj) fM dL
end
end Go.bh
namespace Go.bS
open Go Go.bh
section
variable {c:gl} {n:Nat} {ops:Array Oper} {K:Fr→ad→Prop} {bO:List Nat} {mf:cr}
theorem SZ {bs:List Nat} {v:a6} (h:JF v=true):flat (den bs v)=true:=by
 cases v<;>first|rfl|cases h|exact SR h
theorem S0 {bs:List Nat} {v:a6} (h:EH v=true):uniq (den bs v)=true:=by
 cases v<;>first|rfl|cases h|exact SS h
theorem JH {bs:List Nat} {fr:bT} {k:Prop}:∀{l:List Operand},A2 fr l k→(∀y∈l,flat (bx (a1 (bm bs fr)) y)=true)∧k
 |[],h=>⟨fun _ q=>(by cases q),h⟩
 |x::r,h=>by
  obtain ⟨v,I,e⟩:=e5 bs h
  obtain ⟨J,ai⟩:=dN.1 I
  obtain ⟨aC,aN⟩:=JH ai
  refine ⟨fun y aE=>?_,aN⟩
  rcases List.mem_cons.1 aE with rfl|aE
  · rw [←e];exact SZ J
  · exact aC y aE
theorem S1 {b0 new:List Nat} (aJ:fm c.P c.T=true) (cO:∀o∈ops.toList,eQ n o=true∧gv n o=true) {fuel i:Nat} {o:Oper} {listed:Array Bool} {fr:bT} {L:List bz} {m0 az:ad} {k:bT→Prop} (g:Good (b0++new) L m0) (av:ops[i]?=some o) (ae:pV ops listed i o=true) (aW:sy o=true) (gi:eW ops (bm (b0++new) fr) o.guard=some true)
 (h:mT c o.dst o.op fr L k) (aj:∀bb,k bb→b8 c.P n ops fuel (listed.setIfInBounds i true) K (bm (b0++new) bb) az):b8 c.P n ops (fuel+1) listed K (bm (b0++new) fr) az:=by
 have hm:=cO o (by rw [Array.mem_toList_iff];exact Array.mem_of_getElem? av)
 cases aY:o.dst with
 |none=>rw [aY] at h;unfold mT at h;split at h<;>simp_all
 |some d=>
  have fl:=iJ hm.1 aY
  rw [aY] at h
  have key:∀{op:Op},o.op=op→(∀a,bw c.P (bK (b0++new) L m0) a op=bw c.P (fun _=>none) a op)→A2 fr op.operands.toList (sc c.T (has c.w d) fr L op fun u=>bF (EH u) (k ((d,u)::fr)))→b8 c.P n ops (fuel+1) listed K (bm (b0++new) fr) az:=fun {op} bI AR h=>by
   obtain ⟨I,J⟩:=JH (bs:=b0++new) h
   obtain ⟨side,z,u,aO,al,rfl,ai⟩:=DS (P:=c.P) aJ g J
   obtain ⟨aC,aN⟩:=dN.1 ai
   rw [AR] at aO
   have:=aj _ aN
   simp only [bm] at this
   exact b8.JD av gi aY fl hm.1 ae (by rw [bI];exact aO) al (by rw [bI];exact I) (S0 aC) this
  cases bI:o.op with
  |move x=>
   simp only [bI,mT] at h
   obtain ⟨v,I,e⟩:=e5 (b0++new) h
   simp only [sy,bI,aY,Option.isSome,Bool.true_and] at aW
   have:=aj _ I
   simp only [bm] at this
   exact b8.SW av gi bI aY fl aW ae e.symm this
  |nilCheck x=>
   simp only [bI,mT] at h
   obtain ⟨v,I,e⟩:=e5 (b0++new) h
   simp only [sy,bI,aY,Option.isSome,Bool.true_and] at aW
   split at I
   · have:=aj _ I
     simp only [bm] at this
     simp only [den] at e this
     exact b8.SX av gi bI aY fl aW ae e.symm this
   · exact I.elim
  |fieldAddr s x f=>
   simp only [bI,mT] at h
   obtain ⟨v,I,e⟩:=e5 (b0++new) h
   simp only [sy,bI,aY,Option.isSome,Bool.true_and] at aW
   split at I
   · rename_i ii off
     obtain ⟨dZ,cN,J⟩:=et aJ I
     obtain ⟨fa,fd,hu,uD,i1,i2,ai⟩:=DQ cN J
     have:=aj _ ai
     simp only [bm] at this
     simp only [den] at e this
     refine b8.JD (side:=ef c.P fd.type=true∧c.P.cellsOf fd.type≠0) av gi aY fl hm.1 ae (by rw [bI];simp only [bw,hu,uD,←e]<;>rfl) ⟨i1,i2⟩ (fun y aE=>?_) rfl this
     rw [bI] at aE
     obtain rfl:y=x:=by simpa [Op.operands] using aE
     rw [←e];rfl
   · exact I.elim
  |pick q x y=>
   simp only [bI,mT] at h
   obtain ⟨v,I,e⟩:=e5 (b0++new) h
   split at I
   · obtain ⟨u,J,aI⟩:=e5 (b0++new) I
     have:=aj _ J
     simp only [bm] at this
     exact b8.JE (b:=true) av gi bI aY fl hm.1 ae e.symm aI.symm this
   · obtain ⟨u,J,aI⟩:=e5 (b0++new) I
     have:=aj _ J
     simp only [bm] at this
     exact b8.JE (b:=false) av gi bI aY fl hm.1 ae e.symm aI.symm this
   · exact I.elim
  |extract x j=>
   cases x with
   |tmp t=>
    simp only [bI,mT,mj] at h
    split at h
    · rename_i l e
      have ax:(den (b0++new) (.ez l)).plain=bx (a1 (bm (b0++new) fr)) (.tmp t):=by rw [←e,bx,lo]
      obtain ⟨side,z,u,aO,al,rfl,I⟩:=DR (P:=c.P) (m:=m0) (L:=L) h ax
      have:=aj _ I
      simp only [bm] at this
      simp only [bw] at aO
      split at aO
      · rename_i l' ic
        obtain ⟨rfl,aA⟩:=some_inj aO
        exact b8.SV av gi bI aY fl rfl ae ic al (by rw [aA];exact this)
      · cases aO
    · exact h.elim
   |_=>
    simp only [bI,mT] at h
    exact key bI (fun a=>rfl) h
  |binOp=>simp only [bI,mT] at h;exact key bI (fun a=>rfl) h
  |unOp=>simp only [bI,mT] at h;exact key bI (fun a=>rfl) h
  |convert=>simp only [bI,mT] at h;exact key bI (fun a=>rfl) h
  |indexAddr=>simp only [bI,mT] at h;exact key bI (fun a=>rfl) h
  |index=>simp only [bI,mT] at h;exact key bI (fun a=>rfl) h
  |slice t x bD ab wW=>
   cases wW with
   |none=>simp only [bI,mT] at h;exact key bI (fun a=>rfl) h
   |some _=>simp only [sy,bI,Bool.and_false] at aW;cases aW
  |_=>simp only [sy,bI,Bool.and_false] at aW;cases aW
theorem vJ {b0:List Nat} (aJ:fm c.P c.T=true) (dz:c.bs=b0) (cO:∀o∈ops.toList,eQ n o=true∧gv n o=true∧ra o=true)
 (U:∀bb bJ m' eu,Good (b0++eu) bJ m'→mf bb bJ m'→K (bm (b0++eu) bb) (bK (b0++eu) bJ m')):
 ∀(p:o6) (top:Bool) (fuel:Nat) (listed:Array Bool) (fr:bT) (L:List bz) (m:ad) (new:List Nat),nA ops p top fuel listed=true→Good (b0++new) L m→qw c bO ops.toList mf p fr L m→
  (top=true→b8 c.P n ops fuel listed K (bm (b0++new) fr) (bK (b0++new) L m))∧
  (∀f,fuel=f+1→∀i∈p.ids,∃o,ops[i]?=some o∧bQ c.P n ops [o] (b8 c.P n ops f (listed.setIfInBounds i true) K) (bm (b0++new) fr) (bK (b0++new) L m))
 | .d,top,fuel,listed,fr,L,m,new,av,g,h=>by
   refine ⟨fun _=>b8.done ?_ (U _ _ _ _ g h),fun f _ i ab=>by cases ab⟩
   simpa [nA] using av
 | .z,top,fuel,listed,fr,L,m,new,av,g,h=>by
   refine ⟨fun ao=>?_,fun f _ i ab=>by cases ab⟩
   subst ao;simp [nA] at av
 | .f i p,top,fuel,listed,fr,L,m,new,av,g,h=>by
   refine ⟨fun _=>?_,fun f _ i ab=>by cases ab⟩
   cases fuel with
   |zero=>simp [nA] at av
   |succ k=>
    simp only [nA,Bool.and_eq_true] at av
    simp only [qw,j2,Array.getElem?_toList] at h
    cases ab:ops[i]? with
    |none=>rw [ab] at h;exact h.elim
    |some o=>
     rw [ab] at h av
     simp only [Bool.and_eq_true] at av
     rcases Ec (bs:=b0++new) h with ⟨a8,pR,h,e⟩|⟨a8,pR,h,e⟩
     · rw [←e] at a8 ⊢
       exact S1 aJ (fun o av=>⟨(cO o av).1,(cO o av).2.1⟩) g ab av.1.1 av.1.2 a8 h fun bb aj=>(vJ aJ dz cO U p true k _ bb L m new av.2 g aj).1 rfl
     · rw [←e] at a8 ⊢
       have I:=(cO o (by rw [Array.mem_toList_iff];exact Array.mem_of_getElem? ab)).1
       cases aY:o.dst with
       |none=>have:=av.1.2;simp only [sy,aY,Option.isSome,Bool.false_and] at this;cases this
       |some d=>
        rw [aY] at h
        have:=(vJ aJ dz cO U p true k _ _ L m new av.2 g h).1 rfl
        simp only [bm,den] at this
        exact b8.SU ab a8 aY (iJ I aY) av.1.1 this
 | .s i p,top,fuel,listed,fr,L,m,new,av,g,h=>by
   refine ⟨fun _=>?_,fun f _ i ab=>by cases ab⟩
   cases fuel with
   |zero=>simp [nA] at av
   |succ k=>
    simp only [nA,Bool.and_eq_true,Bool.not_eq_true',List.all_eq_true,beq_iff_eq] at av
    simp only [qw,j2,Array.getElem?_toList] at h
    refine b8.JG (fun e=>by rw [e] at av;simp at av) fun j ay=>?_
    obtain rfl:=av.1.2 j ay
    cases ab:ops[j]? with
    |none=>rw [ab] at h;exact h.elim
    |some o=>
     rw [ab] at h
     refine ⟨o,rfl,tN aJ dz [o] (fun dn ns=>?_) g h fun bb bJ m' eu dQ aj=>(vJ aJ dz cO U p true k _ bb bJ m' eu av.2 dQ aj).1 rfl⟩
     rw [List.mem_singleton.1 ns]
     exact cO o (by rw [Array.mem_toList_iff];exact Array.mem_of_getElem? ab)
 | .o i p q,top,fuel,listed,fr,L,m,new,av,g,h=>by
   cases fuel with
   |zero=>simp [nA] at av
   |succ k=>
    simp only [nA,Bool.and_eq_true] at av
    obtain ⟨⟨⟨I,J⟩,ai⟩,aC⟩:=av
    have key:∀f,k+1=f+1→∀j∈(o6.o i p q).ids,∃o,ops[j]?=some o∧bQ c.P n ops [o] (b8 c.P n ops f (listed.setIfInBounds j true) K) (bm (b0++new) fr) (bK (b0++new) L m):=by
     intro f aW j ay
     obtain rfl:k=f:=by omega
     simp only [qw,j2,Array.getElem?_toList] at h
     simp only [o6.ids,List.mem_cons] at ay
     rcases ay with rfl|ay
     · cases ab:ops[j]? with
       |none=>rw [ab] at J;cases J
       |some o=>
        rw [ab] at h
        refine ⟨o,rfl,tN aJ dz [o] (fun dn ns=>?_) g h.1 fun bb bJ m' eu dQ aj=>(vJ aJ dz cO U p true k _ bb bJ m' eu ai dQ aj).1 rfl⟩
        rw [List.mem_singleton.1 ns]
        exact cO o (by rw [Array.mem_toList_iff];exact Array.mem_of_getElem? ab)
     · exact (vJ aJ dz cO U q false (k+1) listed fr L m new aC g h.2).2 k rfl j ay
    refine ⟨fun ao=>?_,key⟩
    subst ao
    simp only [Bool.not_true,Bool.false_or,Bool.and_eq_true,Bool.not_eq_true',List.all_eq_true,List.contains_iff_mem] at I
    exact b8.JG (fun e=>by rw [e] at I;simp at I) fun j ay=>key k rfl j (by simpa [o6.ids] using I.2 j ay)
theorem lN {L:List bz} {m:ad} {fr:bT} {id:Nat} {kn:cr} {A:Prop} {σ:Type} (aJ:fm c.P c.T=true) (hm:c.P.follows .mixedOrders=true) (p:o6) (md:List (Nat×Nat)) (ks:List Nat) (k:Nat) (S:σ→vz) (gU:σ→Prop)
 (aB:(nA ops p true ops.size (Array.replicate ops.size false)&&ops.toList.all ra)=true)
 (b4:∀x,gU x→gy (S x).1 fun fr=>gy (S x).2.1 fun L=>kn fr L (S x).2.2)
 (ck:qw c (q9 ops.toList) ops.toList (fun fr L m=>∃x,fits c md ks k fr L m (S x)∧gU x) p fr L m):qq A (AI c id ops true kn fr L m):=by
 simp only [Bool.and_eq_true,List.all_eq_true] at aB
 refine ⟨.inr ⟨fun new g n Q aj gI=>?_⟩⟩
 have mK:=Eg aj
 simp only [iL,Bool.and_eq_true,List.all_eq_true] at aj
 refine b7.mR (Q:=fun e f m=>∃fw m',gL fw f∧(∀b o,m' b=some o→m b=some o)∧Q e fw m') (fun e f m h=>h) ?_
 refine HH hm (List.range n) mK fun K U=>?_
 have I:=(vJ (K:=fun fr az=>∃fw m',gL fw fr∧(∀b o,m' b=some o→az b=some o)∧Q .normal fw m') aJ rfl (fun o av=>⟨(aj.1 o av).1,(aj.1 o av).2,aB.2 o av⟩) (fun bb bJ m' eu dQ ⟨x,aW,aM⟩=>by
  obtain ⟨g2,ar,al,hlen⟩:=yl (b0:=c.bs) rfl dQ aW
  have:=b4 x aM
  rw [hv,hv] at this
  exact ⟨_,_,ar,al,gI _ _ _ _ (List.prefix_append _ _) g2 this⟩) p true _ _ fr L m new aB.1 g ck).1 rfl
 refine b8.SY (fun f az ⟨al,fw,m',ar,xo,aO⟩=>U _ _ ⟨fw,m',fun t x ah=>?_,xo,aO⟩) (b8.dX I)
 obtain ⟨y,aE,qi⟩:=ar t x ah
 obtain ⟨z,aA,nY⟩:=Ef al t y aE
 rcases nY with rfl|nY
 · exact ⟨_,aA,qi⟩
 · refine ⟨_,aA, .inr fun w lim v os au=>?_⟩
   have J:=nY w lim v os au
   rcases qi with rfl|qi
   · exact J
   · exact qi w lim v [] J
end
end Go.bS
end
section
namespace Go.bS
open Go Go.bh
theorem bn.pl {P:Program} {f:FuncId} {a:List R} {m:ad} {K:R→ad→Prop} (h:bn P f a m fun x m'=>K x.plain m'):bn P f a m K:=
 ⟨h.1,fun F lim w cargs I J ai=>(h.2 F lim w cargs I J ai).mono fun _ _ ⟨v,x,lim',m',_,he,U,au,al,aB⟩=>⟨v,x.plain,lim',m',[],he,U,au.plain,al.drop,aB⟩⟩
example (l:List R) (n:Int):R.plain (.tuple [.slice true l, .int .i64 n, .err 3 n])= .tuple [.slice false l, .int .i64 n, .err 3 n]:=rfl
end Go.bS
end
section
namespace Go.bh
open Go RowKit
section
variable {P:Program} {F:Nat→Prop} {lim:Nat→Nat} {w w':World} {n:Nat} {fr:Fr} {m:ad} {ca:Act} {bu:List Nat}
theorem bd.below (st:bd F lim w n fr m ca bu) (h:Below w.heap.size w w'):bd F lim w' n fr m ca bu:=by
 have ar:=h.block
 have aW:∀c,w.heap.size≤c→lim c=0:=fun c ag=>by
  obtain ⟨_,_,_,s⟩:=st
  exact (s.fresh c ag).1
 have hm:∀b,m b≠none→b<w.heap.size:=fun b ae=>st.p4 ae
 have fU:∀b o,o<lim b→b<w.heap.size:=fun b o av=>st.qF av
 exact st.world h.size (fun _=>Nat.le_refl _) (fun b o av=>by simp [World.cell?,ar b (fU b o av)]) (fun c ag=> .inr ⟨ar c ag,rfl⟩) (fun b ae=>⟨ar b (hm b ae),rfl⟩) (fun c ag=>aW c (Nat.le_trans h.size ag))
theorem yw (st:bd F lim w n fr m ca bu) (h:Below w.heap.size w w'):dc F w lim w' lim:=
 ⟨h.os,h.tape,h.output,h.size,fun b ae=>⟨h.block b (st.pt ae),rfl⟩,fun _=>Nat.le_refl _,fun b o av=>by simp [World.cell?,h.block b (st.qF av)]⟩
theorem S2 {f yx A3:Nat} {tR:Nat} {e:TypeId} {z:Nat×Nat} {tp:TypeId} {p:Value} (aW:∃fn,P.funcs[f]?=some fn∧fn.body.isSome=true∧(fn.name== "runtime.NumGoroutine")=false)
 (cO:∀(s:ByteArray) (n:Int),s.size≤18→Lib.atoi s.data.toList=some n→∀w:World,Calls P f #[.string s] w fun e w'=>e= .returned (.tuple #[.int .i64 n, .nilIface])∧∃t,w'=Lib.bytesWorld w yx t)
 (S3:∀(s:ByteArray),s.size≤18→Lib.atoi s.data.toList=none→∀(fq:Value) (w:World),w.cell? ⟨tR,0,none⟩=some fq→(fq= .nilIface∨∃te pW,fq= .iface te pW)→Calls P f #[.string s] w fun e w'=>∃N,e= .returned (.tuple #[.int .i64 0, .iface A3 (.pointer (some ⟨N,0,none⟩))])∧Below w.heap.size w w')
 {s:List UInt8} {K:R→ad→Prop} (al:s.length≤18) (ae:∀n,Lib.atoi s=some n→-9223372036854775808≤n∧n≤9223372036854775807) (hm:m tR=some (.lb e z #[.iface tp p]))
 (U:K (.tuple [.int .i64 ((Lib.atoi s).getD 0), .opt (Lib.atoi s).isNone]) m):bn P f [.str s] m K:=by
 refine ⟨aW,fun F lim w cargs b2 au st=>?_⟩
 obtain ⟨x,rfl⟩:=AW b2
 have pU:aF w lim x (.str s) []:=au 0 (by simp)
 obtain ⟨b,rfl,lk⟩:∃b:ByteArray,x= .string b∧b.data.toList=s:=by
  cases pU with
  |str b _=>exact ⟨b,rfl,rfl⟩
 have JI:b.size≤18:=by rw [←lk] at al;simpa using al
 have ez:∀{cH:World} {n:Int} {v:Value} {o:Bool},-9223372036854775808≤n→n≤9223372036854775807→aF cH lim v (.opt o) []→aF cH lim (.tuple #[.int .i64 n,v]) (.tuple [.int .i64 n, .opt o]) []:=fun {cH n v o} I J ai=>by
  have:=aF.tuple (w:=cH) (lim:=lim) #[.int .i64 n,v] [.int .i64 n, .opt o] (fun _=>[]) rfl (fun i ab=>by
   match i,ab with
   |0,_=>exact .int .i64 n I J
   |1,_=>exact ai)
  exact this
 cases aH:Lib.atoi s with
 |some n=>
  rw [aH] at U
  refine (cO b n JI (by rw [lk];exact aH) w).mono fun ax lJ ⟨he,t,hw⟩=>?_
  subst he;subst hw
  exact ⟨_,_,lim,_,[],rfl,U,ez (ae n aH).1 (ae n aH).2 .mB,st.below (Lib.bytesWorld_below _ _ _),yw st (Lib.bytesWorld_below _ _ _)⟩
 |none=>
  rw [aH] at U
  have ag:w.cell? ⟨tR,0,none⟩=some (.iface tp p):=by
   obtain ⟨os,b6,bA,s⟩:=st
   have:=(s.mem tR _ hm).1
   cases this with
   |lb _ _ _ _ ae=>simp [World.cell?,ae]
  refine (S3 b JI (by rw [lk];exact aH) _ w ag (.inr ⟨tp,p,rfl⟩)).mono fun ax lJ ⟨N,he,hw⟩=>?_
  subst he
  exact ⟨_,_,lim,_,[],rfl,U,ez (by decide) (by decide) (.mC _ _),st.below hw,yw st hw⟩
end
end Go.bh
end
section
namespace Go.bS
open Go Go.bh
section
variable {P:Program} {b0:List Nat} {fr:bT} {L:List bz} {m:ad} {K:cr}
theorem S4 {d t s:Nat} {parts:Array (Nat×Operand)} {cA:Array Field} {z:R} (pre post:List a6) (q:List R) (hu:P.underlying t=some (.struct cA)) (aA:hG P t=some z) (rT:z.eg=true) (ko:∀f∈cA.toList,ef P f.type=true)
 (qM:∀bs,∀X:R,X.eg=true→∀p∈parts.toList,(pN (a1 (bm bs fr)) s X p.2).eg=true)
 (u9:∀bs a k c,nn (fun i=>(cA[i]?).map fun f=>(f.offset,P.cellsOf f.type)) z.cells (parts.toList.map fun p=>(p.1,pN (a1 (bm bs fr)) s (.ms a k c) p.2))=some (bo bs pre++ .ms a k c::bo bs post))
 (hi:∀bs,nn (fun i=>(cA[i]?).map fun f=>(f.offset,P.cellsOf f.type)) z.cells (parts.toList.map fun p=>(p.1,pN (a1 (bm bs fr)) s (.slice true q) p.2))=some (bo bs pre++ .slice true q::bo bs post))
 (ah:kX fr s fun v=>v= .own q) (hS:(parts.toList.any fun p=>match p.2 with| .tmp t=>t==s|_=>false)=true) (h:K ((d, .agg (pre++ .own q::post))::(s, .aK (.slice false q))::fr) L m):
 ik P b0 (some d) (.build t parts) fr L m K:=⟨fun new g n ops ty pos af l mf cO aL U=>by
 refine xz (stl:=[d]) cO aL ?_
 have au:a1 (bm (b0++new) fr) s= .slice true q:=by
  rw [lo];rw [mj] at ah;rw [ah];rfl
 refine QD (P:=P) (ops:=ops) (stl:=[d]) (r:=[]) (K:=bQ P n ops l mf) rfl s (bo (b0++new) pre) (bo (b0++new) post) (by simp) hu aA rT ko (qM _) (u9 _) (hi _) au hS ?_
 have:=U _ _ _ (b0++new) (List.prefix_append _ _) g h
 have e:bo (b0++new) (pre++ .own q::post)=bo (b0++new) pre++ .slice true q::bo (b0++new) post:=by
  rw [mi,mi,mi,List.map_append,List.map_cons];rfl
 simp only [bm,den,e] at this
 rw [zC,au]
 exact this⟩
end
end Go.bS
end
section
namespace Go.bh
open Go
inductive vK:Value→Prop
 |u64 (n:Int):vK (.int .u64 n)
 |iface (t:TypeId) (p:Value):vK (.iface t p)
theorem S5 {w:World} {lim:Nat→Nat} {v:Value} (bc:vK v) {x:R} {os:List Nat} (h:aF w lim v x os) (ah:jr x):False:=by
 cases bc with
 |u64 n=>exact SF h ah
 |iface t p=>cases ah<;>cases h
theorem S6 {w:World} {lim lim':Nat→Nat} {B:Nat→Prop} (ag:∀b o v,B b→w.cell? ⟨b,o,none⟩=some v→vK v) (ar:∀b,¬B b→lim' b=lim b) {v:Value} {x:R} {os:List Nat} (h:aF w lim v x os):jr x→aF w lim' v x os:=by
 induction h with
 |bool b=>exact fun _=> .bool b
 |int k n bD ab=>exact fun _=> .int k n bD ab
 |str s h=>exact fun _=> .str s h
 |fz own=>exact fun _=> .fz own
 |empty a cap hm=>exact fun _=> .empty a cap hm
 |slice b off n cap sz l cv aL dT hm cU b2 ek vL au aQ=>
  intro ah
  cases ah with
  |slice _ mo lL=>
   rcases Nat.eq_zero_or_pos n with aq|aq
   · subst aq
     have:l=[]:=List.eq_nil_of_length_eq_zero aL
     subst this
     exact .empty _ _ hm
   · have hS:∀i,i<n→l.getD i .aP∈l:=fun i ab=>by simp [List.getD_eq_getElem?_getD,show i<l.length by omega]
     have S7:∀(L:List R) (j:Nat),j<L.length→L.getD j .aP∈L:=fun L j ay=>by
      rw [List.getD_eq_getElem?_getD,List.getElem?_eq_getElem ay];exact List.getElem_mem _
     have cO:∀i j,i<n→j<sz→jr ((l.getD i .aP).cells.getD j .aP):=fun i j ab ay=>lL _ (hS i ab) _ (S7 _ j (by rw [b2 i ab];exact ay))
     have EI:0<sz:=by
      rw [←b2 0 aq];exact List.length_pos_iff.2 (mo _ (hS 0 aq))
     have ae:¬B b:=fun e=>S5 (ag b _ _ e (vL 0 0 aq EI)) (au 0 0 aq EI) (cO 0 0 aq EI)
     exact .slice b off n cap sz l cv aL dT hm cU b2 (by rw [ar b ae];exact ek) vL fun i j ab ay=>aQ i j ab ay (cO i j ab ay)
 |agg cs xs os h au aQ=>
  intro ah
  cases ah with
  |agg _ lL=>
   exact .agg cs xs os h fun i ab=>aQ i ab (lL _ (by
    rw [List.getD_eq_getElem?_getD,List.getElem?_eq_getElem ab]
    exact List.getElem_mem _))
 |_=>intro ah;cases ah
structure EJ where
 e:TypeId
 z:Nat×Nat
 cs:Array Value
def yy (G:Nat→Option EJ):ad:=fun b=>(G b).map fun t=> .lb t.e t.z t.cs
section
variable {P:Program}
theorem S8 {f:FuncId} {avs:List R} {cargs:Array Value} {G:Nat→Option EJ} {W:World} (h:bn P f avs (yy G) (fun x m'=>x= .bool true∧∀b t,G b=some t→m' b=some (.lb t.e t.z t.cs))) (al:cargs.size=avs.length)
 (aJ:∀b t,G b=some t→W.heap[b]?=some (.cells t.cs t.e t.z)∧∀v∈t.cs.toList,vK v)
 (au:∀i,i<avs.length→aF W (ma W) (cargs.getD i undef) (avs.getD i .aP) []) (av:∀x∈avs,jr x):
 Calls P f cargs W fun e mb=>e= .returned (.bool true)∧RowKit.Below W.heap.size W mb:=by
 have bG:∀b t,G b=some t→b<W.heap.size:=fun b t ae=>by
  rcases Nat.lt_or_ge b W.heap.size with h|h
  · exact h
  · have:=(aJ b t ae).1
    rw [Array.getElem?_eq_none h] at this;cases this
 have ag:∀b o v,(∃t,G b=some t)→W.cell? ⟨b,o,none⟩=some v→vK v:=fun b o v ⟨t,ae⟩ bc=>by
  simp only [World.cell?,(aJ b t ae).1] at bc
  exact (aJ b t ae).2 v (by simpa using Array.mem_of_getElem? bc)
 have st:bd (fun b=>b<W.heap.size∧G b=none) (fun b=>if (G b).isSome then 0 else ma W b) W 0 [] (yy G) oP []:=by
  refine ⟨fun _=>[],fun _ _=>[],fun _=> .none,rfl,rfl,fun t x ah=>by simp [Fr.get] at ah,fun b o h=>?_,fun t x ah=>by simp [Fr.get] at ah,fun b o h i=>⟨List.nodup_nil,fun c ag=>by cases ag⟩,by simp,fun c h=>absurd rfl h,fun b ae=>?_⟩
  · unfold yy at h
    cases ax:G b with
    |none=>rw [ax] at h;cases h
    |some t=>
     rw [ax] at h
     obtain rfl:=Option.some.inj h
     exact ⟨.lb t.e _ _ _ (aJ b t ax).1,by simp [ed.zf],fun ba=>by cases ba.2⟩
  · have ax:G b=none:=by
     cases ax:G b with
     |none=>rfl
     |some t=>have:=bG b t ax;omega
    have:W.heap[b]?=none:=by simpa using ae
    exact ⟨by simp [ax,ma,this],fun ba=>by omega,by simp [yy,ax]⟩
 refine (h.2 _ _ W cargs al (fun i ab=>S6 (B:=fun b=>∃t,G b=some t) ag (fun b ae=>by
  have ax:G b=none:=by
   cases ax:G b with
   |none=>rfl
   |some t=>exact absurd ⟨t,ax⟩ ae
  simp [ax]) (au i ab) (av _ (by rw [List.getD_eq_getElem?_getD,List.getElem?_eq_getElem ab];exact List.getElem_mem _))) st).mono fun e mb ⟨v,x,lim',m',os,he,U,ah,bW,aB⟩=>?_
 obtain ⟨U,hm⟩:=U
 subst U
 cases ah
 refine ⟨he,aB.os,aB.tape,aB.output,aB.size,fun k aj=>?_⟩
 cases ax:G k with
 |some t=>
  obtain ⟨_,_,_,s⟩:=bW
  have:=(s.mem k _ (hm k t ax)).1
  cases this with
  |lb _ _ _ _ ae=>rw [ae,(aJ k t ax).1]
 |none=>exact (aB.res k ⟨aj,ax⟩).1
end
end Go.bh
end
section
namespace Go.bh
open Go Go.MapKept
section
variable {P:Program} {F:Nat→Prop} {lim:Nat→Nat} {w w':World} {n:Nat} {fr:Fr} {m:ad} {ca:Act} {bu:List Nat}
variable {ops:Array Oper} {stl:List Nat} {r:List Oper} {K:Fr→ad→Prop} {d:Nat} {ty:TypeId} {pos:String} {af:Array Edge} {gd:Option (Nat×Bool)} {L:List (Nat×ed)}
end
end Go.bh
namespace Go.bS
open Go Go.bh
theorem JJ {bs:List Nat} {L:List bz} {m:ad} (g:Good bs L m) {b:Nat} {o:ed} (h:m b=some o):bK bs L m b=some o:=
 Qj h fun c ag=>by rw [o0 g.len] at ag;exact g.fresh c ag
section
variable {P:Program} {T:hZ} {b0:List Nat} {fr:bT} {L:List bz} {m:ad} {K:cr}
end
section
variable {c:gl} {L:List bz} {fr:bT} {m:ad}
end
end Go.bS
end
section
namespace Go.bS
open Go Go.bh
def EK {cq ep:Type} (m:ad) (dM:cq→R) (vf:ep→R) (o:Option Nat) (l:List (cq×ep)):Prop:=
 match o with
 |none=>l=[]
 |some b=>m b=some (.map (l.map (C7 dM vf)))
theorem EK.up {cq ep:Type} {m az:ad} {dM:cq→R} {vf:ep→R} {o:Option Nat} {l:List (cq×ep)} (ao:∀b o,m b=some o→az b=some o) (h:EK m dM vf o l):EK az dM vf o l:=by
 cases o with
 |none=>exact h
 |some b=>exact ao _ _ h
section
variable {P:Program} {T:hZ} {b0:List Nat} {fr:bT} {L:List bz} {m:ad} {K:cr}
theorem A4 {f:FuncId} {vs:List a6} {x:R} {Q:a6→Prop} (h:∀bs (az:ad),(∀b o,m b=some o→az b=some o)→∀(K:R→ad→Prop),K x az→bn P f (bo bs vs) az K) (gI:Q (qp x)):DW P b0 f vs L m Q:=
 ⟨qp x,fun new g=>⟨x,fun K U=>h (b0++new) _ (fun _ _ ae=>JJ g ae) K U,by rw [q2]⟩,gI⟩
end
end Go.bS
end
section
namespace Go.bh
open Go RowKit Go.Sort
open Go.Proofs (encStr)
section
variable {P:Program} {F:Nat→Prop} {lim:Nat→Nat} {w w':World} {n:Nat} {fr:Fr} {m:ad} {ca:Act} {bu:List Nat}
def j5 (s:List UInt8):Int:=match Lib.atoiAll s with
 | .ok v=>v
 |Lib.NumEnd.syntax=>0
 | .range=>Lib.atoiSat s
def lO (s:List UInt8):Bool:=match Lib.atoiAll s with
 | .ok _=>false
 |_=>true
theorem JK (s:List UInt8):-9223372036854775808≤j5 s∧j5 s≤9223372036854775807:=by
 unfold j5
 split
 · rename_i h;exact Lib.atoiAll_bounds h
 · decide
 · unfold Lib.atoiSat;split<;>decide
theorem JL (st:bd F lim w n fr m ca bu) {b:Nat} {e:TypeId} {z:Nat×Nat} {tp:TypeId} {p:Value} (hm:m b=some (.lb e z #[.iface tp p])):w.cell? ⟨b,0,none⟩=some (.iface tp p):=by
 obtain ⟨os,b6,bA,s⟩:=st
 have:=(s.mem b _ hm).1
 cases this with
 |lb _ _ _ _ ae=>simp [World.cell?,ae]
theorem S9 {f yx A3 tR JM:Nat} {e:TypeId} {z:Nat×Nat} {tp:TypeId} {p:Value} {aI:TypeId} {z2:Nat×Nat} {JN:TypeId} {uA:Value} (aW:∃fn,P.funcs[f]?=some fn∧fn.body.isSome=true∧(fn.name== "runtime.NumGoroutine")=false)
 (cO:∀(s:ByteArray),s.size≤9223372036854775806→∀v,Lib.atoiAll s.data.toList= .ok v→∀w:World,Calls P f #[.string s] w fun e w'=>e= .returned (.tuple #[.int .i64 v, .nilIface])∧(w'=w∨∃t,w'=Lib.bytesWorld w yx t))
 (Ta:∀(s:ByteArray),s.size≤281474976710656→Lib.atoiAll s.data.toList=Lib.NumEnd.syntax→∀(fq:Value) (w:World),w.cell? ⟨tR,0,none⟩=some fq→(fq= .nilIface∨∃te pW,fq= .iface te pW)→Calls P f #[.string s] w fun e w'=>∃N,e= .returned (.tuple #[.int .i64 0, .iface A3 (.pointer (some ⟨N,0,none⟩))])∧Below w.heap.size w w')
 (qP:∀(s:ByteArray),s.size≤281474976710656→Lib.atoiAll s.data.toList= .range→∀(fq:Value) (w:World),w.cell? ⟨JM,0,none⟩=some fq→(fq= .nilIface∨∃te pW,fq= .iface te pW)→Calls P f #[.string s] w fun e w'=>∃N,e= .returned (.tuple #[.int .i64 (Lib.atoiSat s.data.toList), .iface A3 (.pointer (some ⟨N,0,none⟩))])∧Below w.heap.size w w')
 {s:List UInt8} {K:R→ad→Prop} (hm:m tR=some (.lb e z #[.iface tp p])) (qu:m JM=some (.lb aI z2 #[.iface JN uA]))
 (U:K (.tuple [.int .i64 (j5 s), .opt (lO s)]) m):bn P f [.str s] m K:=by
 refine ⟨aW,fun F lim w cargs b2 au st=>?_⟩
 obtain ⟨x,rfl⟩:=AW b2
 have pU:aF w lim x (.str s) []:=au 0 (by simp)
 obtain ⟨b,rfl,lk,px⟩:∃b:ByteArray,x= .string b∧b.data.toList=s∧b.size≤140737488355328:=by
  cases pU with
  |str b ae=>exact ⟨b,rfl,rfl,ae⟩
 have ez:∀{cH:World} {n:Int} {v:Value} {o:Bool},-9223372036854775808≤n→n≤9223372036854775807→aF cH lim v (.opt o) []→aF cH lim (.tuple #[.int .i64 n,v]) (.tuple [.int .i64 n, .opt o]) []:=fun {cH n v o} I J ai=>by
  have:=aF.tuple (w:=cH) (lim:=lim) #[.int .i64 n,v] [.int .i64 n, .opt o] (fun _=>[]) rfl (fun i ab=>by
   match i,ab with
   |0,_=>exact .int .i64 n I J
   |1,_=>exact ai)
  exact this
 have b4:=JK s
 unfold j5 at b4 U
 unfold lO at U
 cases aH:Lib.atoiAll s with
 |ok v=>
  rw [aH] at U b4
  refine (cO b (by omega) v (by rw [lk];exact aH) w).mono fun ax lJ ⟨he,hw⟩=>?_
  subst he
  rcases hw with rfl|⟨t,rfl⟩
  · exact ⟨_,_,lim,_,[],rfl,U,ez b4.1 b4.2 .mB,st, .refl _ _ _⟩
  · exact ⟨_,_,lim,_,[],rfl,U,ez b4.1 b4.2 .mB,st.below (Lib.bytesWorld_below _ _ _),yw st (Lib.bytesWorld_below _ _ _)⟩
 |range=>
  rw [aH] at U b4
  refine (qP b (by omega) (by rw [lk];exact aH) _ w (JL st qu) (.inr ⟨JN,uA,rfl⟩)).mono fun ax lJ ⟨N,he,hw⟩=>?_
  rw [lk] at he
  subst he
  exact ⟨_,_,lim,_,[],rfl,U,ez b4.1 b4.2 (.mC _ _),st.below hw,yw st hw⟩
 |_=>
  rw [aH] at U b4
  refine (Ta b (by omega) (by rw [lk];exact aH) _ w (JL st hm) (.inr ⟨tp,p,rfl⟩)).mono fun ax lJ ⟨N,he,hw⟩=>?_
  subst he
  exact ⟨_,_,lim,_,[],rfl,U,ez b4.1 b4.2 (.mC _ _),st.below hw,yw st hw⟩
end
end Go.bh
end
