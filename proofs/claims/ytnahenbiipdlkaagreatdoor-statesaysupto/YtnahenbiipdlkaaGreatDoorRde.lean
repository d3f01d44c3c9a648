/-
  Values that a law is handed read as typed data, no greater than their bulk; none reads as a cell of a table of u64s.
-/
import Derived.Test.YtnahenbiipdlkaaGreatDoorWl2
import Derived.Test.YtnahenbiipdlkaaGreatDoorLa5
import Derived.Test.YtnahenbiipdlkaaGreatDoorWzG
import Derived.Test.YtnahenbiipdlkaaGreatDoorSv4
import Derived.Test.YtnahenbiipdlkaaGreatDoorWyD
section
namespace Go.Proofs
open Go Go.bh Go.bS
set_option maxRecDepth 100000
def um (n:Nat):UInt8:=gW.getD n 0
def nS (c:UInt8):List UInt8:=if c.toNat=34∨c.toNat=92 then [92,c] else if c.toNat<32∨126<c.toNat then [92,120,um (c.toNat/16),um (c.toNat%16)] else [c]
def sN (s:List UInt8):List UInt8:=34::s.flatMap nS++[34]
def Good (t:Tok):Prop:=
 (t.1=1∧t.2.2.length≤12∧(∀c∈t.2.2,iu c=true)∧∃c r,t.2.2=c::r∧lU c=true)∨
 (t.1=2∧t.2.2.length≤10∧(∀c∈t.2.2,fo c=true)∧(∃c r,t.2.2=c::r∧(c.toNat=48→r=[])))∨
 (t.1=3∧t.2.2.length≤40)∨
 (t.1=4∧(t.2.2=[61,61]∨∃c,t.2.2=[c]∧c∈oo))
theorem MO {f:UInt8→Bool} {T w r:List UInt8} {a:Int} (aq:0≤a) (aJ:T.drop a.toNat=w++r) (hw:∀c∈w,f c=true) (aL:∀c q,r=c::q→f c=false):eK f T a=a+w.length:=by
 have:((T.drop a.toNat).takeWhile f).length=w.length:=by
  rw [aJ]
  have:(w++r).takeWhile f=w:=by
   clear aJ
   induction w with
   |nil=>
    cases r with
    |nil=>rfl
    |cons c q=>simp [aL c q rfl]
   |cons c w aQ=>simp only [List.cons_append,List.takeWhile_cons,hw c (by simp),if_true];rw [aQ (fun c ag=>hw c (by simp [ag]))]
  rw [this]
 unfold eK runN
 rw [this];omega
theorem Gc {T w r:List UInt8} {a:Int} (aq:0≤a) (aJ:T.drop a.toNat=w++r):sub T a (a+w.length)=w:=by
 unfold sub
 rw [aJ,show (a+(w.length:Int)- a).toNat=w.length by omega]
 simp
theorem sO {T r:List UInt8} {c:UInt8} {a:Int} (aq:0≤a) (aJ:T.drop a.toNat=c::r):aa T a=c∧a<T.length:=by
 have bG:a.toNat<T.length:=by
  by_cases h:a.toNat<T.length
  · exact h
  · rw [List.drop_eq_nil_of_le (by omega)] at aJ;cases aJ
 rw [List.drop_eq_getElem_cons bG] at aJ
 injection aJ with I J
 exact ⟨by simp [aa,List.getD_eq_getElem?_getD,bG,I],by omega⟩
theorem Gd {T w r:List UInt8} {a:Int} (aq:0≤a) (aJ:T.drop a.toNat=w++r):T.drop (a+w.length).toNat=r:=by
 have:(a+(w.length:Int)).toNat=a.toNat+w.length:=by omega
 rw [this,←List.drop_drop,aJ];simp
theorem MP (n:Nat) (h:n<16):Lib.indexByte gW (um n)=n:=by
 have J:∀k:Fin 16,Lib.indexByte gW (um k.1)=k.1:=by decide+kernel
 exact J ⟨n,h⟩
theorem YA (c:UInt8):sF ((c.toNat/16:Nat):Int) ((c.toNat%16:Nat):Int)=c:=by
 unfold sF
 have:(16*((c.toNat/16:Nat):Int)+((c.toNat%16:Nat):Int)).toNat=c.toNat:=by omega
 rw [this];simp
theorem Cd {T:List UInt8} {i k:Nat}:(T.drop i).getD k 0=T.getD (i+k) 0:=by
 simp [List.getD_eq_getElem?_getD,List.getElem?_drop]
theorem YB {T r:List UInt8} {c:UInt8} {i:Nat} {b:List UInt8} (aJ:T.drop i=nS c++r):iv T i b=iv T (i+(nS c).length) (b++[c]):=by
 have ag:=c.toNat_lt
 have hlen:i+(nS c++r).length=T.length∨(nS c++r)=[]:=by
  by_cases h:i≤T.length
  · left;rw [←aJ,List.length_drop];omega
  · right;rw [←aJ];exact List.drop_eq_nil_of_le (by omega)
 have a8:∀k,T.getD (i+k) 0=(nS c++r).getD k 0:=fun k=>by rw [←aJ,Cd]
 have mn:=a8 0
 have sP:=a8 1
 have sr:=a8 2
 have BO:=a8 3
 unfold nS at hlen mn sP sr BO ⊢
 split
 · rename_i h
   rw [if_pos h] at hlen mn sP
   simp at hlen mn sP
   rw [UY (by omega) (by simp [mn]) ⟨by omega,by rw [show T.getD (i+1) 0=c by simpa using sP];exact h⟩,show T.getD (i+1) 0=c by simpa using sP]
   rfl
 · rename_i h
   split
   · rename_i J
     rw [if_neg h,if_pos J] at hlen mn sP sr BO
     simp at hlen mn sP sr BO
     have ax:T.getD (i+1) 0=120:=by simpa using sP
     have aI:T.getD (i+2) 0=um (c.toNat/16):=by simpa using sr
     have cR:T.getD (i+3) 0=um (c.toNat%16):=by simpa using BO
     have vD:=MP (c.toNat/16) (by omega)
     have ym:=MP (c.toNat%16) (by omega)
     rw [UZ (by omega) (by simp [mn]) (by rw [ax];rintro ⟨_,h|h⟩<;>exact absurd h (by decide)) ⟨by omega,by rw [ax];rfl,by rw [aI,vD];omega,by rw [cR,ym];omega⟩,aI,cR,vD,ym,YA]
     rfl
   · rename_i J
     rw [if_neg h,if_neg J] at hlen mn
     simp at hlen mn
     have bp:T.getD i 0=c:=by simpa using mn
     rw [UX (by omega) (by rw [bp];omega) (by rw [bp];exact J) (by rw [bp];omega),bp]
     rfl
theorem MQ {T r:List UInt8}:∀(s:List UInt8) (i:Nat) (b:List UInt8),T.drop i=s.flatMap nS++34::r→(b++s).length≤40→iv T i b=(0,b++s,((i+(s.flatMap nS).length+1:Nat):Int))
 |[],i,b,aJ,ar=>by
  have a8:T.getD i 0=34∧i<T.length:=by
   have bG:i<T.length:=by
    by_cases h:i<T.length
    · exact h
    · rw [List.drop_eq_nil_of_le (by omega)] at aJ;simp at aJ
   rw [List.drop_eq_getElem_cons bG] at aJ
   injection aJ with I J
   exact ⟨by simp [List.getD_eq_getElem?_getD,bG,I],bG⟩
  rw [UW a8.2 (by rw [a8.1];rfl) (by simp at ar;omega)]
  simp
 |c::s,i,b,aJ,ar=>by
  rw [List.flatMap_cons,List.append_assoc] at aJ
  rw [YB aJ,MQ (r:=r) s (i+(nS c).length) (b++[c]) (by rw [←List.drop_drop,aJ];simp) (by simpa using ar)]
  simp [List.flatMap_cons,Nat.add_assoc]
theorem YC {c:UInt8} (h:c∈oo):lU c=false∧fo c=false∧(c.toNat:Int)≠34∧(c.toNat:Int)≠35∧(c.toNat:Int)≠32∧(c.toNat:Int)≠10∧0≤Lib.indexByte oo c:=by
 have J:∀c∈oo,lU c=false∧fo c=false∧(c.toNat:Int)≠34∧(c.toNat:Int)≠35∧(c.toNat:Int)≠32∧(c.toNat:Int)≠10∧0≤Lib.indexByte oo c:=by decide+kernel
 exact J c h
theorem YD {c:UInt8} (h:lU c=true):fo c=false∧(c.toNat:Int)≠34∧(c.toNat:Int)≠35∧(c.toNat:Int)≠32∧(c.toNat:Int)≠10:=by
 have:=Fe.1 h
 refine ⟨?_,by omega,by omega,by omega,by omega⟩
 rw [Bool.eq_false_iff];intro J;have:=yN.1 J;omega
theorem YE {c:UInt8} (h:fo c=true):lU c=false∧(c.toNat:Int)≠34∧(c.toNat:Int)≠35∧(c.toNat:Int)≠32∧(c.toNat:Int)≠10:=by
 have:=yN.1 h
 refine ⟨?_,by omega,by omega,by omega,by omega⟩
 rw [Bool.eq_false_iff];intro J;have:=Fe.1 J;omega
def BP (t:Int×ak) (r:ak):Prop:=(t.1=1→∀c q,r=c::q→iu c=false)∧(t.1=2→∀c q,r=c::q→fo c=false)∧(t=(4,[61])→∀c q,r=c::q→c≠61)
def ph (t:Int×ak):ak:=if t.1=3 then sN t.2 else t.2
theorem YF {T r:ak} {k p:Int} {w:ak} {a:Int} (a8:Good (k,p,w)) (aq:0≤a) (aJ:T.drop a.toNat=ph (k,w)++r) (aW:BP (k,w) r):
 a<T.length∧¬(((aa T a).toNat:Int)=32∨((aa T a).toNat:Int)=10)∧((aa T a).toNat:Int)≠35∧gm T a=(k,w,a+(ph (k,w)).length,0):=by
 rcases a8 with ⟨I,J,ai,c,q,aC,aN⟩|⟨I,J,ai,c,q,aC,aN⟩|⟨I,J⟩|⟨I,J⟩
 · simp only at I J ai aC;subst I
   have aB:ph (1,w)=w:=rfl
   rw [aB] at aJ
   have hw:=MO (f:=iu) aq aJ ai (aW.1 rfl)
   have al:=Gc aq aJ
   subst aC
   obtain ⟨g1,g2⟩:=sO aq aJ
   have ar:=YD aN
   rw [g1]
   refine ⟨g2,by omega,by omega,?_⟩
   rw [KL (by rw [g1];exact aN),hw,if_neg (by omega),al,aB]
 · simp only at I J ai aC;subst I
   have aB:ph (2,w)=w:=rfl
   rw [aB] at aJ
   have hw:=MO (f:=fo) aq aJ ai (aW.2.1 rfl)
   have al:=Gc aq aJ
   subst aC
   obtain ⟨g1,g2⟩:=sO aq aJ
   have aY:=ai c (by simp)
   have ar:=YE aY
   rw [g1]
   refine ⟨g2,by omega,by omega,?_⟩
   rw [KM (by rw [g1,ar.1];simp) (by rw [g1];exact aY),hw,g1,if_neg (by
    intro ba
    rcases ba with ba|⟨ba,aj⟩
    · omega
    · have:=aN (by omega)
      subst this;simp at aj),al,aB]
 · simp only at I J;subst I
   have aB:ph (3,w)=sN w:=rfl
   rw [aB] at aJ
   have MR:T.drop a.toNat=34::(w.flatMap nS++34::r):=by rw [aJ];simp [sN]
   obtain ⟨g1,g2⟩:=sO aq MR
   have aY:T.drop (a+1).toNat=w.flatMap nS++34::r:=by
    have:(a+1).toNat=a.toNat+1:=by omega
    rw [this,←List.drop_drop,MR];simp
   have aO:gB T (a+1) []=(0,w,a+(sN w).length):=by
    unfold gB
    rw [MQ w _ [] aY (by simpa using J)]
    simp [sN];omega
   rw [g1]
   refine ⟨g2,by decide,by decide,?_⟩
   rw [KN (by rw [g1];rfl),aO,aB]
   simp
 · simp only at I J;subst I
   have aB:ph (4,w)=w:=rfl
   rw [aB] at aJ
   have al:=Gc aq aJ
   rcases J with rfl|⟨c,rfl,ag⟩
   · obtain ⟨g1,g2⟩:=sO (r:=[61]++r) aq aJ
     have aY:T.drop (a+1).toNat=61::r:=Gd (w:=[61]) aq aJ
     obtain ⟨g3,g4⟩:=sO (a:=a+1) (by omega) aY
     rw [g1]
     refine ⟨g2,by decide,by decide,?_⟩
     unfold gm
     rw [g1,if_neg (by decide),if_neg (by decide),if_neg (by decide),if_pos ⟨by decide,g4,by rw [g3];decide⟩,aB]
     simp
   · have BQ:=YC ag
     obtain ⟨g1,g2⟩:=sO (r:=r) aq aJ
     have aY:T.drop (a+1).toNat=r:=Gd (w:=[c]) aq aJ
     rw [g1]
     refine ⟨g2,by omega,by omega,?_⟩
     unfold gm
     rw [g1,if_neg (by rw [BQ.1];simp),if_neg (by rw [BQ.2.1];simp),if_neg BQ.2.2.1,if_neg (by
      rintro ⟨aaW,Ge,BR⟩
      have ax:c=61:=by
       have:c.toNat=61:=by omega
       exact UInt8.toNat_inj.1 this
      subst ax
      cases r with
      |nil=>have:=congrArg List.length aY;rw [List.length_drop] at this;simp at this;omega
      |cons d q=>
       obtain ⟨g3,g4⟩:=sO (a:=a+1) (by omega) aY
       rw [g3] at BR
       exact aW.2.2 rfl d q rfl (by have:d.toNat=61:=by omega
                                    exact UInt8.toNat_inj.1 this)),if_pos BQ.2.2.2.2.2.2,aB]
     have:sub T a (a+1)=[c]:=al
     rw [this];simp
def rI (t:Tok):Int×ak:=(t.1,t.2.2)
def iy (F:ak→Prop) (w:ak) (bC:List (Int×ak)):Prop:=∀(T r:ak) (a:Int) (n:Nat) (out:List Tok),0≤a→T.drop a.toNat=w++r→a≤T.length→F r→(T.length:Int)- a<n→
 ∃(qv:Nat) (l:List Tok),l.map rI=bC∧(T.length:Int)- (a+w.length)<qv∧a+w.length≤T.length∧gX n T a out=gX qv T (a+w.length) (out++l)
def rC (_:ak):Prop:=True
def sQ (r:ak):Prop:=∀c q,r=c::q→iu c=false
theorem iy.app {MS Gf:ak→Prop} {cH dO:ak} {t1 t2:List (Int×ak)} (I:iy MS cH t1) (J:iy Gf dO t2) (cE:∀r,Gf r→MS (dO++r)):iy Gf (cH++dO) (t1++t2):=by
 intro T r a n out aq aJ aH au aL
 rw [List.append_assoc] at aJ
 obtain ⟨jB,ie,ax,cX,dt,kz⟩:=I T (dO++r) a n out aq aJ aH (cE r au) aL
 obtain ⟨gq,iC,aI,cI,a2,z2⟩:=J T r (a+cH.length) jB (out++ie) (by omega) (Gd aq aJ) dt au cX
 refine ⟨gq,ie++iC,by rw [List.map_append,ax,aI],?_,?_,?_⟩
 · rw [List.length_append];omega
 · rw [List.length_append];omega
 · rw [kz,z2,List.append_assoc,List.length_append]
   congr 1;omega
theorem iy.mR {F G:ak→Prop} {w:ak} {bC:List (Int×ak)} (h:iy F w bC) (pF:∀r,G r→F r):iy G w bC:=fun T r a n out aq aJ aH au aL=>h T r a n out aq aJ aH (pF r au) aL
theorem uo {c:UInt8} (ag:(c.toNat:Int)=32∨(c.toNat:Int)=10):iy rC [c] []:=by
 intro T r a n out aq aJ aH au aL
 obtain ⟨g1,g2⟩:=sO aq aJ
 obtain ⟨n,rfl⟩:∃k,n=k+1:=⟨n- 1,by omega⟩
 exact ⟨n,[],rfl,by simp;omega,by simp;omega,by rw [KE g2 (by rw [g1];exact ag)];simp⟩
theorem YG {k p:Int} {w:ak} (a8:Good (k,p,w)):1≤(ph (k,w)).length:=by
 rcases a8 with ⟨I,_,_,c,q,aC,_⟩|⟨I,_,_,c,q,aC,_⟩|⟨I,_⟩|⟨I,aC⟩<;>simp only at I<;>subst I
 · simp only at aC;subst aC;simp [ph]
 · simp only at aC;subst aC;simp [ph]
 · simp [ph,sN]
 · rcases aC with aC|⟨c,aC,_⟩<;>simp only at aC<;>subst aC<;>simp [ph]
theorem y6 {k p:Int} {w:ak} (a8:Good (k,p,w)):iy (BP (k,w)) (ph (k,w)) [(k,w)]:=by
 intro T r a n out aq aJ aH au aL
 obtain ⟨g1,g2,g3,g4⟩:=YF a8 aq aJ au
 obtain ⟨n,rfl⟩:∃k,n=k+1:=⟨n- 1,by omega⟩
 have ar:=congrArg List.length aJ
 rw [List.length_drop,List.length_append] at ar
 have aB:=YG a8
 refine ⟨n,[(k,a,w)],rfl,by omega,by omega,?_⟩
 rw [KF g1 g2 g3 (by rw [g4]),g4]
theorem BP.eu {t:Int×ak} {r:ak} (h:sQ r) (ao:t≠(4,[61])):BP t r:=
 ⟨fun _=>h,fun _ c q e=>by have:=h c q e;simp only [iu,Bool.or_eq_false_iff] at this;exact this.2,fun e=>absurd e ao⟩
theorem YH {s:ak} (h:b1 s=true):Good (1,0,s):=by
 unfold b1 at h
 simp only [Bool.and_eq_true,decide_eq_true_eq,Bool.not_eq_true',beq_eq_false_iff_ne] at h
 obtain ⟨⟨I,J⟩,ai⟩:=h
 have key:∀(s:ak) (b:Bool),kE s b=true→(∀c∈s,iu c=true)∧(b=true→∀c r,s=c::r→lU c=true):=fun s=>by
  induction s with
  |nil=>intro b _;exact ⟨(fun c ag=>by cases ag),fun _ c r e=>by cases e⟩
  |cons c r aQ=>
   intro b ae
   rw [kE] at ae
   simp only [Bool.and_eq_true,Bool.or_eq_true,Bool.not_eq_true'] at ae
   have J:=aQ _ ae.2
   have ax:lR c=lU c:=rfl
   have aI:lS c=fo c:=rfl
   rw [ax,aI] at ae
   refine ⟨fun d aY=>?_,fun YI d q e=>?_⟩
   · rcases List.mem_cons.1 aY with rfl|aY
     · unfold iu;rcases ae.1 with h|h
       · rw [h];rfl
       · rw [h.2];simp
     · exact J.1 d aY
   · injection e with cR kB
     subst cR
     rcases ae.1 with h|h
     · exact h
     · rw [YI] at h;cases h.1
 obtain ⟨jW,jX⟩:=key s true I
 refine .inl ⟨rfl,by show s.length≤12;omega,jW,?_⟩
 cases s with
 |nil=>exact absurd rfl J
 |cons c r=>exact ⟨c,r,rfl,jX rfl c r rfl⟩
theorem p2 {s:ak} (h:b1 s=true):iy sQ s [(1,s)]:=(y6 (YH h)).mR fun r au=> .eu au (by intro e;cases e)
theorem nT {c:UInt8} (h:c∈oo) (J:c≠61):iy rC [c] [(4,[c])]:=
 (y6 (k:=4) (p:=0) (w:=[c]) (.inr (.inr (.inr ⟨rfl, .inr ⟨c,rfl,h⟩⟩)))).mR fun r _=>⟨(fun e=>by cases e),(fun e=>by cases e),fun e=>by injection e with _ e;injection e with e;exact absurd e J⟩
theorem YJ:iy rC [32,61,61,32] [(4,[61,61])]:=
 (uo (c:=32) (.inl rfl)).app (((y6 (k:=4) (p:=0) (w:=[61,61]) (.inr (.inr (.inr ⟨rfl, .inl rfl⟩)))).app (uo (c:=32) (.inl rfl)) fun r _=>⟨(fun e=>by cases e),(fun e=>by cases e),fun e=>by cases e⟩)) fun _ _=>trivial
theorem YK (s:ak):k5 s=sN s:=by
 have:ir=nS:=by
  funext c
  unfold ir nS
  have e:∀n:Nat,aa tV (n:Int)=um n:=fun n=>rfl
  rw [e,e]
  by_cases I:c.toNat=34∨c.toNat=92
  · rw [if_pos I,if_pos (by omega)]
  · rw [if_neg I,if_neg (by omega)]
    by_cases J:c.toNat<32∨126<c.toNat
    · rw [if_pos J,if_pos (by omega)]
    · rw [if_neg J,if_neg (by omega)]
 rw [k5,sN,this]
theorem YL {s:ak} (h:s.length≤40):iy rC (k5 s) [(3,s)]:=by
 rw [YK]
 exact (y6 (k:=3) (p:=0) (w:=s) (.inr (.inr (.inl ⟨rfl,h⟩)))).mR fun r _=>⟨(fun e=>by cases e),(fun e=>by cases e),fun e=>by cases e⟩
theorem MT:∀(u:Nat),u<10000000000→Good (2,0,Lib.decDigits u)∧∀c∈Lib.decDigits u,48≤c.toNat∧c.toNat≤57:=by
 have dg:∀d:Fin 10,(UInt8.ofNat (48+d.val)).toNat=48+d.val:=by decide+kernel
 have key:∀(k u:Nat),u<10^(k+1)→(Lib.decDigits u).length≤k+1∧(∀c∈Lib.decDigits u,48≤c.toNat∧c.toNat≤57)∧∃c r,Lib.decDigits u=c::r∧(c.toNat=48→u=0):=fun k=>by
  induction k with
  |zero=>
   intro u hu
   have hu:u<10:=by simpa using hu
   have:=dg ⟨u,hu⟩
   rw [Lib.decDigits_one hu]
   exact ⟨by simp,fun c ag=>by rw [List.mem_singleton.1 ag,this];simp only;omega,_,_,rfl,fun h=>by rw [this] at h;simp only at h;omega⟩
  |succ k aQ=>
   intro u hu
   by_cases dV:u<10
   · have:=dg ⟨u,dV⟩
     rw [Lib.decDigits_one dV]
     exact ⟨by simp,fun c ag=>by rw [List.mem_singleton.1 ag,this];simp only;omega,_,_,rfl,fun h=>by rw [this] at h;simp only at h;omega⟩
   · have aY:u/10<10^(k+1):=by rw [Nat.pow_succ] at hu;omega
     obtain ⟨i1,i2,c,r,i3,i4⟩:=aQ (u/10) aY
     have:=dg ⟨u%10,Nat.mod_lt _ (by decide)⟩
     rw [Lib.decDigits,dif_neg dV]
     refine ⟨by rw [List.length_append];simp;omega,fun c ag=>?_,c,r++[UInt8.ofNat (48+u%10)],by rw [i3];rfl,fun h=>by have:=i4 h;omega⟩
     rcases List.mem_append.1 ag with ag|ag
     · exact i2 c ag
     · rw [List.mem_singleton.1 ag,this];simp only;omega
 intro u hu
 obtain ⟨jW,jX,c,r,nq,YM⟩:=key 9 u (by simpa using hu)
 refine ⟨.inr (.inl ⟨rfl,jW,fun d aY=>yN.2 (by have:=jX d aY;omega),c,r,nq,fun h=>?_⟩),jX⟩
 have aA:=YM h
 subst aA
 rw [Lib.decDigits_one (by decide)] at nq
 injection nq with _ nq
 exact nq.symm
theorem MU {u:Nat} (hu:u<10000000000):iy sQ (Lib.decDigits u) [(2,Lib.decDigits u)]:=(y6 (MT u hu).1).mR fun r au=> .eu au (by intro e;cases e)
theorem YN {F:ak→Prop} {w:ak} {bC:List (Int×ak)} (h:iy F w bC) (cE:F []) (ar:w.length≤4000):(eE w).1.map rI=bC∧(eE w).2=(0,0):=by
 obtain ⟨n,l,ax,aI,cR,kB⟩:=h w [] 0 (w.length+1) [] (Int.le_refl _) (by simp) (by omega) cE (by omega)
 have au:eE w=gX (w.length+1) w 0 []:=by rw [eE,if_neg (by omega)]
 obtain ⟨n,rfl⟩:∃k,n=k+1:=⟨n- 1,by omega⟩
 have tM:=kB.trans (KD (by omega))
 rw [au,tM]
 exact ⟨by simpa using ax,rfl⟩
end Go.Proofs
end
section
namespace Go.Proofs
open Go Go.bh Go.bS
set_option maxRecDepth 100000
def iz (l:List Tok):Int→List (Int×ak)→Prop
 |_,[]=>True
 |a,t::r=>(0≤a∧a<l.length)∧rI (aa l a)=t∧iz l (a+1) r
section
variable {l:List Tok} {n a k:Int} {x s:ak} {t:Int×ak} {r:List (Int×ak)}
theorem iz.app:∀{x y:List (Int×ak)} {a:Int},iz l a (x++y)→iz l a x∧iz l (a+x.length) y
 |[],y,a,h=>⟨trivial,by simpa using h⟩
 |t::x,y,a,h=>by
  obtain ⟨I,J,ai⟩:=h
  obtain ⟨aC,aN⟩:=iz.app ai
  exact ⟨⟨I,J,aC⟩,by rw [List.length_cons,show a+((x.length+1:Nat):Int)=a+1+x.length by omega];exact aN⟩
theorem iz.len:∀{bC:List (Int×ak)} {a:Int},iz l a bC→bC≠[]→0≤a∧a+bC.length≤l.length
 |[],_,_,h=>absurd rfl h
 |t::[],a,⟨I,_,_⟩,_=>by simp;omega
 |t::u::r,a,⟨I,_,ai⟩,_=>by
  have:=iz.len ai (by simp)
  simp only [List.length_cons] at this ⊢;omega
theorem MV:∀(l p:List Tok),iz (p++l) p.length (l.map rI)
 |[],_=>trivial
 |t::l,p=>by
  refine ⟨⟨by omega,by simp;omega⟩,?_,?_⟩
  · congr 1
    simp [aa,List.getD_eq_getElem?_getD]
  · have:=MV l (p++[t])
    simpa using this
theorem YO {l:List Tok} {bC:List (Int×ak)} (h:l.map rI=bC):iz l 0 bC:=by
 have:=MV l []
 rw [h] at this
 simpa using this
theorem BS (h:iz l a (t::r)) (k:Int) (s:ak):cT l k s a=((t.1==k)&&((s==[])||(t.2==s))):=by
 obtain ⟨⟨aq,I⟩,J,_⟩:=h
 subst J
 simp [cT,rI,I]
theorem kj (h:iz l a ((k,x)::r)) (al:s=[]∨s=x):cT l k s a=true:=by
 rw [BS h];rcases al with rfl|rfl<;>simp
theorem mA (h:iz l a (t::r)) (aj:t.1≠k):¬cT l k s a=true:=by
 rw [BS h];simp [aj]
theorem hg (h:iz l a (t::r)) (al:s≠[]) (ah:t.2≠s):¬cT l k s a=true:=by
 rw [BS h];simp [al,ah]
theorem nb (h:iz l a ((k,x)::r)) (al:s=[]∨s=x):eL l n k s a= .ok x (a+1):=by
 rw [eL,if_pos (kj h al)]
 have:=congrArg Prod.snd h.2.1
 rw [show (aa l a).2.2=x from this]
theorem ia {α β:Type} [Inhabited β] (x:α) (a:Int) (g:α→Int→db β):(db.ok x a).bind g=g x a:=by
 rw [db.bind,if_pos (show (db.ok x a).f=0 from rfl)];rfl
end
def iA (k:Nat) (w:ak) (e:aD):Prop:=∃bC:List (Int×ak),iy sQ w bC∧(∃t r,bC=t::r∧t≠(4,[93]))∧∀(l:List Tok) (n a:Int),iz l a bC→cQ l n k a= .ok e (a+bC.length)
theorem oI {c:UInt8} (h:iu c=false) (q:ak):sQ (c::q):=fun d r e=>by injection e with e _;rw [←e];exact h
theorem Gg {c:UInt8} (h:c∈oo) (J:c≠61):iy rC [32,c,32] [(4,[c])]:=
 (uo (c:=32) (.inl rfl)).app ((nT h J).app (uo (c:=32) (.inl rfl)) fun _ _=>trivial) fun _ _=>trivial
theorem Gh {c:UInt8} (h:c∈oo) (J:c≠61):iy rC [c,32] [(4,[c])]:=
 (nT h J).app (uo (c:=32) (.inl rfl)) fun _ _=>trivial
theorem MW {α:Type} (g:α→ak) (l:List α) {c:UInt8} (h:iu c=false) (q:ak):sQ (dG g l false++[c]++q):=by
 cases l with
 |nil=>rw [dG];exact oI h _
 |cons x r=>rw [dG];exact oI (by decide) _
theorem MX {k:Nat} {g:aD→ak}:∀(es:List aD) (b:Bool),(∀x∈es,iA k (g x) x)→∃bC:List (Int×ak),iy rC (dG g es b++[93]) bC∧es.length<bC.length∧
 ∀(l:List Tok) (n a:Int) (dw:Nat) (xs:List aD),iz l a bC→es.length<dw→(xs=[]↔b=true)→lW (cQ l n k) l n dw a xs= .ok (.mk 8 cK [] [] (xs++es) []) (a+bC.length)
 |[],b,_=>by
  refine ⟨[(4,[93])],by rw [dG];exact nT (by decide) (by decide),by simp,fun l n a dw xs al aW _=>?_⟩
  obtain ⟨dw,rfl⟩:∃k,dw=k+1:=⟨dw- 1,by omega⟩
  rw [lW,if_pos (kj al (.inr rfl)),List.append_nil];rfl
 |x::r,b,h=>by
  obtain ⟨ec,xh,⟨t,q,rfl,ao⟩,Gi⟩:=h x (List.mem_cons_self ..)
  obtain ⟨rD,Gj,YP,dL⟩:=MX r false fun y aE=>h y (List.mem_cons_of_mem _ aE)
  have key:∀(l:List Tok) (n a:Int) (dw:Nat) (xs:List aD),iz l a ((t::q)++rD)→r.length<dw→(((cQ l n k) a).bind fun x a=>lW (cQ l n k) l n dw a (xs++[x]))= .ok (.mk 8 cK [] [] (xs++x::r) []) (a+((t::q)++rD).length):=fun l n a dw xs al aW=>by
   obtain ⟨s1,s2⟩:=al.app
   rw [Gi l n a s1,ia,dL l n _ dw (xs++[x]) s2 aW (by simp),List.append_assoc]
   congr 1
   rw [List.length_append];omega
  have y7:=xh.app Gj fun q _=>MW g r (by decide) q
  cases b with
  |true=>
   refine ⟨(t::q)++rD,by rw [dG];simpa using y7,by rw [List.length_append,List.length_cons,List.length_cons];omega,fun l n a dw xs al aW ah=>?_⟩
   obtain ⟨dw,rfl⟩:∃k,dw=k+1:=⟨dw- 1,by omega⟩
   have D9:¬cT l 4 [93] a=true:=by
    rw [BS al]
    intro ba
    simp at ba
    exact ao (Prod.ext ba.1 ba.2)
   rw [lW,if_neg D9,nH,if_pos (ah.2 rfl)]
   exact key l n a dw xs al (by simp at aW;omega)
  |false=>
   refine ⟨(4,[44])::((t::q)++rD),by rw [dG];simpa using (Gh (c:=44) (by decide) (by decide)).app y7 fun _ _=>trivial,by simp;omega,fun l n a dw xs al aW ah=>?_⟩
   obtain ⟨dw,rfl⟩:∃k,dw=k+1:=⟨dw- 1,by omega⟩
   rw [lW,if_neg (hg al (by decide) (by decide)),nH,if_neg (fun c=>by have:=ah.1 c;cases this),nb al (.inr rfl),ia,key l n (a+1) dw xs al.2.2 (by simp at aW;omega)]
   congr 1
   rw [List.length_cons];omega
theorem YQ {bV:List ak} {m:ak} {r:List ak} (h:sJ (bV++m::r)):b1 m=true∧¬tW bV m:=by
 have I:=h bV.length (by omega) (by simp;omega)
 have ax:aa (bV++m::r) (bV.length:Int)=m:=by simp [aa,List.getD_eq_getElem?_getD]
 rw [ax] at I
 refine ⟨I.1,fun ae=>?_⟩
 have J:=I.2 ae.1
 have aI:aa (bV++m::r) ((bV.length:Int)- 1)=aa bV ((bV.length:Int)- 1):=by
  have:=ae.1
  have aL:((bV.length:Int)- 1).toNat<bV.length:=by omega
  simp only [aa,List.getD_eq_getElem?_getD,List.getElem?_append_left aL]
 rw [aI,ae.2] at J
 cases J
theorem MY {k:Nat} {g:aD→ak}:∀(es:List (ak×aD)) (b:Bool),(∀p∈es,b1 p.1=true∧iA k (g p.2) p.2)→∃bC:List (Int×ak),iy rC (dG (fun p:ak×aD=>p.1++[58,32]++g p.2) es b++[125]) bC∧es.length<bC.length∧
 ∀(l:List Tok) (n a:Int) (dw:Nat) (bV:List ak) (xs:List aD),iz l a bC→es.length<dw→(xs=[]↔b=true)→sJ (bV++es.map Prod.fst)→kJ (cQ l n k) l n dw a bV xs= .ok (.mk 9 cK [] [] (xs++es.map Prod.snd) (bV++es.map Prod.fst)) (a+bC.length)
 |[],b,_=>by
  refine ⟨[(4,[125])],by rw [dG];exact nT (by decide) (by decide),by simp,fun l n a dw bV xs al aW _ _=>?_⟩
  obtain ⟨dw,rfl⟩:∃k,dw=k+1:=⟨dw- 1,by omega⟩
  rw [kJ,if_pos (kj al (.inr rfl))];simp
 |p::r,b,h=>by
  obtain ⟨aL,ec,xh,_,Gi⟩:=h p (List.mem_cons_self ..)
  obtain ⟨rD,Gj,YP,dL⟩:=MY r false fun y aE=>h y (List.mem_cons_of_mem _ aE)
  have key:∀(l:List Tok) (n a:Int) (dw:Nat) (bV:List ak) (xs:List aD),iz l a ((1,p.1)::(4,[58])::(ec++rD))→r.length<dw→sJ (bV++(p::r).map Prod.fst)→
   ((eL l n 1 [] a).bind fun m a=>if tW bV m then .bad 3 (fp l n a) else (eL l n 4 [58] a).bind fun _ a=>((cQ l n k) a).bind fun x a=>kJ (cQ l n k) l n dw a (bV++[m]) (xs++[x]))= .ok (.mk 9 cK [] [] (xs++(p::r).map Prod.snd) (bV++(p::r).map Prod.fst)) (a+((1,p.1)::(4,[58])::(ec++rD)).length):=fun l n a dw bV xs al aW cd=>by
   rw [List.map_cons] at cd
   obtain ⟨s1,s2⟩:=al.2.2.2.2.app
   rw [nb al (.inl rfl),ia,if_neg (YQ cd).2,nb al.2.2 (.inr rfl),ia,Gi l n _ s1,ia,dL l n _ dw (bV++[p.1]) (xs++[p.2]) s2 aW (by simp) (by simpa using cd)]
   simp only [List.append_assoc,List.map_cons,List.singleton_append,List.length_cons,List.length_append]
   congr 1;omega
  have y7:=(p2 aL).app ((Gh (c:=58) (by decide) (by decide)).app (xh.app Gj fun q _=>MW _ r (by decide) q) fun _ _=>trivial) fun q _=>oI (by decide) _
  cases b with
  |true=>
   refine ⟨(1,p.1)::(4,[58])::(ec++rD),by rw [dG];simpa using y7,by simp;omega,fun l n a dw bV xs al aW ah cd=>?_⟩
   obtain ⟨dw,rfl⟩:∃k,dw=k+1:=⟨dw- 1,by omega⟩
   rw [kJ,if_neg (mA al (by show (1:Int)≠4;decide)),nH,if_pos (ah.2 rfl)]
   exact key l n a dw bV xs al (by simp at aW;omega) cd
  |false=>
   refine ⟨(4,[44])::(1,p.1)::(4,[58])::(ec++rD),by rw [dG];simpa using (Gh (c:=44) (by decide) (by decide)).app y7 fun _ _=>trivial,by simp;omega,fun l n a dw bV xs al aW ah cd=>?_⟩
   obtain ⟨dw,rfl⟩:∃k,dw=k+1:=⟨dw- 1,by omega⟩
   rw [kJ,if_neg (hg al (by decide) (by decide)),nH,if_neg (fun c=>by have:=ah.1 c;cases this),nb al (.inr rfl),ia,key l n (a+1) dw bV xs al.2.2 (by simp at aW;omega) cd]
   congr 1
   simp only [List.length_cons];omega
end Go.Proofs
end
section
namespace Go.Proofs
open Go Go.bh Go.bS
set_option maxRecDepth 100000
theorem MZ:∀{l:List aD} {x:aD},x∈l→hL x≤kd l
 |y::r,x,h=>by
  rw [kd]
  rcases List.mem_cons.1 h with rfl|h
  · exact Int.le_max_left _ _
  · exact Int.le_trans (MZ h) (Int.le_max_right _ _)
theorem M0:∀(s:ak) (acc:Nat) (b:UInt8),Lib.decFrom acc (s++[b])=(Lib.decFrom acc s).bind fun m=>(Lib.digitVal b).map fun d=>m*10+d
 |[],acc,b=>by
  simp only [List.nil_append,Lib.decFrom]
  cases Lib.digitVal b<;>rfl
 |c::s,acc,b=>by
  simp only [List.cons_append,Lib.decFrom]
  cases Lib.digitVal c with
  |none=>rfl
  |some d=>exact M0 s _ b
theorem YR:∀(k u:Nat),u<10^(k+1)→Lib.decFrom 0 (Lib.decDigits u)=some u:=by
 have dg:∀d:Fin 10,Lib.digitVal (UInt8.ofNat (48+d.val))=some d.val:=by decide+kernel
 intro k
 induction k with
 |zero=>
  intro u hu
  have hu:u<10:=by simpa using hu
  rw [Lib.decDigits_one hu]
  have:=dg ⟨u,hu⟩
  simp only at this
  simp only [Lib.decFrom,this];simp
 |succ k aQ=>
  intro u hu
  by_cases dV:u<10
  · rw [Lib.decDigits_one dV]
    have:=dg ⟨u,dV⟩
    simp only at this
    simp only [Lib.decFrom,this];simp
  · have aY:u/10<10^(k+1):=by rw [Nat.pow_succ] at hu;omega
    have:=dg ⟨u%10,Nat.mod_lt _ (by decide)⟩
    simp only at this
    rw [Lib.decDigits,dif_neg dV,M0,aQ _ aY,Option.bind_some,this,Option.map_some]
    congr 1;omega
theorem YS {u:Nat} (hu:u<10000000000):hK (Lib.decDigits u)=u:=by
 have a8:=(MT u hu)
 rw [hK,K1 (Ko u) a8.2,YR 9 u (by simpa using hu)];rfl
theorem iy.cast {F:ak→Prop} {w w':ak} {t hE:List (Int×ak)} (h:iy F w t) (e:w=w') (aI:t=hE):iy F w' hE:=by subst e;subst aI;exact h
section
variable {l:List Tok} {n a:Int} {k:Nat} {x:ak} {r:List (Int×ak)}
theorem uq (h:iz l a ((1,x)::r)):cQ l n (k+1) a=j9 (cQ l n k) l n a:=by
 have aC:(1:Int)≠4:=by decide
 rw [cQ,if_neg (mA h aC),if_neg (mA h aC),if_neg (mA h aC),if_neg (mA h aC),if_neg (mA h (by show (1:Int)≠2;decide)),if_neg (mA h (by show (1:Int)≠3;decide))]
theorem M1 (eR:Int) {u:Nat} (hu:u≤1000000000) (al:¬(eR<0∧u=0)) (h:iz l a ((2,Lib.decDigits u)::r)):ou l n eR a= .ok (hJ (.mk 1 (eR*u) [] [] [])) (a+1):=by
 have aY:hK (aa l a).2.2=u:=by
  have:=congrArg Prod.snd h.2.1
  rw [show (aa l a).2.2=Lib.decDigits u from this,YS (by omega)]
 rw [ou,if_pos (kj h (.inl rfl)),aY,if_neg (by omega)]
end
theorem YT (k:Nat):iA (k+1) [110,117,108,108] (hJ cK):=
 ⟨[(1,[110,117,108,108])],p2 (by decide+kernel),⟨_,_,rfl,by decide⟩,fun l n a h=>by rw [uq h,j9,if_pos (kj h (.inr rfl))];rfl⟩
theorem rd_true (k:Nat):iA (k+1) [116,114,117,101] (hJ (.mk 3 1 [] [] [])):=
 ⟨[(1,[116,114,117,101])],p2 (by decide+kernel),⟨_,_,rfl,by decide⟩,fun l n a h=>by rw [uq h,j9,if_neg (hg h (by decide) (by decide)),if_pos (kj h (.inr rfl))];rfl⟩
theorem rd_false (k:Nat):iA (k+1) [102,97,108,115,101] (hJ (.mk 3 0 [] [] [])):=
 ⟨[(1,[102,97,108,115,101])],p2 (by decide+kernel),⟨_,_,rfl,by decide⟩,fun l n a h=>by rw [uq h,j9,if_neg (hg h (by decide) (by decide)),if_neg (hg h (by decide) (by decide)),if_pos (kj h (.inr rfl))];rfl⟩
theorem YU (k:Nat) {m:Int} (I:-1000000000≤m) (J:m≤1000000000):iA (k+1) (Lib.itoa m) (hJ (.mk 1 m [] [] [])):=by
 rw [Lib.itoa]
 split
 · rename_i hm
   refine ⟨[(4,[45]),(2,Lib.decDigits m.natAbs)],by
    have:=(nT (c:=45) (by decide) (by decide)).app (MU (u:=m.natAbs) (by omega)) fun _ _=>trivial
    simpa using this,⟨_,_,rfl,by decide⟩,fun l n a h=>?_⟩
   rw [cQ,if_neg (hg h (by decide) (by decide)),if_neg (hg h (by decide) (by decide)),if_neg (hg h (by decide) (by decide)),if_pos (kj h (.inr rfl)),M1 (-1) (by omega) (by omega) h.2.2]
   congr 1
   · congr 2;omega
   · simp;omega
 · rename_i hm
   refine ⟨[(2,Lib.decDigits m.toNat)],MU (by omega),⟨_,_,rfl,by intro e;cases e⟩,fun l n a h=>?_⟩
   have aC:(2:Int)≠4:=by decide
   rw [cQ,if_neg (mA h aC),if_neg (mA h aC),if_neg (mA h aC),if_neg (mA h aC),if_pos (kj h (.inl rfl)),M1 1 (by omega) (by omega) h]
   congr 1
   congr 2;omega
theorem YV (k:Nat) {s:ak} (h:s.length≤40):iA (k+1) (k5 s) (hJ (.mk 2 0 s [] [])):=by
 refine ⟨[(3,s)],(YL h).mR fun _ _=>trivial,⟨_,_,rfl,by intro e;cases e⟩,fun l n a h=>?_⟩
 have aC:(3:Int)≠4:=by decide
 rw [cQ,if_neg (mA h aC),if_neg (mA h aC),if_neg (mA h aC),if_neg (mA h aC),if_neg (mA h (by show (3:Int)≠2;decide)),if_pos (kj h (.inl rfl))]
 have:=congrArg Prod.snd h.2.1
 rw [show (aa l a).2.2=s from this];rfl
theorem YW (k:Nat) {v:aR} (aj:v.kind≤3) (ag:bF v=0):iA (k+1) (eJ v) (hJ v):=by
 have al:=(Bl (om ag).1).1
 have BT:((v.l.length:Int)+(v.f.length:Int)==0)=true→v.l=[]∧v.f=[]:=fun h=>by
  have:=eq_of_beq h
  exact ⟨List.length_eq_zero_iff.1 (by omega),List.length_eq_zero_iff.1 (by omega)⟩
 have YX:v.kind=0∨v.kind=1∨v.kind=2∨v.kind=3:=by
  have:=E7 al;omega
 have aI:∀fX:aR,v=fX→fX=v:=fun _ h=>h.symm
 rw [eJ,mV]
 rcases YX with aq|aq|aq|aq
 · rw [eD,if_pos aq] at al
   simp only [Bool.and_eq_true,beq_iff_eq] at al
   obtain ⟨⟨I,J⟩,ai⟩:=al
   obtain ⟨aC,aN⟩:=BT (by simpa using ai)
   rw [if_pos aq]
   have:v=cK:=by cases v;simp only [aR.kind,aR.n,aR.s,aR.l,aR.f] at aq I J aC aN;subst aq I J aC aN;rfl
   rw [this];exact YT k
 · rw [eD,if_neg (by omega),if_pos aq] at al
   simp only [Bool.and_eq_true,decide_eq_true_eq,beq_iff_eq] at al
   obtain ⟨⟨⟨I,J⟩,bE⟩,ai⟩:=al
   obtain ⟨aC,aN⟩:=BT (by simpa using ai)
   rw [if_neg (by omega),if_pos aq]
   have:v= .mk 1 v.n [] [] []:=by cases v;simp only [aR.kind,aR.n,aR.s,aR.l,aR.f] at aq bE aC aN;subst aq bE aC aN;rfl
   rw [this];exact YU k I J
 · rw [eD,if_neg (by omega),if_neg (by omega),if_pos aq] at al
   simp only [Bool.and_eq_true,decide_eq_true_eq,beq_iff_eq] at al
   obtain ⟨⟨I,J⟩,ai⟩:=al
   obtain ⟨aC,aN⟩:=BT (by simpa using ai)
   rw [if_neg (by omega),if_neg (by omega),if_pos aq]
   have:v= .mk 2 0 v.s [] []:=by cases v;simp only [aR.kind,aR.n,aR.s,aR.l,aR.f] at aq I aC aN;subst aq I aC aN;rfl
   have h:=YV k (s:=v.s) (by omega)
   rw [show hJ v=hJ (.mk 2 0 v.s [] []) from congrArg hJ this];exact h
 · rw [eD,if_neg (by omega),if_neg (by omega),if_neg (by omega),if_pos aq] at al
   simp only [Bool.and_eq_true,Bool.or_eq_true,beq_iff_eq] at al
   obtain ⟨⟨I,J⟩,ai⟩:=al
   obtain ⟨aC,aN⟩:=BT (by simpa using ai)
   rw [if_neg (by omega),if_neg (by omega),if_neg (by omega),if_pos aq]
   have:v= .mk 3 v.n [] [] []:=by cases v;simp only [aR.kind,aR.n,aR.s,aR.l,aR.f] at aq J aC aN;subst aq J aC aN;rfl
   rcases I with I|I<;>rw [this,I]
   · exact rd_false k
   · exact rd_true k
section
variable {k:Nat} {h7 cH dO:ak} {x y z:aD}
theorem M3 {c:ak} {cs:UInt8} (ag:cs=43∨cs=61) (aq:iA k h7 x) (I:iA k cH y) (hm:iy rC ([32]++c++[32]) [(4,c)]) (vL:(cs=43∧c=[43])∨(cs=61∧c=[61,61])):
 iA (k+1) ([40]++h7++([32]++c++[32])++cH++[41]) (.mk (if cs=43 then 5 else 6) cK [] [] [x,y] []):=by
 obtain ⟨t0,p3,_,pj⟩:=aq
 obtain ⟨t1,ie,_,s0⟩:=I
 refine ⟨(4,[40])::(t0++((4,c)::(t1++[(4,[41])]))),?_,⟨_,_,rfl,by decide⟩,fun l n a h=>?_⟩
 · have:=(nT (c:=40) (by decide) (by decide)).app (p3.app (hm.app (ie.app (nT (c:=41) (by decide) (by decide)) fun _ _=>oI (by decide) _) fun _ _=>trivial) fun _ _=>oI (by decide) _) fun _ _=>trivial
   refine (this.mR fun _ _=>trivial).cast ?_ rfl
   simp only [List.append_assoc]
 · obtain ⟨me,s1⟩:=h.2.2.app
   obtain ⟨s2,fk⟩:=s1.2.2.app
   rw [cQ,if_pos (kj h (.inr rfl)),pZ,pj l n _ me,ia]
   have hlen:a+1+t0.length+1+t1.length+1=a+(((4,[40])::(t0++((4,c)::(t1++[(4,[41])]))):List (Int×ak)).length:Int):=by simp only [List.length_cons,List.length_append,List.length_nil];omega
   rcases vL with ⟨rfl,rfl⟩|⟨rfl,rfl⟩
   · rw [if_pos (kj s1 (.inr rfl)),s0 l n _ s2,ia,nb fk (.inr rfl),ia,if_pos rfl,hlen]
   · rw [if_neg (hg s1 (by decide) (by decide)),if_pos (kj s1 (.inr rfl)),s0 l n _ s2,ia,nb fk (.inr rfl),ia,if_neg (by decide),hlen]
theorem YY (aq:iA k h7 x) (I:iA k cH y) (J:iA k dO z):iA (k+1) ([40]++h7++[32,63,32]++cH++[32,58,32]++dO++[41]) (.mk 7 cK [] [] [x,y,z] []):=by
 obtain ⟨t0,p3,_,pj⟩:=aq
 obtain ⟨t1,ie,_,s0⟩:=I
 obtain ⟨t2,iC,_,uA⟩:=J
 refine ⟨(4,[40])::(t0++((4,[63])::(t1++((4,[58])::(t2++[(4,[41])]))))),?_,⟨_,_,rfl,by decide⟩,fun l n a h=>?_⟩
 · have:=(nT (c:=40) (by decide) (by decide)).app (p3.app ((Gg (c:=63) (by decide) (by decide)).app (ie.app ((Gg (c:=58) (by decide) (by decide)).app (iC.app (nT (c:=41) (by decide) (by decide)) fun _ _=>oI (by decide) _) fun _ _=>trivial) fun _ _=>oI (by decide) _) fun _ _=>trivial) fun _ _=>oI (by decide) _) fun _ _=>trivial
   refine (this.mR fun _ _=>trivial).cast ?_ rfl
   simp only [List.append_assoc]
 · obtain ⟨me,s1⟩:=h.2.2.app
   obtain ⟨s2,fk⟩:=s1.2.2.app
   obtain ⟨rb,BC⟩:=fk.2.2.app
   rw [cQ,if_pos (kj h (.inr rfl)),pZ,pj l n _ me,ia,if_neg (hg s1 (by decide) (by decide)),if_neg (hg s1 (by decide) (by decide)),if_pos (kj s1 (.inr rfl)),s0 l n _ s2,ia,nb fk (.inr rfl),ia,uA l n _ rb,ia,nb BC (.inr rfl),ia]
   congr 1
   simp only [List.length_cons,List.length_append,List.length_nil];omega
theorem YZ {s:ak} (al:b1 s=true) (aq:iA k h7 x):iA (k+1) ([103,101,116,32]++h7++[32]++s) (.mk 10 cK s [] [x] []):=by
 obtain ⟨t0,p3,_,pj⟩:=aq
 refine ⟨(1,[103,101,116])::(t0++[(1,s)]),?_,⟨_,_,rfl,by decide⟩,fun l n a h=>?_⟩
 · have:=(p2 (s:=[103,101,116]) (by decide+kernel)).app ((uo (c:=32) (.inl rfl)).app (p3.app ((uo (c:=32) (.inl rfl)).app (p2 al) fun _ _=>trivial) fun _ _=>oI (by decide) _) fun _ _=>trivial) fun _ _=>oI (by decide) _
   refine this.cast ?_ rfl
   simp only [List.append_assoc];rfl
 · obtain ⟨me,s1⟩:=h.2.2.app
   rw [uq h,j9,if_neg (hg h (by decide) (by decide)),if_neg (hg h (by decide) (by decide)),if_neg (hg h (by decide) (by decide)),if_neg (hg h (by decide) (by decide)),if_neg (hg h (by decide) (by decide)),if_neg (hg h (by decide) (by decide)),if_pos (kj h (.inr rfl)),pj l n _ me,ia,nb s1 (.inl rfl),ia]
   congr 1
   simp only [List.length_cons,List.length_append,List.length_nil];omega
end
theorem Y0 (k:Nat) {s:ak} (al:b1 s=true):iA (k+1) ([105,110,46]++s) (.mk 2 cK s [] [] []):=by
 refine ⟨[(1,[105,110]),(4,[46]),(1,s)],?_,⟨_,_,rfl,by decide⟩,fun l n a h=>?_⟩
 · have:=(p2 (s:=[105,110]) (by decide+kernel)).app ((nT (c:=46) (by decide) (by decide)).app (p2 al) fun _ _=>trivial) fun _ _=>oI (by decide) _
   exact this.cast rfl rfl
 · rw [uq h,j9,if_neg (hg h (by decide) (by decide)),if_neg (hg h (by decide) (by decide)),if_neg (hg h (by decide) (by decide)),if_pos (kj h (.inr rfl)),nb h.2.2 (.inr rfl),ia,nb h.2.2.2.2 (.inl rfl),ia]
   congr 1
   simp only [List.length_cons,List.length_nil];omega
theorem M4 {kw:ak} (aj:b1 kw=true) {s t:ak} (al:b1 s=true) (ao:b1 t=true):∃bC:List (Int×ak),iy sQ (kw++[46]++s++[46]++t) ((1,kw)::bC)∧(bC.length:Int)=4∧∀(l:List Tok) (n a:Int),iz l a bC→rr l n a= .ok (s,t) (a+4):=by
 refine ⟨[(4,[46]),(1,s),(4,[46]),(1,t)],?_,rfl,fun l n a h=>?_⟩
 · have:=(p2 aj).app ((nT (c:=46) (by decide) (by decide)).app ((p2 al).app ((nT (c:=46) (by decide) (by decide)).app (p2 ao) fun _ _=>trivial) fun _ _=>oI (by decide) _) fun _ _=>trivial) fun _ _=>oI (by decide) _
   refine this.cast ?_ rfl
   simp only [List.append_assoc]
 · rw [rr,nb h (.inr rfl),ia,nb h.2.2 (.inl rfl),ia,nb h.2.2.2.2 (.inr rfl),ia,nb h.2.2.2.2.2.2 (.inl rfl),ia]
   congr 1;omega
theorem Y1 (k:Nat) {s t:ak} (al:b1 s=true) (ao:b1 t=true):iA (k+1) ([114,101,115,46]++s++[46]++t) (.mk 3 cK s t [] []):=by
 obtain ⟨bC,I,J,ai⟩:=M4 (kw:=[114,101,115]) (by decide+kernel) al ao
 refine ⟨_,I.cast (by simp only [List.append_assoc];rfl) rfl,⟨_,_,rfl,by intro e;cases e⟩,fun l n a h=>?_⟩
 rw [uq h,j9,if_neg (hg h (by decide) (by decide)),if_neg (hg h (by decide) (by decide)),if_neg (hg h (by decide) (by decide)),if_neg (hg h (by decide) (by decide)),if_pos (kj h (.inr rfl)),ai l n _ h.2.2,ia]
 congr 1
 rw [List.length_cons];omega
theorem Y2 (k:Nat) {s t:ak} (al:b1 s=true) (ao:b1 t=true):iA (k+1) ([115,116,97,99,107,46]++s++[46]++t) (.mk 4 cK s t [] []):=by
 obtain ⟨bC,I,J,ai⟩:=M4 (kw:=[115,116,97,99,107]) (by decide+kernel) al ao
 refine ⟨_,I.cast (by simp only [List.append_assoc];rfl) rfl,⟨_,_,rfl,by intro e;cases e⟩,fun l n a h=>?_⟩
 rw [uq h,j9,if_neg (hg h (by decide) (by decide)),if_neg (hg h (by decide) (by decide)),if_neg (hg h (by decide) (by decide)),if_neg (hg h (by decide) (by decide)),if_neg (hg h (by decide) (by decide)),if_pos (kj h (.inr rfl)),ai l n _ h.2.2,ia]
 congr 1
 rw [List.length_cons];omega
theorem Y3 {k:Nat} {g:aD→ak} {es:List aD} (h:∀x∈es,iA k (g x) x):iA (k+1) ([91]++dG g es true++[93]) (.mk 8 cK [] [] es []):=by
 obtain ⟨bC,p3,ar,pj⟩:=MX es true h
 refine ⟨(4,[91])::bC,?_,⟨_,_,rfl,by decide⟩,fun l n a h=>?_⟩
 · have:=(nT (c:=91) (by decide) (by decide)).app p3 fun _ _=>trivial
   exact (this.mR fun _ _=>trivial).cast (List.append_assoc ..).symm rfl
 · have aL:bC≠[]:=fun e=>by rw [e] at ar;simp at ar
   have:=h.2.2.len aL
   rw [cQ,if_neg (hg h (by decide) (by decide)),if_pos (kj h (.inr rfl)),pj l n _ (l.length+1) [] h.2.2 (by omega) (by simp)]
   congr 1
   rw [List.length_cons];omega
theorem Y4 {k:Nat} {g:aD→ak} {es:List (ak×aD)} (h:∀p∈es,b1 p.1=true∧iA k (g p.2) p.2) (cd:sJ (es.map Prod.fst)):iA (k+1) ([123]++dG (fun p:ak×aD=>p.1++[58,32]++g p.2) es true++[125]) (.mk 9 cK [] [] (es.map Prod.snd) (es.map Prod.fst)):=by
 obtain ⟨bC,p3,ar,pj⟩:=MY es true h
 refine ⟨(4,[123])::bC,?_,⟨_,_,rfl,by decide⟩,fun l n a h=>?_⟩
 · have:=(nT (c:=123) (by decide) (by decide)).app p3 fun _ _=>trivial
   exact (this.mR fun _ _=>trivial).cast (List.append_assoc ..).symm rfl
 · have aL:bC≠[]:=fun e=>by rw [e] at ar;simp at ar
   have:=h.2.2.len aL
   rw [cQ,if_neg (hg h (by decide) (by decide)),if_neg (hg h (by decide) (by decide)),if_pos (kj h (.inr rfl)),pj l n _ (l.length+1) [] [] h.2.2 (by omega) (by simp) cd]
   congr 1
   rw [List.length_cons];omega
theorem M5:∀(ji:Nat) (e:aD) (k:Nat),gM e<ji→lx e→hL e≤k→iA k (hA ji e) e
 |0,_,_,h,_,_=>absurd h (Nat.not_lt_zero _)
 |ji+1,e,k,aY,aW,ah=>by
  obtain ⟨aL,Y5⟩:=Bx aW
  have b5:=(yV e).2.2.1
  obtain ⟨k,rfl⟩:∃dU,k=dU+1:=⟨k- 1,by omega⟩
  have aQ:∀x∈e.a,iA k (hA ji x) x:=fun x xD=>M5 ji x k (by have:=sH xD;omega) (Y5 x xD) (by have:=MZ xD;rw [Lk] at ah;omega)
  unfold ke at aL
  rcases aL with ⟨aj,al,ao,⟨I,J⟩,aH,hm⟩|⟨bc,aL⟩
  · rw [qy,if_pos (by omega)]
    obtain ⟨cM,v,s,t,a,bV⟩:=e
    simp only [aD.kind,aD.v,aD.s,aD.t,aD.a,aD.n] at aj al ao I J aH hm aQ ⊢
    subst aj al ao aH hm
    exact YW k I J
  rcases aL with ⟨aj,I,ao,aH,hm⟩|⟨aj|aj,I,J,aH,hm⟩|⟨aj|aj,al,ao,I,hm⟩|⟨aj,al,ao,I,hm⟩|⟨aj,al,ao,hm⟩|⟨aj,al,ao,I,J⟩|⟨aj,I,ao,J,hm⟩
  · rw [qy,if_neg (by omega),if_pos (by omega)]
    obtain ⟨cM,v,s,t,a,bV⟩:=e
    simp only [aD.kind,aD.v,aD.s,aD.t,aD.a,aD.n] at aj bc I ao aH hm aQ ⊢
    subst aj bc ao aH hm
    exact Y0 k I
  · rw [qy,if_neg (by omega),if_neg (by omega),if_pos (by omega)]
    obtain ⟨cM,v,s,t,a,bV⟩:=e
    simp only [aD.kind,aD.v,aD.s,aD.t,aD.a,aD.n] at aj bc I J aH hm aQ ⊢
    subst aj bc aH hm
    exact Y1 k I J
  · rw [qy,if_neg (by omega),if_neg (by omega),if_neg (by omega),if_pos (by omega)]
    obtain ⟨cM,v,s,t,a,bV⟩:=e
    simp only [aD.kind,aD.v,aD.s,aD.t,aD.a,aD.n] at aj bc I J aH hm aQ ⊢
    subst aj bc aH hm
    exact Y2 k I J
  · rw [qy,if_neg (by omega),if_neg (by omega),if_neg (by omega),if_neg (by omega),if_pos (by omega)]
    obtain ⟨cM,v,s,t,a,bV⟩:=e
    simp only [aD.kind,aD.v,aD.s,aD.t,aD.a,aD.n] at aj bc al ao I hm aQ ⊢
    subst aj bc al ao hm
    match a,I with
    |[x,y],_=>
     rw [WA]
     exact M3 (cs:=43) (c:=[43]) (.inl rfl) (aQ x (by simp)) (aQ y (by simp)) (Gg (c:=43) (by decide) (by decide)) (.inl ⟨rfl,rfl⟩)
  · rw [qy,if_neg (by omega),if_neg (by omega),if_neg (by omega),if_neg (by omega),if_pos (by omega)]
    obtain ⟨cM,v,s,t,a,bV⟩:=e
    simp only [aD.kind,aD.v,aD.s,aD.t,aD.a,aD.n] at aj bc al ao I hm aQ ⊢
    subst aj bc al ao hm
    match a,I with
    |[x,y],_=>
     rw [WB]
     exact M3 (cs:=61) (c:=[61,61]) (.inr rfl) (aQ x (by simp)) (aQ y (by simp)) YJ (.inr ⟨rfl,rfl⟩)
  · rw [qy,if_neg (by omega),if_neg (by omega),if_neg (by omega),if_neg (by omega),if_neg (by omega),if_pos (by omega)]
    obtain ⟨cM,v,s,t,a,bV⟩:=e
    simp only [aD.kind,aD.v,aD.s,aD.t,aD.a,aD.n] at aj bc al ao I hm aQ ⊢
    subst aj bc al ao hm
    match a,I with
    |[x,y,z],_=>exact YY (aQ x (by simp)) (aQ y (by simp)) (aQ z (by simp))
  · rw [qy,if_neg (by omega),if_neg (by omega),if_neg (by omega),if_neg (by omega),if_neg (by omega),if_neg (by omega),if_pos (by omega)]
    obtain ⟨cM,v,s,t,a,bV⟩:=e
    simp only [aD.kind,aD.v,aD.s,aD.t,aD.a,aD.n] at aj bc al ao hm aQ ⊢
    subst aj bc al ao hm
    exact Y3 aQ
  · rw [qy,if_neg (by omega),if_neg (by omega),if_neg (by omega),if_neg (by omega),if_neg (by omega),if_neg (by omega),if_neg (by omega),if_pos (by omega)]
    obtain ⟨cM,v,s,t,a,bV⟩:=e
    simp only [aD.kind,aD.v,aD.s,aD.t,aD.a,aD.n] at aj bc al ao I J aQ ⊢
    subst aj bc al ao
    have ax:(bV.zip a).map Prod.fst=bV:=List.map_fst_zip (by omega)
    have aI:(bV.zip a).map Prod.snd=a:=List.map_snd_zip (by omega)
    have:=Y4 (k:=k) (g:=hA ji) (es:=bV.zip a) (fun p aB=>by
     obtain ⟨cX,cI⟩:=List.of_mem_zip aB
     refine ⟨?_,aQ _ cI⟩
     obtain ⟨i,ab,aO⟩:=List.getElem_of_mem cX
     have:=(J i (by omega) (by omega)).1
     rw [Fx (x:=bV[i]) (by omega) (by simp [ab]),aO] at this
     exact this) (by rw [ax];exact J)
    rw [ax,aI] at this
    exact this
  · rw [qy,if_neg (by omega),if_neg (by omega),if_neg (by omega),if_neg (by omega),if_neg (by omega),if_neg (by omega),if_neg (by omega),if_neg (by omega),if_pos (by omega)]
    obtain ⟨cM,v,s,t,a,bV⟩:=e
    simp only [aD.kind,aD.v,aD.s,aD.t,aD.a,aD.n] at aj bc I ao J hm aQ ⊢
    subst aj bc ao hm
    match a,J with
    |[x],_=>exact YZ I (aQ x (by simp))
def Y6 (w:ak) (e:aD):Prop:=∃bC:List (Int×ak),iy sQ w bC∧bC≠[]∧∀(l:List Tok) (n a:Int),iz l a bC→k9 l n a= .ok e (a+bC.length)
theorem Y7 {e:aD} (h:h9 e=0):Y6 (ry e) e:=by
 obtain ⟨I,_,J⟩:=Fv h
 obtain ⟨bC,p3,⟨t,r,rfl,_⟩,pj⟩:=M5 (gM e+1) e 6 (Nat.lt_succ_self _) I (by omega)
 refine ⟨_,p3,List.cons_ne_nil _ _,fun l n a al=>?_⟩
 rw [k9,pj l n a al,ia,if_pos h]
end Go.Proofs
end
section
namespace Go.Proofs
open Go Go.bh Go.bS
set_option maxRecDepth 100000
theorem Y8 {e:aD} (h:h9 e=0) (ar:(ry e).length≤4000):eA (ry e)=(e,0,0):=by
 obtain ⟨bC,I,J,ai⟩:=Y7 h
 obtain ⟨g1,g2⟩:=YN I (fun c q aO=>by cases aO) ar
 have al:iz (eE (ry e)).1 0 bC:=YO g1
 have hw:=ai _ ((ry e).length:Int) 0 al
 have hlen:(eE (ry e)).1.length=bC.length:=by rw [←g1,List.length_map]
 unfold eA
 rw [g2,if_pos rfl,hw]
 show (if (0:Int)=0 then (if (0:Int)+bC.length<(eE (ry e)).1.length then _ else (e,0,0)) else _)=_
 rw [if_pos rfl,if_neg (by omega)]
theorem M6 {v:aR} (h:bF v=0):ry (toE (bq v) v)=eJ v:=by
 have I:=y5 (bq v) _ v (Nat.le_refl _) (om h).1
 have J:=(yV (toE (bq v) v)).2.1
 rw [ry,eJ]
 exact F7 (bq v) v (Nat.le_refl _) _ _ (by omega) (Nat.le_refl _)
mutual
theorem M7:∀e:aD,gf e=gM e
 | .mk _ _ _ _ a _=>by simp only [gf,gM];have:=M8 a;omega
theorem M8:∀l:List aD,h6 l=lV l
 |[]=>by simp only [h6,lV];rfl
 |e::r=>by simp only [h6,lV];have:=M7 e;have:=M8 r;omega
end
theorem M9 {f g:aD→aR×Bool}:∀(l:List aD) (cV:List aR),(∀x∈l,f x=g x)→la f l cV=la g l cV
 |[],_,_=>by rw [la,la]
 |x::r,cV,h=>by rw [la,la,h x (List.mem_cons_self ..),M9 r _ fun y aE=>h y (List.mem_cons_of_mem _ aE)]
theorem Na {f g:aD→aR×Bool}:∀(l:List aD) (bV:List ak) (cV:List (ak×aR)),(∀x∈l,f x=g x)→ki f l bV cV=ki g l bV cV
 |[],_,_,_=>by rw [ki,ki]
 |_::_,[],_,_=>by rw [ki,ki]
 |x::r,m::bV,cV,h=>by rw [ki,ki,h x (List.mem_cons_self ..),Na r bV _ fun y aE=>h y (List.mem_cons_of_mem _ aE)]
theorem Nb:∀(k:Nat) (e:aD) (j:Nat),gM e<k→gM e<j→dm k e=dm j e
 |0,_,_,h,_=>absurd h (Nat.not_lt_zero _)
 |_+1,_,0,_,h=>absurd h (Nat.not_lt_zero _)
 |k+1,e,j+1,h,ay=>by
  have ag:∀x∈e.a,dm k x=dm j x:=fun x ah=>Nb k x j (by have:=sH ah;omega) (by have:=sH ah;omega)
  rw [dm,dm,M9 e.a [] ag,Na e.a e.n [] ag]
theorem Nc {v:aR} (h:bF v=0) (ar:(eJ v).length≤4000):eT (eJ v)=(v,0):=by
 have he:=Yz h
 have aB:=Y8 he (by rw [M6 h];exact ar)
 rw [M6 h] at aB
 have ah:=Fw he
 have I:=F5 (bq v) _ v (Nat.le_refl _) (om h).1
 have J:=y5 (bq v) _ v (Nat.le_refl _) (om h).1
 rw [M7] at J
 have ai:dm 61 (toE (bq v) v)=(v,true):=by rw [Nb 61 _ (bq v+1) (by omega) (by omega)];exact I
 rw [eT,aB,if_neg (by simp),ai,if_pos rfl,h]
end Go.Proofs
end
section
namespace Go.Proofs
open Go Go.bh Go.bS
set_option maxRecDepth 100000
theorem Nd:∀(k u:Nat),u<k→u<18446744073709551616→∀r:ak,Lib.parseUint10 0 (Lib.decDigits u++r)=Lib.parseUint10 u r
 |0,_,h,_,_=>absurd h (Nat.not_lt_zero _)
 |k+1,u,h,hu,r=>by
  have step:∀(acc d:Nat),d<10→acc*10+d<18446744073709551616→Lib.parseUint10 acc (UInt8.ofNat (48+d)::r)=Lib.parseUint10 (acc*10+d) r:=fun acc d aY aH=>by
   have e:(UInt8.ofNat (48+d)).toNat=48+d:=by rw [UInt8.toNat_ofNat'];omega
   rw [Lib.parseUint10,e,if_pos (by omega),if_neg (by omega),if_neg (by omega),show 48+d- 48=d by omega]
  rw [Lib.decDigits]
  split
  · rename_i dV
    rw [List.singleton_append,step 0 u dV (by omega),Nat.zero_mul,Nat.zero_add]
  · rename_i dV
    rw [List.append_assoc,List.singleton_append,Nd k (u/10) (by omega) (by omega),step (u/10) (u%10) (by omega) (by omega),show u/10*10+u%10=u by omega]
theorem Nf:∀(k u:Nat),u<k→∃c r,Lib.decDigits u=c::r∧48≤c.toNat∧c.toNat≤57
 |0,_,h=>absurd h (Nat.not_lt_zero _)
 |k+1,u,h=>by
  rw [Lib.decDigits]
  split
  · exact ⟨_,[],rfl,by rw [UInt8.toNat_ofNat'];omega,by rw [UInt8.toNat_ofNat'];omega⟩
  · obtain ⟨c,r,e,I,J⟩:=Nf k (u/10) (by omega)
    exact ⟨c,r++[_],by rw [e];rfl,I,J⟩
theorem BU {n:Int} (aq:0≤n) (I:n≤9223372036854775807):j5 (Lib.itoa n)=n∧lO (Lib.itoa n)=false:=by
 obtain ⟨u,rfl⟩:=Int.eq_ofNat_of_zero_le aq
 have ab:Lib.itoa (u:Int)=Lib.decDigits u:=by rw [Lib.itoa,if_neg (by omega)];rfl
 obtain ⟨c,r,e,J,ai⟩:=Nf (u+1) u (Nat.lt_succ_self _)
 have aB:=Nd (u+1) u (Nat.lt_succ_self _) (by omega) []
 rw [List.append_nil] at aB
 have aH:Lib.atoiAll (Lib.decDigits u)= .ok (u:Int):=by
  rw [e,Lib.atoiAll_plain c r (by omega) (by omega),←e,Lib.parseMag,if_neg (by rw [e];simp),aB]
  show Lib.signless (.ok u)=_
  rw [Lib.signless,if_neg (by omega)]
 rw [ab,j5,lO,aH]
 exact ⟨rfl,rfl⟩
end Go.Proofs
end
section
namespace Go.Proofs
open Go Go.bh Go.bS
set_option maxRecDepth 100000
theorem Ng:∀(s:ak) (b:Bool),kE s b=true→∀c∈s,48≤c.toNat
 |[],_,_,c,ag=>by cases ag
 |x::r,b,h,c,ag=>by
  rw [kE] at h
  simp only [Bool.and_eq_true,Bool.or_eq_true] at h
  rcases List.mem_cons.1 ag with rfl|ag
  · rcases h.1 with q|⟨_,q⟩
    · simp [lR] at q;omega
    · simp [lS] at q;omega
  · exact Ng r _ h.2 c ag
theorem ur {s:ak} (h:b1 s=true):∀c∈s,48≤c.toNat:=by
 simp only [b1,Bool.and_eq_true] at h
 exact Ng s true h.1.1
theorem y8 {n:Int} (aq:0≤n):∀c∈Lib.itoa n,48≤c.toNat∧c.toNat≤57:=by
 obtain ⟨u,rfl⟩:=Int.eq_ofNat_of_zero_le aq
 have ab:Lib.itoa (u:Int)=Lib.decDigits u:=by rw [Lib.itoa,if_neg (by omega)];rfl
 rw [ab]
 have g:∀(k u:Nat),u<k→∀c∈Lib.decDigits u,48≤c.toNat∧c.toNat≤57:=fun k=>by
  induction k with
  |zero=>intro u h;exact absurd h (Nat.not_lt_zero _)
  |succ k aQ=>
   intro u h c ag
   rw [Lib.decDigits] at ag
   split at ag
   · rw [List.mem_singleton.1 ag,UInt8.toNat_ofNat'];omega
   · rcases List.mem_append.1 ag with ag|ag
     · exact aQ (u/10) (by omega) c ag
     · rw [List.mem_singleton.1 ag,UInt8.toNat_ofNat'];omega
 exact g (u+1) u (Nat.lt_succ_self _)
theorem y9 {s:ak} (h:∀c∈s,48≤c.toNat):(32:UInt8)∉s:=fun hm=>by
 have:=h _ hm
 have e:(32:UInt8).toNat=32:=rfl
 omega
theorem Nh {h:gh} (e:fy h=0) (ae:h.id≤9223372036854775807) (ar:(eJ h.attrs).length≤4000):fi (fT h)=(h,true):=by
 have q:=y0 e
 have I:=y9 (ur q.k)
 have J:=y9 (ur q.n)
 have ai:=y9 fun c ag=>(y8 q.z c ag).1
 have al:cD 32 4 (fT h)=[h.kind,h.name,Lib.itoa h.id,eJ h.attrs]:=by
  have:=Yu (e:=eJ h.attrs) I J ai
  rw [←this,fT]
  simp only [List.append_assoc,List.cons_append,List.nil_append]
 have aH:=BU q.z ae
 have bc:=Nc q.c ar
 have g0:aa [h.kind,h.name,Lib.itoa h.id,eJ h.attrs] 0=h.kind:=rfl
 have g1:aa [h.kind,h.name,Lib.itoa h.id,eJ h.attrs] 1=h.name:=rfl
 have g2:aa [h.kind,h.name,Lib.itoa h.id,eJ h.attrs] 2=Lib.itoa h.id:=rfl
 have g3:aa [h.kind,h.name,Lib.itoa h.id,eJ h.attrs] 3=eJ h.attrs:=rfl
 rw [fi,al,if_pos (by rfl),g0,g1,g2,g3,aH.1,aH.2,bc]
 rfl
end Go.Proofs
end
section
namespace Go.Proofs
open Go Go.bh Go.bS
set_option maxRecDepth 100000
theorem Y9 (s:ak):(10:UInt8)∉k5 s:=by
 have g:∀n:Fin 256,(10:UInt8)∉ir (UInt8.ofNat n.val):=by decide+kernel
 have g2:∀c:UInt8,(10:UInt8)∉ir c:=fun c=>by
  have:=g ⟨c.toNat,UInt8.toNat_lt c⟩
  simpa using this
 rw [k5]
 intro h
 simp only [List.cons_append,List.mem_cons,List.mem_append,List.mem_flatMap,List.not_mem_nil,or_false] at h
 rcases h with h|⟨c,_,h⟩|h
 · cases h
 · exact g2 c h
 · cases h
theorem Gk {α:Type} {g:α→ak}:∀(l:List α) (b:Bool),(∀x∈l,(10:UInt8)∉g x)→(10:UInt8)∉dG g l b
 |[],_,_=>by rw [dG];simp
 |x::r,b,h=>by
  rw [dG]
  have I:=h x (List.mem_cons_self ..)
  have J:=Gk r false fun y aE=>h y (List.mem_cons_of_mem _ aE)
  have ai:(10:UInt8)∉(if b=true then ([]:ak) else [44,32]):=by split<;>simp
  simp only [List.mem_append,not_or]
  exact ⟨⟨ai,I⟩,J⟩
theorem wJ {s:ak} (h:∀c∈s,48≤c.toNat):(10:UInt8)∉s:=fun hm=>by
 have:=h _ hm
 have e:(10:UInt8).toNat=10:=rfl
 omega
theorem BV (n:Int):(10:UInt8)∉Lib.itoa n:=by
 rcases Int.lt_or_le n 0 with h|h
 · have e:Lib.itoa n=45::Lib.itoa (-n):=by
    rw [Lib.itoa,if_pos h,Lib.itoa,if_neg (by omega)]
    congr 1;congr 1;omega
   rw [e]
   intro hm
   rcases List.mem_cons.1 hm with hm|hm
   · cases hm
   · exact wJ (fun c ag=>(y8 (n:=-n) (by omega) c ag).1) hm
 · exact wJ fun c ag=>(y8 h c ag).1
theorem Gl:∀(k j:Nat) (v:aR),cL j v=true→(10:UInt8)∉cC k v
 |0,_,v,_=>by rw [cC];simp
 |k+1,0,v,h=>by cases h
 |k+1,j+1,v,al=>by
  rw [cL,Bool.and_eq_true,Bool.and_eq_true,List.all_eq_true,List.all_eq_true] at al
  obtain ⟨⟨I,J⟩,ai⟩:=al
  rw [cC]
  split
  · simp
  · split
    · exact BV _
    · split
      · exact Y9 _
      · split
        · unfold lT;split<;>simp
        · split
          · have:=Gk v.l true fun x ah=>Gl k j x (J x ah)
            simp only [List.mem_append,not_or]
            exact ⟨⟨by simp,this⟩,by simp⟩
          · split
            · rename_i c4 c5
              have aL:=MN (BN I c5).2
              have:=Gk (g:=fun p:ak×aR=>p.1++[58,32]++cC k p.2) v.f true fun p aB=>by
               have q:=Gl k j p.2 (ai p aB)
               obtain ⟨i,aq,ab,rfl⟩:=FQ aB
               have hm:=(aL i aq (by rw [List.length_map];exact ab)).1
               rw [Fz aq ab] at hm
               have dV:=wJ (ur hm)
               simp only [List.mem_append,not_or]
               exact ⟨⟨dV,by simp⟩,q⟩
              simp only [List.mem_append,not_or]
              exact ⟨⟨by simp,this⟩,by simp⟩
            · simp
theorem Ni {v:aR} (h:bF v=0):(10:UInt8)∉eJ v:=Gl _ _ v (om h).1
end Go.Proofs
end
section
namespace Go.Proofs
open Go Go.bh Go.bS
set_option maxRecDepth 100000
def sR (h:gh):ak:=[104,101,108,100,32]++fT h
def sS (x:jR):ak:=[105,110,116,101,110,116,32]++Lib.itoa x.op++[32]++x.tok++[32]++fT x.held
def sT (p:ak×aR):ak:=[111,117,116,32]++p.1++[32]++eJ p.2
def wK (n:Int):ak:=[115,101,114,105,97,108,32]++Lib.itoa n
def sU (s:dr):List ak:=wK s.cZ::(s.held.map sR++(s.ints.map sS++s.outs.map sT))
def pk:List ak→ak
 |[]=>[]
 |a::r=>a++10::pk r
theorem Gm:∀(a b:List ak),pk (a++b)=pk a++pk b
 |[],_=>rfl
 |x::a,b=>by rw [List.cons_append,pk,pk,Gm a b];simp
theorem Nj:∀(l:List ak),l≠[]→pk l=oH l++[10]
 |[],h=>absurd rfl h
 |[a],_=>by simp [pk,oH]
 |a::b::r,_=>by
  have e:oH (a::b::r)=a++10::oH (b::r):=rfl
  rw [pk,Nj (b::r) (by simp),e];simp
theorem BW {α:Type} {f g:α→ak} (h:∀x,f x=g x++[10]):∀(l:List α),gS f l=pk (l.map g)
 |[]=>by rw [gS];rfl
 |x::r=>by rw [gS,BW h r,List.map_cons,pk,h];simp
theorem Za (s:dr):hB s=oH (sU s)++[10]:=by
 rw [←Nj _ (by simp [sU]),sU,pk,Gm,Gm,←BW (f:=mz) (g:=sR) (fun x=>by simp [mz,sR]),←BW (f:=lz) (g:=sS) (fun x=>by simp [lz,sS]),←BW (f:=kL) (g:=sT) (fun x=>by simp [kL,sT])]
 simp [hB,wK]
theorem Zb (a:ak):Lib.trimSuffix (a++[10]) [10]=a:=by
 have h:Lib.hasSuffix (a++[10]) [10]=true:=by
  rw [Lib.hasSuffix,List.isSuffixOf_iff_suffix];exact List.suffix_append ..
 rw [Lib.trimSuffix,if_pos h];simp
theorem Nk {s:ak} (h:kh s=true):∀c∈s,46≤c.toNat:=by
 simp only [kh,Bool.and_eq_true,List.all_eq_true] at h
 intro c ag
 have:=h.1.1 c ag
 simp only [pe,Bool.or_eq_true,Bool.and_eq_true,decide_eq_true_eq,beq_iff_eq] at this
 omega
theorem Nl {s:ak} {k:UInt8} {n:Nat} (h:∀c∈s,n≤c.toNat) (aj:k.toNat<n):k∉s:=fun hm=>by have:=h _ hm;omega
theorem Nn {h:gh} (e:fy h=0):(10:UInt8)∉fT h:=by
 have q:=y0 e
 have I:=wJ (ur q.k)
 have J:=wJ (ur q.n)
 have ai:=BV h.id
 have aC:=Ni q.c
 simp only [fT,List.mem_append,not_or]
 exact ⟨⟨⟨⟨⟨⟨I,by simp⟩,J⟩,by simp⟩,ai⟩,by simp⟩,aC⟩
theorem Zc {s:dr} (q:BJ s):∀a∈sU s,(10:UInt8)∉a:=by
 intro a aH
 simp only [sU,List.mem_cons,List.mem_append,List.mem_map] at aH
 rcases aH with rfl|⟨x,ah,rfl⟩|⟨x,ah,rfl⟩|⟨x,ah,rfl⟩
 · simp only [wK,List.mem_append,not_or];exact ⟨by decide,BV _⟩
 · simp only [sR,List.mem_append,not_or];exact ⟨by decide,Nn (q.h x ah).1⟩
 · have g:=q.i x ah
   simp only [sS,List.mem_append,not_or];exact ⟨⟨⟨⟨⟨by decide,BV _⟩,by simp⟩,Nl (n:=46) (Nk g.2.2.2) (by decide)⟩,by simp⟩,Nn g.1⟩
 · have g:=q.o x ah
   simp only [sT,List.mem_append,not_or];exact ⟨⟨⟨by decide,wJ (ur g.1)⟩,by simp⟩,Ni g.2⟩
theorem BX {t hE:dr} {l:ak} {r:List ak} (h:gF t l=(hE,true)):hQ t (l::r)=hQ hE r:=by rw [hQ,h,if_pos rfl]
theorem Zd (t:dr) {n:Int} (aq:0≤n) (I:n≤9223372036854775807):gF t (wK n)=({t with cZ:=n},true):=by
 have e:wK n=[115,101,114,105,97,108]++32::Lib.itoa n:=by simp [wK]
 have ag:=y4 (c:=32) (a:=[115,101,114,105,97,108]) (b:=Lib.itoa n) (by decide)
 rw [e,gF,ag.1,ag.2,if_pos rfl,(BU aq I).1,(BU aq I).2];rfl
theorem Ze (t:dr) {h:gh} (e:fy h=0) (ae:h.id≤9223372036854775807) (ar:(eJ h.attrs).length≤4000):gF t (sR h)=({t with held:=t.held++[h]},true):=by
 have ax:sR h=[104,101,108,100]++32::fT h:=by simp [sR]
 have ag:=y4 (c:=32) (a:=[104,101,108,100]) (b:=fT h) (by decide)
 rw [ax,gF,ag.1,ag.2,if_neg (by decide),if_pos rfl,Nh e ae ar]
theorem Zf (t:dr) {x:jR} (g:fy x.held=0∧1≤x.op∧x.op≤3∧kh x.tok=true) (ae:x.held.id≤9223372036854775807) (ar:(eJ x.held.attrs).length≤4000):gF t (sS x)=({t with ints:=t.ints++[x]},true):=by
 have ax:sS x=[105,110,116,101,110,116]++32::(Lib.itoa x.op++32::(x.tok++32::fT x.held)):=by simp [sS]
 have ag:=y4 (c:=32) (a:=[105,110,116,101,110,116]) (b:=Lib.itoa x.op++32::(x.tok++32::fT x.held)) (by decide)
 have al:=Yv (a:=Lib.itoa x.op) (b:=x.tok) (e:=fT x.held) (y9 fun c ag=>(y8 (by omega) c ag).1) (Nl (n:=46) (Nk g.2.2.2) (by decide))
 have g0:aa [Lib.itoa x.op,x.tok,fT x.held] 0=Lib.itoa x.op:=rfl
 have g1:aa [Lib.itoa x.op,x.tok,fT x.held] 1=x.tok:=rfl
 have g2:aa [Lib.itoa x.op,x.tok,fT x.held] 2=fT x.held:=rfl
 have aH:=BU (n:=x.op) (by omega) (by omega)
 rw [ax,gF,ag.1,ag.2,if_neg (by decide),if_neg (by decide),if_pos rfl,al,if_pos (show ([Lib.itoa x.op,x.tok,fT x.held]:List ak).length=3 from rfl),g0,g1,g2,Nh g.1 ae ar,aH.1,aH.2];rfl
theorem Zg (t:dr) {p:ak×aR} (g:b1 p.1=true∧bF p.2=0) (ar:(eJ p.2).length≤4000):gF t (sT p)=({t with outs:=t.outs++[p]},true):=by
 have ax:sT p=[111,117,116]++32::(p.1++32::eJ p.2):=by simp [sT]
 have ag:=y4 (c:=32) (a:=[111,117,116]) (b:=p.1++32::eJ p.2) (by decide)
 have No:=y4 (c:=32) (a:=p.1) (b:=eJ p.2) (y9 (ur g.1))
 rw [ax,gF,ag.1,ag.2,if_neg (by decide),if_neg (by decide),if_neg (by decide),if_pos rfl,No.1,No.2,Nc g.2 ar];rfl
structure Np (s:dr):Prop where
 h:∀x∈s.held,x.id≤9223372036854775807∧(eJ x.attrs).length≤4000
 i:∀x∈s.ints,x.held.id≤9223372036854775807∧(eJ x.held.attrs).length≤4000
 o:∀p∈s.outs,(eJ p.2).length≤4000
theorem Nq:∀(l:List gh) (t:dr) (r:List ak),(∀x∈l,fy x=0∧x.id≤9223372036854775807∧(eJ x.attrs).length≤4000)→hQ t (l.map sR++r)=hQ {t with held:=t.held++l} r
 |[],t,r,_=>by simp
 |x::l,t,r,h=>by
  have q:=h x (List.mem_cons_self ..)
  rw [List.map_cons,List.cons_append,BX (Ze t q.1 q.2.1 q.2.2),Nq l _ r fun y aE=>h y (List.mem_cons_of_mem _ aE)];simp
theorem Nr:∀(l:List jR) (t:dr) (r:List ak),(∀x∈l,(fy x.held=0∧1≤x.op∧x.op≤3∧kh x.tok=true)∧x.held.id≤9223372036854775807∧(eJ x.held.attrs).length≤4000)→hQ t (l.map sS++r)=hQ {t with ints:=t.ints++l} r
 |[],t,r,_=>by simp
 |x::l,t,r,h=>by
  have q:=h x (List.mem_cons_self ..)
  rw [List.map_cons,List.cons_append,BX (Zf t q.1 q.2.1 q.2.2),Nr l _ r fun y aE=>h y (List.mem_cons_of_mem _ aE)];simp
theorem Ns:∀(l:List (ak×aR)) (t:dr),(∀p∈l,(b1 p.1=true∧bF p.2=0)∧(eJ p.2).length≤4000)→hQ t (l.map sT)=({t with outs:=t.outs++l},true)
 |[],t,_=>by simp [hQ]
 |x::l,t,h=>by
  have q:=h x (List.mem_cons_self ..)
  rw [List.map_cons,BX (Zg t q.1 q.2),Ns l _ fun y aE=>h y (List.mem_cons_of_mem _ aE)];simp
theorem Zh {s:dr} (q:BJ s) (b:Np s):hQ gp (sU s)=(s,true):=by
 rw [sU,BX (Zd gp q.s1 (by have:=q.s2;omega)),Nq _ _ _ (fun x ah=>⟨(q.h x ah).1,b.h x ah⟩),Nr _ _ _ (fun x ah=>⟨q.i x ah,b.i x ah⟩),Ns _ _ (fun x ah=>⟨q.o x ah,b.o x ah⟩)]
 rfl
theorem Zi (a b p:ak):Lib.occAt (a++(p++b)) p a.length=true:=by
 rw [Lib.occAt,List.drop_left,List.isPrefixOf_iff_prefix];exact List.prefix_append ..
theorem Zj {s p:ak} {j:Nat} {c:UInt8} (h:Lib.occAt s (c::p) j=true):s[j]?=some c:=by
 rw [Lib.occAt,List.isPrefixOf_iff_prefix] at h
 obtain ⟨t,ao⟩:=h
 have:(s.drop j)[0]?=some c:=by rw [←ao];rfl
 simpa using this
theorem Zk (a:ak) {d:ak} (aY:∀c∈d,c.toNat≤57):Lib.lastIndex (a++([115,117,109,32]++d)) [115,117,109,32]=a.length:=by
 have ar:(a++([115,117,109,32]++d)).length=a.length+4+d.length:=by simp;omega
 have aC:([115,117,109,32]:ak).length=4:=rfl
 rw [Lib.lastIndex,if_pos (by rw [ar,aC];omega),ar,aC]
 have av:=Zi a d [115,117,109,32]
 rcases Lib.lastOcc_spec (a++([115,117,109,32]++d)) [115,117,109,32] (a.length+4+d.length- 4+1) with ⟨_,h⟩|⟨i,ab,e,I,J⟩
 · rw [h a.length (by omega)] at av;cases av
 · rw [e]
   rcases Nat.lt_trichotomy i a.length with q|q|q
   · rw [J a.length q (by omega)] at av;cases av
   · rw [q]
   · exfalso
     have ai:=Zj I
     have aN:([115,117,109,32]++d)[i- a.length]?=some (115:UInt8):=by rw [List.getElem?_append_right (by omega)] at ai;exact ai
     obtain ⟨k,aj⟩:∃k,i- a.length=k+1:=⟨i- a.length- 1,by omega⟩
     rw [aj] at aN
     match k,aN with
     |0,aN=>cases aN
     |1,aN=>cases aN
     |2,aN=>cases aN
     |k+3,aN=>
      have bE:d[k]?=some (115:UInt8):=aN
      have:=aY _ (List.mem_of_getElem? bE)
      exact absurd this (by decide)
theorem BY {α:Type} {f:α→ak} {x:α}:∀{l:List α},x∈l→(f x).length≤(gS f l).length
 |[],h=>by cases h
 |y::r,h=>by
  rw [gS,List.length_append]
  rcases List.mem_cons.1 h with rfl|h
  · omega
  · have:=BY (f:=f) h;omega
theorem Zl {s:dr} (ar:(dy s).length≤4000) (ae:∀x∈s.held,x.id≤9223372036854775807) (jK:∀x∈s.ints,x.held.id≤9223372036854775807):Np s:=by
 have I:(gS mz s.held).length≤4000∧(gS lz s.ints).length≤4000∧(gS kL s.outs).length≤4000:=by
  simp only [dy,hB,List.length_append] at ar;omega
 refine ⟨fun x ah=>⟨ae x ah,?_⟩,fun x ah=>⟨jK x ah,?_⟩,fun x ah=>?_⟩
 · have:=BY (f:=mz) ah;simp only [mz,fT,List.length_append] at this;omega
 · have:=BY (f:=lz) ah;simp only [lz,fT,List.length_append] at this;omega
 · have:=BY (f:=kL) ah;simp only [kL,List.length_append] at this;omega
theorem Zm {s:dr} (aq:cp s=0) (ar:(dy s).length≤4000) (ae:∀x∈s.held,x.id≤9223372036854775807) (jK:∀x∈s.ints,x.held.id≤9223372036854775807) (al:0≤jt (hB s)):kM (dy s)=(s,0):=by
 have q:=FR aq
 have ax:dy s=hB s++([115,117,109,32]++(Lib.itoa (jt (hB s))++[10])):=by simp [dy]
 have ab:Lib.lastIndex (dy s) [115,117,109,32]=(hB s).length:=by
  rw [ax]
  refine Zk _ fun c ag=>?_
  rcases List.mem_append.1 ag with ag|ag
  · exact (y8 al c ag).2
  · rw [List.mem_singleton.1 ag];decide
 have aI:(dy s).take (hB s).length=hB s:=by rw [ax,List.take_left]
 have cR:(dy s).drop (hB s).length=[115,117,109,32]++Lib.itoa (jt (hB s))++[10]:=by rw [ax,List.drop_left];simp
 have kB:hQ gp (mZ 10 (Lib.trimSuffix (hB s) [10]))=(s,true):=by
  rw [Za,Zb,Yw (by simp [sU]) (Zc q)]
  exact Zh q (Zl ar ae jK)
 rw [kM,if_neg (by omega),ab,if_neg (by omega),Int.toNat_natCast,aI,cR,if_pos rfl,kB,if_pos rfl,if_pos ⟨aq,rfl⟩]
end Go.Proofs
end
section
namespace Go.Proofs
open Go Go.bh Go.bS
set_option maxRecDepth 100000
abbrev d0:cz:=⟨[],[],[],-1,false,0⟩
structure nc (s:cz) (M:List (ak×ak)):Prop where
 d:s.down=false
 f:s.cu=-1
 n:s.now=M
theorem nc.step {s:cz} {M} (h:nc s M):(a7 s).2=0∧(a7 s).1.down=false∧(a7 s).1.cu=-1:=by
 unfold a7
 rw [if_neg (by rw [h.d];simp),if_neg (by rw [h.f];decide)]
 refine ⟨rfl,h.d,?_⟩
 show (if 0<s.cu then s.cu- 1 else s.cu)=-1
 rw [h.f];rfl
theorem nc.do {s:cz} {M Nt:List (ak×ak)} (h:nc s M) {c:e3} (aH:eN s.now c=Nt):(gg s c).2=0∧nc (gg s c).1 Nt:=by
 have I:=h.step
 unfold gg
 rw [if_neg (by rw [I.1];simp)]
 exact ⟨rfl,I.2.1,I.2.2,aH⟩
theorem nc.sync {s:cz} {M} (h:nc s M):(ej s).2=0∧nc (ej s).1 M:=by
 have I:=h.step
 have k:=pd s
 unfold ej
 rw [if_neg (by rw [I.1];simp)]
 exact ⟨rfl,I.2.1,I.2.2,by show (a7 s).1.now=_;rw [k.2.1];exact h.n⟩
theorem nc.write {s:cz} {M} (h:nc s M) {n x:ak} (aL:ix n=true) (ah:x.length≤4000) (au:M.length<40):(eG s n x).2=0∧nc (eG s n x).1 (dJ M n x):=by
 have hm:gN s n x.length=0:=by
  unfold gN
  rw [if_neg (by rw [aL];simp),if_neg (by omega),if_neg]
  rw [h.n];rintro ⟨_,J⟩;omega
 unfold eG
 rw [if_neg (by rw [hm];simp)]
 exact h.do (by rw [eN,if_pos (.inl rfl),h.n])
theorem nc.move {s:cz} {M} (h:nc s M) {n t:ak} (aL:ix n=true) (ao:ix t=true) (au:(cn M n).isSome=true) (eB:n≠t):(dP s n t).2=0∧nc (dP s n t).1 (fO (dJ M t ((cn M n).getD [])) n):=by
 unfold dP
 rw [if_neg (by rw [aL,ao];simp),if_neg (by rw [h.n,au];simp),if_neg eB]
 exact h.do (by rw [eN,if_neg (by simp),if_neg (by simp),if_pos rfl,h.n])
theorem Nu:∀(s:ak) (b:Bool),kE s b=true→s.all oF=true
 |[],_,_=>rfl
 |c::r,b,h=>by
  rw [kE,Bool.and_eq_true] at h
  rw [List.all_cons,Nu r _ h.2,Bool.and_true]
  have I:=h.1
  simp only [lR,lS,Bool.or_eq_true,Bool.and_eq_true,decide_eq_true_eq] at I
  simp only [oF,Bool.or_eq_true,Bool.and_eq_true,decide_eq_true_eq]
  omega
theorem Zn {n:ak} (h:b1 n=true):ix (dH n)=true:=by
 have ar:=pb h
 simp only [b1,Bool.and_eq_true,decide_eq_true_eq] at h
 have I:=Nu n true h.1.1
 simp only [ix,dH,List.all_append,I,Bool.and_true,Bool.and_eq_true,decide_eq_true_eq]
 refine ⟨⟨by decide,by simp⟩,?_⟩
 have e:(dH n).length=n.length+6:=Mw n
 have aI:((dH n).length:Int)≤24:=by omega
 exact decide_eq_true aI
theorem Nv (n:ak):([110,101,119]:ak)≠dH n:=by
 intro e
 have:([110,101,119]:ak).head?=(dH n).head?:=by rw [←e]
 simp [dH] at this
theorem za (k:ak):gE d0 k=([],7):=rfl
theorem zb:hn 0 d0:=⟨by decide,by decide,by decide,by decide,by decide,fun p aB=>(by cases aB),fun p aB=>(by cases aB),by decide,fun p aB=>(by cases aB)⟩
theorem Zo {s:cz} {n:ak} {a:dr} (h:b1 n=false):kO s n a=(s,3):=by rw [kO,if_pos h]
theorem Zp {s:cz} {n:ak} (h:b1 n=false):pg s n=(gp,3):=by rw [pg,if_pos h]
theorem Gn {n:ak} (h:b1 n=true):pg d0 n=(gp,0):=by rw [pg,if_neg (by simp [h]),za,if_pos rfl]
theorem Zq {s:cz} {n:ak} {a:dr} (h:b1 n=true) (aq:cp a≠0):kO s n a=(s,cp a):=by rw [kO,if_neg (by simp [h]),if_pos aq]
theorem Zr {s:cz} {n:ak} {a:dr} (h:b1 n=true) (aq:cp a=0) (ar:4000<((dy a).length:Int)):kO s n a=(s,2):=by rw [kO,if_neg (by simp [h]),if_neg (fun q=>q aq),if_pos ar]
theorem Nw {n:ak} {a:dr} (h:b1 n=true) (aq:cp a=0) (ar:(dy a).length≤4000):∃z,kO d0 n a=(z,0)∧gE z (dH n)=(dy a,0):=by
 have Zs:nc d0 []:=⟨rfl,rfl,rfl⟩
 have jD:=Zs.write (n:=([110,101,119]:ak)) (x:=dy a) (by decide) ar (by decide)
 have jE:=jD.2.sync
 have mm:=jE.2.move (n:=([110,101,119]:ak)) (t:=dH n) (by decide) (Zn h) rfl (Nv n)
 have mP:=mm.2.sync
 have e:kO d0 n a=kN n (dy a) 4 0 d0:=by rw [kO,if_neg (by simp [h]),if_neg (fun q=>q aq),if_neg (by omega)]
 have eB:=Nv n
 have em:fO (dJ (dJ [] ([110,101,119]:ak) (dy a)) (dH n) ((cn (dJ [] ([110,101,119]:ak) (dy a)) ([110,101,119]:ak)).getD [])) ([110,101,119]:ak)=[(dH n,dy a)]:=by
  have g1:dJ ([]:List (ak×ak)) ([110,101,119]:ak) (dy a)=[(([110,101,119]:ak),dy a)]:=rfl
  rw [g1]
  have g2:(cn [(([110,101,119]:ak),dy a)] ([110,101,119]:ak)).getD []=dy a:=by simp [cn]
  rw [g2]
  have g3:dJ [(([110,101,119]:ak),dy a)] (dH n) (dy a)=[(([110,101,119]:ak),dy a),(dH n,dy a)]:=by simp [dJ,eB]
  rw [g3]
  simp [fO]
 refine ⟨(ej (dP (ej (eG d0 ([110,101,119]:ak) (dy a)).1).1 ([110,101,119]:ak) (dH n)).1).1,?_,?_⟩
 · rw [e]
   have me:kN n (dy a) 4 0 d0=kN n (dy a) 3 1 (eG d0 ([110,101,119]:ak) (dy a)).1:=by rw [kN,Ye,if_neg (by rw [jD.1];simp)];rfl
   have s1:kN n (dy a) 3 1 (eG d0 ([110,101,119]:ak) (dy a)).1=kN n (dy a) 2 2 (ej (eG d0 ([110,101,119]:ak) (dy a)).1).1:=by rw [kN,Yf,if_neg (by rw [jE.1];simp)];rfl
   have s2:kN n (dy a) 2 2 (ej (eG d0 ([110,101,119]:ak) (dy a)).1).1=kN n (dy a) 1 3 (dP (ej (eG d0 ([110,101,119]:ak) (dy a)).1).1 ([110,101,119]:ak) (dH n)).1:=by rw [kN,Yg,if_neg (by rw [mm.1];simp)];rfl
   have fk:kN n (dy a) 1 3 (dP (ej (eG d0 ([110,101,119]:ak) (dy a)).1).1 ([110,101,119]:ak) (dH n)).1=((ej (dP (ej (eG d0 ([110,101,119]:ak) (dy a)).1).1 ([110,101,119]:ak) (dH n)).1).1,0):=by rw [kN,Yh,if_neg (by rw [mP.1];simp)];rfl
   rw [me,s1,s2,fk]
 · rw [gE,if_neg (by rw [mP.2.d];simp),mP.2.n,em]
   simp [cn]
theorem Nx {z:cz} {n x:ak} (h:b1 n=true) (au:gE z (dH n)=(x,0)):pg z n=kM x:=by
 rw [pg,if_neg (by simp [h]),au,if_neg (by show ¬(0:Int)=7;decide),if_neg (by simp)]
theorem Ny (l:List gh):∀(n:Nat) (i:Int),0≤nQ l n i
 |0,_=>Int.le_refl _
 |n+1,i=>by
  rw [nQ]
  split
  · exact wy _
  · split
    · decide
    · exact Ny l n _
theorem Nz:∀l:List jR,0≤pf l
 |[]=>Int.le_refl _
 |x::r=>by
  rw [pf]
  split
  · exact Nz r
  · rw [kK]
    split
    · exact wy _
    · split<;>decide
theorem NA (l:List (ak×aR)):∀(n:Nat) (i:Int),0≤nR l n i
 |0,_=>Int.le_refl _
 |n+1,i=>by
  rw [nR]
  split
  · decide
  · split
    · exact FO _
    · exact NA l n _
theorem qB (s:dr):0≤cp s:=by
 rw [cp]
 split
 · decide
 · split
   · decide
   · rw [rA]
     split
     · exact Ny _ _ _
     · rw [qA]
       split
       · exact Nz _
       · exact NA _ _ _
end Go.Proofs
end
section
namespace Go.Proofs
open Go Go.bh Go.bS
set_option maxRecDepth 100000
theorem zc {bs:List Nat} {n:Nat} (d aG aT:Nat) (h:bs.length=n):Go.bS.er (bs++[aT]++[aG]++[d]) (.cells [.mp n, .mp (n+1), .own ([].map di),aw (-1),e6 false,aw 0])=bN aT aG d0:=by
 have a8:=JO (x:=aT) (y:=aG) (z:=d) h
 simp only [Go.bS.er,Go.bS.bo,Go.bS.den,a8.1,a8.2.1]
 rfl
theorem Zt (n:ak) (s:dr):b1 n=false∨(b1 n=true∧cp s≠0)∨(b1 n=true∧cp s=0∧4000<((dy s).length:Int))∨(b1 n=true∧cp s=0∧(dy s).length≤4000∧∃z,kO d0 n s=(z,0)∧gE z (dH n)=(dy s,0)):=by
 cases aL:b1 n with
 |false=>exact .inl rfl
 |true=>
  refine .inr ?_
  by_cases aq:cp s=0
  · by_cases ar:4000<((dy s).length:Int)
    · exact .inr (.inl ⟨rfl,aq,ar⟩)
    · exact .inr (.inr ⟨rfl,aq,by omega,Nw aL aq (by omega)⟩)
  · exact .inl ⟨rfl,aq⟩
theorem rE (e f:Int) (he:0≤e) (h:e=f) (m:ad) (K:R→ad→Prop) (U:K (.bool true) m):bn Tryz.prog 13 [.err 115 e, .int .i64 f] m K:=by
 subst h;exact UL e e he m K (by rw [beq_self_eq_true];exact U)
theorem Gp (n:ak) (h:b1 n=true) (m:ad) (K:R→ad→Prop) (U:K (.bool true) m):bn Tryz.prog 41 [.str n] m K:=vS n m K (by rw [h];exact U)
theorem Zu (n:ak) (h:b1 n=false) (m:ad) (K:R→ad→Prop) (U:K (.bool false) m):bn Tryz.prog 41 [.str n] m K:=vS n m K (by rw [h];exact U)
theorem zd (a b:dr) (h:a=b) (m:ad) (K:R→ad→Prop) (U:K (.bool true) m):bn Tryz.prog 44 [gR a,gR b] m K:=Yq a b m K (by rw [Yl h];exact U)
def fk:dr:=⟨3,[],[],[]⟩
theorem NB:(dy fk).length≤4000:=by
 have I:=y1 (n:=3) (by decide) (by decide)
 have J:=y1 (na (hB fk)).1 (na (hB fk)).2
 have ai:(hB fk).length≤28:=by
  simp only [hB,fk,gS,List.length_append,List.length_cons,List.length_nil];omega
 simp only [dy,List.length_append,List.length_cons,List.length_nil];omega
theorem NC:cp fk=0:=by decide+kernel
theorem Zv:p1 fk:=⟨fun x ah=>(by cases ah),fun x ah=>(by cases ah),fun x ah=>(by cases ah)⟩
theorem Zw:∃z,kO d0 [97] fk=(z,0)∧gE z (dH [97])=(dy fk,0):=Nw (by decide+kernel) NC NB
theorem Gq {s:dr} (aq:cp s=0) (ar:(dy s).length≤4000) (b4:p1 s):kM (dy s)=(s,0):=
 Zm aq ar (fun x ah=>(b4.h x ah).2.2) (fun x ah=>(b4.i x ah).1.2.2) (na _).1
set_option maxHeartbeats 2000000 in
theorem Zx (m:ad) (K:R→ad→Prop) (c1:iH m) (U:K (.bool true) m):bn Tryz.prog 34 [] m K:=by
 have aL:b1 [97]=true:=by decide+kernel
 have aq:=NC
 have ar:=NB
 have b4:=Zv
 obtain ⟨z,pG,rU⟩:=Zw
 refine enter (c:=cP [] [] [6] [] [] []) (vs:=[]) (L:=[]) (m:=m) false cc Tryz.mixed Tryz.func34 rfl (k:=0) (by show cJ [] _ _ _=true;decide+kernel) rfl (Good.nil m) ?_
 refine yz (.obj (aS d0.kept)) (.obj (aS d0.now)) (.cells [.mp 0, .mp 1, .own (d0.wait.map di),aw d0.cu,e6 d0.down,aw d0.steps]) (fun d aG aT=>bN aT aG d0) (aS []) (aS []) rfl (fun _=>rfl) (fun _=>rfl) (fun bs d aG aT ar=>zc d aG aT ar) (fun bs az ar ao K U=>yY az K U) ?_
 refine aZ ?_
 refine fQ [2,1,0] [.cells [.mp 0, .mp 1, .own (z.wait.map di),aw z.cu,e6 z.down,aw z.steps], .obj (aS z.now), .obj (aS z.kept)] (.aK (.err 115 0)) rfl (fun bs az gd ao=>fun K U=>y3 (bs.getD 2 0) (bs.getD 1 0) (bs.getD 0 0) d0 ([97]:List UInt8) fk 0 b4 zb (by decide) az gd K (cY.up ao c1.1) (by rw [pG];exact U)) ?_
 refine fQ [2,1,0] [.cells [.mp 0, .mp 1, .own (z.wait.map di),aw z.cu,e6 z.down,aw z.steps], .obj (aS z.now), .obj (aS z.kept)] (.aK (.tuple [gR fk, .err 115 0])) rfl (fun bs az gd ao=>fun K U=>wF (bs.getD 2 0) (bs.getD 1 0) (bs.getD 0 0) z ([97]:List UInt8) (by rw [rU];show (dy fk).length≤_;have:=ar;omega) az gd K (iH.up ao c1) (by rw [Nx aL rU,Gq aq ar b4];exact U)) ?_
 refine cx [] 0 (fk.cZ==3) ?_ ?_
 · repeat' first
    |exact ⟨⟨_,rfl,by grind [bM.val]⟩,rfl⟩
    |refine an (fun _=>?_) (fun _=>?_)
    |refine lu (.b (.lit true)) (fun _=>rE 0 0 (by first|exact qB _|decide) (by first|rfl|exact aq|exact aq.symm)) ?_
 exact bt rfl fun _=>U
set_option maxHeartbeats 4000000 in
theorem Zy (s:dr) (n:ak) (b4:p1 s) (m:ad) (K:R→ad→Prop) (c1:iH m) (U:K (.bool true) m):bn Tryz.prog 6 [gR s, .str n] m K:=by
 have Zz:∀h∈s.held,bq h.attrs≤1000000000000:=fun h ba=>Nat.le_trans (b4.h h ba).1 (by decide)
 have ZA:∀x∈s.ints,bq x.held.attrs≤1000000000000:=fun x ba=>Nat.le_trans (b4.i x ba).1.1 (by decide)
 have ZB:∀p∈s.outs,bq p.2≤1000000000000:=fun p ba=>Nat.le_trans (b4.o p ba) (by decide)
 have ZC:∀x∈s.ints,x.tok.length≤140737488355328:=fun x ba=>(b4.i x ba).2
 obtain ⟨ec,wG⟩:∃t,(if cp s=0 then dy s else [])=t:=⟨_,rfl⟩
 have ah:cp s=0→ec=dy s:=fun h=>by rw [←wG,if_pos h]
 have eO:cp s≠0→ec=[]:=fun h=>by rw [←wG,if_neg h]
 refine enter (c:=cP [] [8] [6,14,16] [] [] []) (vs:=[.aK (gR s), .aK (.str n)]) (L:=[]) (m:=m) false cc Tryz.mixed Tryz.func6 rfl (k:=2) (by show cJ [] _ _ _=true;decide+kernel) rfl (Good.nil m) ?_
 refine fQ [] [] (.b (.lit true)) rfl (fun bs az gd ao=>fun K U=>Zx az K (iH.up ao c1) U) ?_
 refine aZ ?_
 refine dK 115 [] (σ:=Bool) (fun wL=>wL=wL) (fun wL=>e6 wL) (fun wL=>[]) rfl (fun _=>rfl) (fun bs az gd ao K U=>Ys s az K (fun b=>U b rfl)) ?_
 rintro wL b5
 refine an (fun I=>?_) (fun I=>?_)
 · refine an (fun J=>?_) (fun J=>?_)
   · exact bt rfl fun _=>U
   refine ct (fun _=>Xt s Zz ZA ZB ZC) rfl ?_
   refine fQ [] [] (.aK (.tuple [.str ec, .err 115 (cp s)])) rfl (fun bs az gd ao=>fun K U=>FV s b4 az K (cY.up ao c1.1) (by rw [wG];exact U)) ?_
   refine aZ ?_
   refine cx [1,2,6,7] 65 (((decide (0<(cp s)))&&(!(ec==([]))))||(((cp s)==0)&&(!(ec==(dy s))))) ?_ ?_
   · repeat' first
      |exact ⟨⟨_,rfl,by grind [bM.val]⟩,rfl⟩
      |refine an (fun _=>?_) (fun _=>?_)
      |refine ct (fun _=>Ma s) rfl ?_
      |refine lu (.b (.lit true)) (fun _=>rE (cp s) (cp s) (by first|exact qB _|decide) (by first|rfl|exact aq|exact aq.symm)) ?_
      |refine ct (fun _=>XH s b4 (by assumption)) rfl ?_
   refine an (fun ai=>?_) (fun ai=>?_)
   · replace ai:((0<(cp s))∧(ec≠[]))∨(((cp s)=0)∧(ec≠(dy s))):=((da ai).imp (fun q=>⟨(of_decide_eq_true (e4 q)),(ne_of_beq_false (dD (fY q)))⟩) (fun q=>⟨(eq_of_beq (e4 q)),(ne_of_beq_false (dD (fY q)))⟩))
     rcases ai with h|h
     · exact absurd (eO (by omega)) h.2
     · exact absurd (ah h.1) h.2
   replace ai:(((cp s)≤0)∨(ec=[]))∧(((cp s)≠0)∨(ec=(dy s))):=⟨((fZ (bZ ai)).imp (fun q=>(Int.not_lt.1 (of_decide_eq_false q))) (fun q=>(eq_of_beq (dC q)))),((fZ (c8 ai)).imp (fun q=>(ne_of_beq_false q)) (fun q=>(eq_of_beq (dC q))))⟩
   refine ⟨fun _=>?_⟩
   rcases Zt n s with aL|⟨aL,aq⟩|⟨aL,aq,ar⟩|⟨aL,aq,ar,z,pG,rU⟩
   · refine yz (.obj (aS d0.kept)) (.obj (aS d0.now)) (.cells [.mp 1, .mp 2, .own (d0.wait.map di),aw d0.cu,e6 d0.down,aw d0.steps]) (fun d aG aT=>bN aT aG d0) (aS []) (aS []) rfl (fun _=>rfl) (fun _=>rfl) (fun bs d aG aT ar=>zc d aG aT ar) (fun bs az ar ao K U=>yY az K U) ?_
     refine lu (.b (.lit false)) (fun _=>Zu n aL) ?_
     refine fQ [3,2,1] [.cells [.mp 1, .mp 2, .own (d0.wait.map di),aw d0.cu,e6 d0.down,aw d0.steps], .obj (aS d0.now), .obj (aS d0.kept)] (.aK (.tuple [gR gp, .err 115 3])) rfl (fun bs az gd ao=>fun K U=>wF (bs.getD 3 0) (bs.getD 2 0) (bs.getD 1 0) d0 n (by rw [za];simp) az gd K (iH.up ao c1) (by rw [Zp aL];exact U)) ?_
     refine fQ [3,2,1] [.cells [.mp 1, .mp 2, .own (d0.wait.map di),aw d0.cu,e6 d0.down,aw d0.steps], .obj (aS d0.now), .obj (aS d0.kept)] (.aK (.err 115 3)) rfl (fun bs az gd ao=>fun K U=>y3 (bs.getD 3 0) (bs.getD 2 0) (bs.getD 1 0) d0 n s 0 b4 zb (by decide) az gd K (cY.up ao c1.1) (by rw [Zo aL];exact U)) ?_
     refine aZ ?_
     refine lu (.b (.lit true)) (fun _=>rE 3 3 (by first|exact qB _|decide) (by first|rfl|exact aq|exact aq.symm)) ?_
     refine lu (.b (.lit true)) (fun _=>rE 3 3 (by first|exact qB _|decide) (by first|rfl|exact aq|exact aq.symm)) ?_
     exact bt rfl fun _=>U
   · refine yz (.obj (aS d0.kept)) (.obj (aS d0.now)) (.cells [.mp 1, .mp 2, .own (d0.wait.map di),aw d0.cu,e6 d0.down,aw d0.steps]) (fun d aG aT=>bN aT aG d0) (aS []) (aS []) rfl (fun _=>rfl) (fun _=>rfl) (fun bs d aG aT ar=>zc d aG aT ar) (fun bs az ar ao K U=>yY az K U) ?_
     refine lu (.b (.lit true)) (fun _=>Gp n aL) ?_
     refine fQ [3,2,1] [.cells [.mp 1, .mp 2, .own (d0.wait.map di),aw d0.cu,e6 d0.down,aw d0.steps], .obj (aS d0.now), .obj (aS d0.kept)] (.aK (.tuple [gR gp, .err 115 0])) rfl (fun bs az gd ao=>fun K U=>wF (bs.getD 3 0) (bs.getD 2 0) (bs.getD 1 0) d0 n (by rw [za];simp) az gd K (iH.up ao c1) (by rw [Gn aL];exact U)) ?_
     refine fQ [3,2,1] [.cells [.mp 1, .mp 2, .own (d0.wait.map di),aw d0.cu,e6 d0.down,aw d0.steps], .obj (aS d0.now), .obj (aS d0.kept)] (.aK (.err 115 (cp s))) rfl (fun bs az gd ao=>fun K U=>y3 (bs.getD 3 0) (bs.getD 2 0) (bs.getD 1 0) d0 n s 0 b4 zb (by decide) az gd K (cY.up ao c1.1) (by rw [Zq aL aq];exact U)) ?_
     refine aZ ?_
     refine aZ ?_
     refine cx [1,2,6,7,9,12] 94 (!(0==0)) ?_ ?_
     · repeat' first
        |exact ⟨⟨_,rfl,by grind [bM.val]⟩,rfl⟩
        |refine an (fun _=>?_) (fun _=>?_)
        |refine lu (.b (.lit true)) (fun _=>zd gp (⟨0,[],[],[]⟩:dr) rfl) ?_
     refine an (fun aC=>?_) (fun aC=>?_)
     · exact absurd aC (by simp)
     refine aZ ?_
     refine cx [1,2,6,7,9,12] 101 (((cp s)==0)&&(decide (4000<(ec.length:Int)))) ?_ ?_
     · repeat' first
        |exact ⟨⟨_,rfl,by grind [bM.val]⟩,rfl⟩
        |refine an (fun _=>?_) (fun _=>?_)
     refine an (fun aN=>?_) (fun aN=>?_)
     · replace aN:((cp s)=0)∧(4000<(ec.length:Int)):=⟨(eq_of_beq (e4 aN)),(of_decide_eq_true (fY aN))⟩
       exact absurd aN.1 aq
     replace aN:((cp s)≠0)∨((ec.length:Int)≤4000):=((fZ aN).imp (fun q=>(ne_of_beq_false q)) (fun q=>(Int.not_lt.1 (of_decide_eq_false q))))
     refine aZ ?_
     refine an (fun bE=>?_) (fun bE=>?_)
     · refine lu (.b (.lit true)) (fun _=>rE (cp s) (cp s) (by first|exact qB _|decide) (by first|rfl|exact aq|exact aq.symm)) ?_
       exact bt rfl fun _=>U
     exact absurd (Int.le_antisymm (by omega) (qB s)) aq
   · refine yz (.obj (aS d0.kept)) (.obj (aS d0.now)) (.cells [.mp 1, .mp 2, .own (d0.wait.map di),aw d0.cu,e6 d0.down,aw d0.steps]) (fun d aG aT=>bN aT aG d0) (aS []) (aS []) rfl (fun _=>rfl) (fun _=>rfl) (fun bs d aG aT ar=>zc d aG aT ar) (fun bs az ar ao K U=>yY az K U) ?_
     refine lu (.b (.lit true)) (fun _=>Gp n aL) ?_
     refine fQ [3,2,1] [.cells [.mp 1, .mp 2, .own (d0.wait.map di),aw d0.cu,e6 d0.down,aw d0.steps], .obj (aS d0.now), .obj (aS d0.kept)] (.aK (.tuple [gR gp, .err 115 0])) rfl (fun bs az gd ao=>fun K U=>wF (bs.getD 3 0) (bs.getD 2 0) (bs.getD 1 0) d0 n (by rw [za];simp) az gd K (iH.up ao c1) (by rw [Gn aL];exact U)) ?_
     refine fQ [3,2,1] [.cells [.mp 1, .mp 2, .own (d0.wait.map di),aw d0.cu,e6 d0.down,aw d0.steps], .obj (aS d0.now), .obj (aS d0.kept)] (.aK (.err 115 2)) rfl (fun bs az gd ao=>fun K U=>y3 (bs.getD 3 0) (bs.getD 2 0) (bs.getD 1 0) d0 n s 0 b4 zb (by decide) az gd K (cY.up ao c1.1) (by rw [Zr aL aq ar];exact U)) ?_
     refine aZ ?_
     refine aZ ?_
     refine cx [1,2,6,7,9,12] 94 (!(0==0)) ?_ ?_
     · repeat' first
        |exact ⟨⟨_,rfl,by grind [bM.val]⟩,rfl⟩
        |refine an (fun _=>?_) (fun _=>?_)
        |refine lu (.b (.lit true)) (fun _=>zd gp (⟨0,[],[],[]⟩:dr) rfl) ?_
     refine an (fun dk=>?_) (fun dk=>?_)
     · exact absurd dk (by simp)
     refine aZ ?_
     refine cx [1,2,6,7,9,12] 101 (((cp s)==0)&&(decide (4000<(ec.length:Int)))) ?_ ?_
     · repeat' first
        |exact ⟨⟨_,rfl,by grind [bM.val]⟩,rfl⟩
        |refine an (fun _=>?_) (fun _=>?_)
     refine an (fun cW=>?_) (fun cW=>?_)
     · replace cW:((cp s)=0)∧(4000<(ec.length:Int)):=⟨(eq_of_beq (e4 cW)),(of_decide_eq_true (fY cW))⟩
       refine aZ ?_
       refine an (fun dB=>?_) (fun dB=>?_)
       · refine lu (.b (.lit true)) (fun _=>rE 2 2 (by first|exact qB _|decide) (by first|rfl|exact aq|exact aq.symm)) ?_
         exact bt rfl fun _=>U
       omega
     replace cW:((cp s)≠0)∨((ec.length:Int)≤4000):=((fZ cW).imp (fun q=>(ne_of_beq_false q)) (fun q=>(Int.not_lt.1 (of_decide_eq_false q))))
     rw [ah aq] at cW
     rcases cW with h|h
     · exact absurd aq h
     · omega
   · refine yz (.obj (aS d0.kept)) (.obj (aS d0.now)) (.cells [.mp 1, .mp 2, .own (d0.wait.map di),aw d0.cu,e6 d0.down,aw d0.steps]) (fun d aG aT=>bN aT aG d0) (aS []) (aS []) rfl (fun _=>rfl) (fun _=>rfl) (fun bs d aG aT ar=>zc d aG aT ar) (fun bs az ar ao K U=>yY az K U) ?_
     refine lu (.b (.lit true)) (fun _=>Gp n aL) ?_
     refine fQ [3,2,1] [.cells [.mp 1, .mp 2, .own (d0.wait.map di),aw d0.cu,e6 d0.down,aw d0.steps], .obj (aS d0.now), .obj (aS d0.kept)] (.aK (.tuple [gR gp, .err 115 0])) rfl (fun bs az gd ao=>fun K U=>wF (bs.getD 3 0) (bs.getD 2 0) (bs.getD 1 0) d0 n (by rw [za];simp) az gd K (iH.up ao c1) (by rw [Gn aL];exact U)) ?_
     refine fQ [3,2,1] [.cells [.mp 1, .mp 2, .own (z.wait.map di),aw z.cu,e6 z.down,aw z.steps], .obj (aS z.now), .obj (aS z.kept)] (.aK (.err 115 0)) rfl (fun bs az gd ao=>fun K U=>y3 (bs.getD 3 0) (bs.getD 2 0) (bs.getD 1 0) d0 n s 0 b4 zb (by decide) az gd K (cY.up ao c1.1) (by rw [pG];exact U)) ?_
     refine aZ ?_
     refine aZ ?_
     refine cx [1,2,6,7,9,12] 94 (!(0==0)) ?_ ?_
     · repeat' first
        |exact ⟨⟨_,rfl,by grind [bM.val]⟩,rfl⟩
        |refine an (fun _=>?_) (fun _=>?_)
        |refine lu (.b (.lit true)) (fun _=>zd gp (⟨0,[],[],[]⟩:dr) rfl) ?_
     refine an (fun dV=>?_) (fun dV=>?_)
     · exact absurd dV (by simp)
     refine aZ ?_
     refine cx [1,2,6,7,9,12] 101 (((cp s)==0)&&(decide (4000<(ec.length:Int)))) ?_ ?_
     · repeat' first
        |exact ⟨⟨_,rfl,by grind [bM.val]⟩,rfl⟩
        |refine an (fun _=>?_) (fun _=>?_)
     refine an (fun fj=>?_) (fun fj=>?_)
     · replace fj:((cp s)=0)∧(4000<(ec.length:Int)):=⟨(eq_of_beq (e4 fj)),(of_decide_eq_true (fY fj))⟩
       rw [ah aq] at fj
       omega
     replace fj:((cp s)≠0)∨((ec.length:Int)≤4000):=((fZ fj).imp (fun q=>(ne_of_beq_false q)) (fun q=>(Int.not_lt.1 (of_decide_eq_false q))))
     refine aZ ?_
     refine an (fun rm=>?_) (fun rm=>?_)
     · omega
     refine fQ [] [] (.aK (.tuple [gR s, .err 115 0])) rfl (fun bs az gd ao=>fun K U=>Mv ec (by rw [ah aq];omega) az K (iH.up ao c1) (by rw [ah aq,Gq aq ar b4];exact U)) ?_
     refine fQ [3,2,1] [.cells [.mp 1, .mp 2, .own (z.wait.map di),aw z.cu,e6 z.down,aw z.steps], .obj (aS z.now), .obj (aS z.kept)] (.aK (.tuple [gR s, .err 115 0])) rfl (fun bs az gd ao=>fun K U=>wF (bs.getD 3 0) (bs.getD 2 0) (bs.getD 1 0) z n (by rw [rU];show (dy s).length≤_;have:=ar;omega) az gd K (iH.up ao c1) (by rw [Nx aL rU,Gq aq ar b4];exact U)) ?_
     refine lu (.b (.lit true)) (fun _=>rE 0 0 (by first|exact qB _|decide) (by first|rfl|exact aq|exact aq.symm)) ?_
     refine lu (.b (.lit true)) (fun _=>rE 0 0 (by first|exact qB _|decide) (by first|rfl|exact aq|exact aq.symm)) ?_
     refine lu (.b (.lit true)) (fun _=>rE 0 0 (by first|exact qB _|decide) (by first|rfl|exact aq|exact aq.symm)) ?_
     refine lu (.b (.lit true)) (fun _=>zd s s rfl) ?_
     refine lu (.b (.lit true)) (fun _=>zd s s rfl) ?_
     exact bt rfl fun _=>U
 exact bt rfl fun _=>U
end Go.Proofs
end
section
namespace Go.bh
open Go Go.RowKit Go.WideShapes Go.ChangeShapes
theorem mN.ZD {bk:{H:Type}→DataW H→Nat} {P:Program} {t:TypeId} {α:Type} {f:α→R} {z:α→Nat} {H:Type} {enc:TypeId×Value→H} {W:World} {sp:Nat→Bool} {cs:Array Value} {d:DataW H} {ps:List MemPlace} (au:∀n,mN bk P n t f z) (aW:∀x,∃l,f x= .agg l) (aY:DataW.Trod enc P W 0 sp true t (.agg cs) d ps) (hw:∀n∈d.weights P t,n≤reachBytes):
 ∃x:α,z x≤bk d∧aF W (ma W) (.agg cs) (f x) []:=by
 obtain ⟨n,aL⟩:=aY
 obtain ⟨x,aq,I,J⟩:=au n H enc W sp _ d ps aL hw
 obtain ⟨l,e⟩:=aW x
 refine ⟨x,aq,?_⟩
 rw [e] at I J ⊢
 simp only [R.cells] at I J
 have ar:cs.size=l.length:=by simpa [Value.cells] using I.symm
 have:=aF.agg (w:=W) (lim:=ma W) cs l (fun _=>[]) ar (fun i ab=>by
  have:=J i (by simpa [Value.cells,ar] using ab)
  simpa [Value.cells,List.getD_eq_getElem?_getD,Array.getD_eq_getD_getElem?] using this)
 rwa [flatMap_nil] at this
end Go.bh
namespace Go.Proofs
open Go Go.bh Go.RowKit Go.WideShapes Go.ChangeShapes
set_option maxRecDepth 100000
theorem Gr (v:aR):(cm v).cells.length=5:=by cases v;rfl
theorem BZ (v:ak×aR):(bB v).cells.length=6:=by
 obtain ⟨s,v⟩:=v
 cases v;rfl
section
variable {bk:{H:Type}→DataW H→Nat} {bkA:{H:Type}→List (DataW H)→Nat}
theorem ZE (l:List aR):(l.map bq).sum=k4 l:=by
 induction l with
 |nil=>rfl
 |cons v r aQ=>rw [List.map_cons,List.sum_cons,aQ];rfl
theorem ZF (l:List (ak×aR)):(l.map fun p=>bq p.2).sum=kD l:=by
 induction l with
 |nil=>rfl
 |cons p r aQ=>
  obtain ⟨s,v⟩:=p
  cases v with
  |mk k n t l f=>rw [List.map_cons,List.sum_cons,aQ];rfl
theorem ND {n:Nat} (b4:nx bk bkA) (aQ:∀k,k<n→mN bk Tryz.prog k 25 cm bq):mN bk Tryz.prog n 168 bB (fun p=>bq p.2):=by
 intro H enc W sp cs d ps h hw
 obtain ⟨ar,p,aB,aW⟩:=xR b4 Tryz.underlying168 h hw
 obtain ⟨s,_,_,_,_,al⟩:=aW 0 _ cf (fun _=>0) rfl (fun _ _=>(u6 (by rfl)).toB) (by decide)
 obtain ⟨v,aaX,I,J,_,bc⟩:=aW 1 _ cm bq rfl (fun k aj=>aQ k aj) (by decide)
 have ai:=b4.at I
 refine ⟨(s,v),by simp only;omega,by rw [BZ,ar];rfl,fun i ab=>?_⟩
 rw [ar] at ab
 replace ab:i<6:=ab
 cases v with
 |mk k n t l f=>
  match i,ab with
  |0,_=>exact al 0 (by decide)
  |1,_=>exact bc 0 (by decide)
  |2,_=>exact bc 1 (by decide)
  |3,_=>exact bc 2 (by decide)
  |4,_=>exact bc 3 (by decide)
  |5,_=>exact bc 4 (by decide)
theorem NF (b4:nx bk bkA) (n:Nat):mN bk Tryz.prog n 25 cm bq:=by
 induction n using Nat.strongRecOn with
 |ind n aQ=>
  intro H enc W sp cs d ps h hw
  obtain ⟨ar,p,aB,aW⟩:=xR b4 Tryz.underlying25 h hw
  obtain ⟨k,_,_,_,_,aj⟩:=aW 0 _ uY (fun _=>0) rfl (fun _ _=>(xE (by rfl)).toB) (by decide)
  obtain ⟨m,_,_,_,_,hm⟩:=aW 1 _ uY (fun _=>0) rfl (fun _ _=>(xE (by rfl)).toB) (by decide)
  obtain ⟨s,_,_,_,_,al⟩:=aW 2 _ cf (fun _=>0) rfl (fun _ _=>(u6 (by rfl)).toB) (by decide)
  obtain ⟨l,dl,ie,iC,_,jl⟩:=aW 3 _ (uZ cm) _ rfl (fun j ay=>xP b4 (by rfl) (by rfl) (by decide) (by decide) Gr (fun i ab=>aQ i (by omega))) (by decide)
  obtain ⟨f,NG,f1,f2,_,ZG⟩:=aW 4 _ (uZ bB) _ rfl (fun j ay=>xP b4 (by rfl) (by rfl) (by decide) (by decide) BZ (fun i ab=>ND b4 (fun q aO=>aQ q (by omega)))) (by decide)
  have ai:=b4.two (by decide) ie f1
  replace iC:(l.map bq).sum≤bk dl:=iC
  replace f2:(f.map fun p=>bq p.2).sum≤bk NG:=f2
  rw [ZE] at iC
  rw [ZF] at f2
  replace ai:bk dl+bk NG≤bkA p:=ai
  have aC:k4 l+kD f+1≤bk d:=by omega
  refine ⟨.mk k m s l f,by rw [bq];exact aC,by rw [Gr,ar];rfl,fun i ab=>?_⟩
  rw [ar] at ab
  replace ab:i<5:=ab
  rw [jN]
  match i,ab with
  |0,_=>exact aj 0 (by decide)
  |1,_=>exact hm 0 (by decide)
  |2,_=>exact al 0 (by decide)
  |3,_=>exact jl 0 (by decide)
  |4,_=>exact ZG 0 (by decide)
theorem NH (b4:nx bk bkA) {H:Type}:∀{p:List (DataW H)} {i j k:Nat} {d fu d2:DataW H},i<j→j<k→p[i]?=some d→p[j]?=some fu→p[k]?=some d2→bk d+bk fu+bk d2≤bkA p
 |a::p,0,j+1,k+1,d,fu,d2,_,NI,h,cb,J=>by
  simp only [List.getElem?_cons_zero,Option.some.injEq,List.getElem?_cons_succ] at h cb J
  subst h
  have:=b4.two (by omega) cb J
  rw [b4.cons];omega
 |a::p,i+1,j+1,k+1,d,fu,d2,hH,NI,h,cb,J=>by
  simp only [List.getElem?_cons_succ] at h cb J
  have:=NH b4 (by omega) (by omega) h cb J
  rw [b4.cons];omega
 |a::p,i,0,k,d,fu,d2,hH,_,_,_,_=>by omega
 |a::p,i,j+1,0,d,fu,d2,_,NI,_,_,_=>by omega
 |[],i,j,k,d,fu,d2,_,_,h,_,_=>by simp at h
theorem Gs {α:Type} (z:α→Nat) {l:List α} {a:α} (h:a∈l):z a≤(l.map z).sum:=by
 induction l with
 |nil=>cases h
 |cons b r aQ=>
  rw [List.map_cons,List.sum_cons]
  rcases List.mem_cons.1 h with rfl|h
  · omega
  · have:=aQ h;omega
end
theorem Gt:∀(n:Nat) (v:aR),bq v<n→jr (cm v)
 |0,_,h=>absurd h (Nat.not_lt_zero _)
 |n+1,v,h=>by
  have e:=fR v
  rw [jN,cG]
  have ar:∀w∈v.l,jr (cm w):=fun w hw=>Gt n w (by have:=gP hw;omega)
  have aW:∀p∈v.f,jr (bB p):=fun p aB=>by
   have J:=Gt n p.2 (by have:=gQ aB;omega)
   rw [jN,cG] at J
   cases J with
   |agg _ ai=>
    rw [fI,gA]
    refine .agg _ fun y aE=>?_
    rcases List.mem_cons.1 aE with rfl|aE
    · exact .str _
    · exact ai y aE
  refine .agg _ fun y aE=>?_
  simp only [List.mem_cons,List.not_mem_nil,or_false] at aE
  rcases aE with rfl|rfl|rfl|rfl|rfl
  · exact .int _ _ (by decide)
  · exact .int _ _ (by decide)
  · exact .str _
  · refine .slice _ (fun x ah=>?_) fun x ah y aE=>?_
    · obtain ⟨w,_,rfl⟩:=List.mem_map.1 ah
      exact fun e=>by have:=Gr w;rw [e] at this;cases this
    · obtain ⟨w,hw,rfl⟩:=List.mem_map.1 ah
      have J:=ar w hw
      rw [jN,cG] at J
      rw [jN,cG] at aE
      cases J with
      |agg _ ai=>exact ai y aE
  · refine .slice _ (fun x ah=>?_) fun x ah y aE=>?_
    · obtain ⟨p,_,rfl⟩:=List.mem_map.1 ah
      exact fun e=>by have:=BZ p;rw [e] at this;cases this
    · obtain ⟨p,aB,rfl⟩:=List.mem_map.1 ah
      have J:=aW p aB
      rw [fI,gA] at J
      rw [fI,gA] at aE
      cases J with
      |agg _ ai=>exact ai y aE
theorem ZH (v:aR):jr (cm v):=Gt _ v (Nat.lt_succ_self _)
end Go.Proofs
end
section
namespace Go.Proofs
open Go Go.bh Go.RowKit Go.WideShapes Go.ChangeShapes
set_option maxRecDepth 100000
section
variable {bk:{H:Type}→DataW H→Nat} {bkA:{H:Type}→List (DataW H)→Nat}
def sV (p:Prop) [Decidable p]:Nat:=if p then 0 else 1000000000000000000000000000000
theorem NJ {p:Prop} [Decidable p] (h:p):sV p=0:=if_pos h
theorem NK {p:Prop} [Decidable p] {n:Nat} (h:sV p≤n) (aL:n≤1048576):p:=by
 unfold sV at h
 split at h
 · assumption
 · omega
def pn (h:gh):Nat:=bq h.attrs+sV (-9223372036854775808≤h.id∧h.id≤9223372036854775807)
def uu (x:jR):Nat:=pn x.held+sV (x.tok.length≤140737488355328)
def B0 (s:dr):Nat:=(s.held.map pn).sum+(s.ints.map uu).sum+(s.outs.map fun p=>bq p.2).sum
theorem NL (b4:nx bk bkA) (I:∀{H:Type} (d:DataW H),1≤bk d) (n:Nat):mN bk Tryz.prog n 165 ea pn:=by
 intro H enc W sp cs d ps h hw
 obtain ⟨ar,p,aB,aW⟩:=xR b4 Tryz.underlying165 h hw
 obtain ⟨nm,d0,a0,b0,_,ze⟩:=aW 0 _ cf (fun _=>0) rfl (fun j _=>(u6 (by rfl)).toB) (by decide)
 obtain ⟨cM,d1,dt,bH,_,po⟩:=aW 1 _ cf (fun _=>0) rfl (fun j _=>(u6 (by rfl)).toB) (by decide)
 obtain ⟨n,d2,a2,ho,_,uv⟩:=aW 2 _ uY (fun _=>0) rfl (fun j _=>(xE (by rfl)).toB) (by decide)
 obtain ⟨v,d3,a3,jQ,_,sW⟩:=aW 3 _ cm bq rfl (fun j _=>NF b4 j) (by decide)
 simp only [jN] at sW
 have ai:=b4.at a3
 have au:=(lE (uv 0 (by decide))).2
 have aC:pn ⟨nm,cM,n,v⟩≤bk d:=by
  show bq v+sV (-9223372036854775808≤n∧n≤9223372036854775807)≤_
  rw [NJ ⟨au.1,au.2⟩];omega
 refine ⟨⟨nm,cM,n,v⟩,aC,ar.symm,fun i ab=>?_⟩
 rw [ar] at ab
 replace ab:i<8:=ab
 match i,ab with
 |0,_=>exact ze 0 (by decide)
 |1,_=>exact po 0 (by decide)
 |2,_=>exact uv 0 (by decide)
 |3,_=>exact sW 0 (by decide)
 |4,_=>exact sW 1 (by decide)
 |5,_=>exact sW 2 (by decide)
 |6,_=>exact sW 3 (by decide)
 |7,_=>exact sW 4 (by decide)
theorem ZI (b4:nx bk bkA) (I:∀{H:Type} (d:DataW H),1≤bk d) (n:Nat):mN bk Tryz.prog n 167 fh uu:=by
 intro H enc W sp cs d ps h hw
 obtain ⟨ar,p,aB,aW⟩:=xR b4 Tryz.underlying167 h hw
 obtain ⟨n,d0,a0,b0,_,ze⟩:=aW 0 _ uY (fun _=>0) rfl (fun j _=>(xE (by rfl)).toB) (by decide)
 obtain ⟨h,d1,dt,bH,_,po⟩:=aW 1 _ ea pn rfl (fun j _=>NL b4 I j) (by decide)
 obtain ⟨k,d2,a2,ho,_,uv⟩:=aW 2 _ cf (fun _=>0) rfl (fun j _=>(u6 (by rfl)).toB) (by decide)
 have ai:=b4.at dt
 obtain ⟨aaY,_,vC,rB⟩:=uC (uv 0 (by decide))
 have lL:k.length≤140737488355328:=by rw [←vC];exact rB
 have aC:uu ⟨n,h,k⟩≤bk d:=by
  show pn h+sV (k.length≤140737488355328)≤_
  rw [NJ lL];omega
 refine ⟨⟨n,h,k⟩,aC,ar.symm,fun i ab=>?_⟩
 rw [ar] at ab
 replace ab:i<10:=ab
 match i,ab with
 |0,_=>exact ze 0 (by decide)
 |1,_=>exact po 0 (by decide)
 |2,_=>exact po 1 (by decide)
 |3,_=>exact po 2 (by decide)
 |4,_=>exact po 3 (by decide)
 |5,_=>exact po 4 (by decide)
 |6,_=>exact po 5 (by decide)
 |7,_=>exact po 6 (by decide)
 |8,_=>exact po 7 (by decide)
 |9,_=>exact uv 0 (by decide)
theorem ZJ (b4:nx bk bkA) (I:∀{H:Type} (d:DataW H),1≤bk d) (n:Nat):mN bk Tryz.prog n 78 gR B0:=by
 intro H enc W sp cs d ps h hw
 obtain ⟨ar,p,aB,aW⟩:=xR b4 Tryz.underlying78 h hw
 obtain ⟨n,d0,a0,b0,_,ze⟩:=aW 0 _ uY (fun _=>0) rfl (fun j _=>(xE (by rfl)).toB) (by decide)
 obtain ⟨x,d1,dt,bH,_,po⟩:=aW 1 _ (uZ ea) _ rfl (fun j _=>xP b4 (by rfl) (by rfl) (by decide) (by decide) (fun _=>rfl) (fun i ab=>NL b4 I i)) (by decide)
 obtain ⟨y,d2,a2,ho,_,uv⟩:=aW 2 _ (uZ fh) _ rfl (fun j _=>xP b4 (by rfl) (by rfl) (by decide) (by decide) (fun _=>rfl) (fun i ab=>ZI b4 I i)) (by decide)
 obtain ⟨z,d3,a3,jQ,_,sW⟩:=aW 3 _ (uZ bB) _ rfl (fun j _=>xP b4 (by rfl) (by rfl) (by decide) (by decide) (fun v=>BZ v) (fun i ab=>ND b4 fun k _=>NF b4 k)) (by decide)
 have ai:=NH b4 (by decide) (by decide) dt a2 a3
 replace bH:(x.map pn).sum≤bk d1:=bH
 replace ho:(y.map uu).sum≤bk d2:=ho
 replace jQ:(z.map fun p=>bq p.2).sum≤bk d3:=jQ
 have aC:B0 ⟨n,x,y,z⟩≤bk d:=by
  show (x.map pn).sum+(y.map uu).sum+(z.map fun p=>bq p.2).sum≤_;omega
 refine ⟨⟨n,x,y,z⟩,aC,ar.symm,fun i ab=>?_⟩
 rw [ar] at ab
 replace ab:i<4:=ab
 match i,ab with
 |0,_=>exact ze 0 (by decide)
 |1,_=>exact po 0 (by decide)
 |2,_=>exact uv 0 (by decide)
 |3,_=>exact sW 0 (by decide)
end
theorem NM {h:gh} {n:Nat} (aA:pn h≤n) (aL:n≤1048576):BK h:=by
 unfold pn at aA
 have:=NK (p:=-9223372036854775808≤h.id∧h.id≤9223372036854775807) (n:=n) (by omega) aL
 exact ⟨by omega,this.1,this.2⟩
theorem ZK {s:dr} (h:B0 s≤1048576):p1 s:=by
 unfold B0 at h
 refine ⟨fun x ah=>?_,fun x ah=>?_,fun p aB=>?_⟩
 · have:=Gs pn ah
   exact NM (n:=1048576) (by omega) (Nat.le_refl _)
 · have:=Gs uu ah
   have e:uu x=pn x.held+sV (x.tok.length≤140737488355328):=rfl
   exact ⟨NM (n:=1048576) (by omega) (Nat.le_refl _),NK (n:=1048576) (by omega) (Nat.le_refl _)⟩
 · have:=Gs (fun p:ak×aR=>bq p.2) aB;omega
theorem Gu {α:Type} {f:α→R} (eB:∀x,(f x).cells≠[]) (h:∀x,∀y∈(f x).cells,jr y) (l:List α):jr (.slice false (l.map f)):=by
 refine .slice _ (fun x ah=>?_) fun x ah y aE=>?_
 · obtain ⟨p,_,rfl⟩:=List.mem_map.1 ah
   exact eB p
 · obtain ⟨p,_,rfl⟩:=List.mem_map.1 ah
   exact h p y aE
theorem NN (v:aR):∀y∈(cG v).cells,jr y:=fun y aE=>by
 have J:=ZH v
 rw [jN] at J
 cases J with
 |agg _ ai=>exact ai y aE
theorem ZL (p:ak×aR):∀y∈(bB p).cells,jr y:=fun y aE=>by
 rw [fI] at aE
 rcases List.mem_cons.1 (show y∈R.str p.1::(cG p.2).cells from aE) with rfl|aE
 · exact .str _
 · exact NN p.2 y aE
theorem NO (h:gh):∀y∈(ea h).cells,jr y:=fun y aE=>by
 rcases List.mem_append.1 (show y∈[R.str h.name, .str h.kind, .int .i64 h.id]++(cG h.attrs).cells from aE) with aE|aE
 · simp only [List.mem_cons,List.not_mem_nil,or_false] at aE
   rcases aE with rfl|rfl|rfl
   · exact .str _
   · exact .str _
   · exact .int _ _ (by decide)
 · exact NN _ y aE
theorem ZM (x:jR):∀y∈(fh x).cells,jr y:=fun y aE=>by
 rcases List.mem_cons.1 (show y∈R.int .i64 x.op::((ea x.held).cells++[.str x.tok]) from aE) with rfl|aE
 · exact .int _ _ (by decide)
 · rcases List.mem_append.1 aE with aE|aE
   · exact NO _ y aE
   · rw [List.mem_singleton.1 aE];exact .str _
theorem ZN (s:dr):jr (gR s):= .agg _ fun y aE=>by
 simp only [List.mem_cons,List.not_mem_nil,or_false] at aE
 rcases aE with rfl|rfl|rfl|rfl
 · exact .int _ _ (by decide)
 · exact Gu (f:=ea) (fun _=>List.cons_ne_nil _ _) NO _
 · exact Gu (f:=fh) (fun _=>List.cons_ne_nil _ _) ZM _
 · exact Gu (f:=bB) (fun p h=>by rw [fI] at h;cases h) ZL _
end Go.Proofs
end
