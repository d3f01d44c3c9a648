/-
  Rows whose elements own their lists: made, read, written, frozen.
-/
import Derived.Test.YtnahenbiipdlkaaGreatDoorWzL
import Derived.Test.YtnahenbiipdlkaaGreatDoorProg
import Derived.Test.YtnahenbiipdlkaaGreatDoorWyA
import Derived.Shelf.Small.Bits
import Derived.Shelf.Small.Strs
import Derived.Shelf.Strconv.Atoi
import Derived.Shelf.Strconv.Itoa3
import Derived.Shelf.LaysM
import Derived.Shelf.LaysC
import Derived.Shelf.Strconv.AtoiErr
import Derived.Shelf.Strings.Prefix
import Derived.Lib.Strings
import Derived.Lib.Slices
import Derived.Lib.Walk
import Derived.Lib.Builder
import Derived.Lib.AppendStr
import Derived.Lib.UnsafeStr
import Derived.WalkKit
import Derived.Laws.Externs
import Derived.Laws.IdiomCopy
import Derived.ProofKit
import Derived.OwnWalk
section
namespace Go.bV
open Go Go.ba
def cW {β:Type} (f:β→U) (aW:List (List β)):List U:=aW.map fun l=> .slice true (l.map f)
theorem Gc {β:Type} (f:β→U) (aW:List (List β)) (k:Nat) (p:U) (l:List β):((cW f aW).set k p).set k (.slice true (l.map f))=cW f (aW.set k l):=by
 rw [List.set_set,cW,cW,List.map_set]
theorem vK {β:Type} (f:β→U) (aW:List (List β)):(cW f aW).length=aW.length:=by simp [cW]
theorem O2 {β:Type} (f:β→U) (aW:List (List β)) {k:Int} (h:0≤k∧k<aW.length):(cW f aW).getD k.toNat .aS= .slice true ((I aW k).map f):=by
 have ak:k.toNat<aW.length:=by omega
 simp [cW,I,List.getD_eq_getElem?_getD,ak]
theorem O3 {β:Type} (f:β→U) (aW:List (List β)):dM (fun l:List β=>U.slice false (l.map f)) aW=aW.map fun l=>U.slice false (l.map f):=by
 unfold dM
 induction aW with
 |nil=>rfl
 |cons a r aQ=>rw [List.map_cons,List.flatMap_cons,aQ];rfl
section
variable {P:Program} {T:hl} {b0:List Nat} {fr:bJ} {L:List bu} {m:ae} {K:cE}
theorem Gd (aV:eX P T=true) {β:Type} (f:β→U) (aW:List (List β)) {i d t:Nat} {fs:Int} {x:Operand} (aU:eD fr x fun p=>p= .hj i fs 1 0) (ad:nth L i=some (.obj (.cells (cW f aW)))) (aB:da T t fun dp=>dp.k.hR=false) (aG:0≤fs∧fs<aW.length)
 (h:fP (L.set i (.obj (.cells ((cW f aW).set fs.toNat (.slice false ((I aW fs).map f)))))) fun bF=>K ((d, .own ((I aW fs).map f))::fr) bF m):hz P b0 (some d) (.load t x) fr L m K:=⟨fun new g n ops ty pos af l kN bL aI ab=>by
 obtain ⟨dp,cO,pw⟩:=dT aV aB
 obtain ⟨v,rfl,e⟩:=e0 (b0++new) aU
 rw [ig] at ad
 have hm:=kp g ad
 simp only [dV] at hm
 rw [gJ] at h
 have bl:=O2 f aW aG
 refine bS.val (stl:=[d]) (ss:=[]) (side:=dS P t=true∧jW P t=false∧fs.toNat<(cW f aW).length) (m':=(bH (b0++new) L m).cQ ((b0++new).getD i 0) (some (.cells ((cW f aW).set fs.toNat ((cW f aW).getD fs.toNat .aS).plain)))) (x:=(cW f aW).getD fs.toNat .aS) bL aI ?_ ⟨cO.is,cO.sE.trans pw,by rw [vK];omega⟩ ?_
 · have c8:b4 (bd (bb (b0++new) fr)) x= .ptr ⟨(b0++new).getD i 0,fs.toNat,none⟩:=by
    rw [←e];simp only [den];rw [show 0+fs.toNat*1+0=fs.toNat by omega]
   simp only [eC,xH,if_true,c8,hm]
 · have:=ab _ _ _ (b0++new) (List.prefix_append _ _) (g.set i (.obj (.cells ((cW f aW).set fs.toNat (.slice false ((I aW fs).map f)))))) h
   rw [←mem_set g ad] at this
   simp only [bb,dV,den] at this
   simp only [Fr.strip,Fr.put,ep,bl,U.plain]
   exact this⟩
theorem Ge (aV:eX P T=true) (dK xX:List U) {i s t:Nat} {fs:Int} {a:Operand} {l:List U} (aU:eD fr a fun p=>p= .hj i fs 1 0) (ad:nth L i=some (.obj (.cells dK))) (al:jP fr s fun v=>v= .own l) (aB:da T t fun dp=>dp.n=1) (aG:0≤fs∧fs<dK.length) (he:dK.set fs.toNat (.slice true l)=xX)
 (h:fP (L.set i (.obj (.cells xX))) fun bF=>K ((s, .aH (.slice false l))::fr) bF m):hz P b0 none (.store t a (.tmp s)) fr L m K:=⟨fun new g n ops ty pos af q kN bL aI ab=>by
 obtain ⟨dp,cO,pw⟩:=dT aV aB
 obtain ⟨v,rfl,e⟩:=e0 (b0++new) aU
 have vJ:=FR (bs:=b0++new) al (by simp)
 simp only [den] at vJ
 rw [ig] at ad
 have hm:=kp g ad
 simp only [dV] at hm
 rw [gJ] at h
 have j1:bd (bb (b0++new) fr) s= .slice true l:=by rw [bd,vJ];rfl
 have ar:P.cellsOf t=1:=by rw [cO.cells,pw]
 have O4:fs.toNat<dK.length:=by omega
 have rr:dK.take fs.toNat++(U.slice true l).cells++dK.drop (fs.toNat+P.cellsOf t)=xX:=by
  rw [←he,ar,List.set_eq_take_append_cons_drop,if_pos O4];simp [U.cells]
 refine bS.nI (stl:=[]) (ss:=kd (.tmp s)) (side:=(eB (bd (bb (b0++new) fr)) (.tmp s)).dy=true∧((eB (bd (bb (b0++new) fr)) (.tmp s)).cells.all U.one)=true∧(eB (bd (bb (b0++new) fr)) (.tmp s)).cells.length=P.cellsOf t∧dS P t=true∧fs.toNat+P.cellsOf t≤dK.length)
  (m':=(bH (b0++new) L m).cQ ((b0++new).getD i 0) (some (.cells (dK.take fs.toNat++(eB (bd (bb (b0++new) fr)) (.tmp s)).cells++dK.drop (fs.toNat+P.cellsOf t))))) bL aI ?_ ⟨by simp only [eB,j1];rfl,by simp only [eB,j1];rfl,by simp only [eB,j1,ar];rfl,cO.is,by rw [ar];omega⟩ ?_
 · have c8:b4 (bd (bb (b0++new) fr)) a= .ptr ⟨(b0++new).getD i 0,fs.toNat,none⟩:=by
    rw [←e];simp only [den];rw [show 0+fs.toNat*1+0=fs.toNat by omega]
   simp only [eC,c8,hm]
 · have:=ab _ _ _ (b0++new) (List.prefix_append _ _) (g.set i (.obj (.cells xX))) h
   rw [←mem_set g ad] at this
   simp only [bb,dV,den] at this
   simp only [eB,j1,rr,kd,Fr.strip,Fr.put,U.plain]
   exact this⟩
theorem By (aV:eX P T=true) {α:Type} (f:α→U) (z:α) (k:Int) {d t e:Nat} {x y:Operand} (aB:da T t fun dp=>dp.k= .bT e) (he:da T e fun e8=>e8.n=1) (aq:eD fr x fun v=>v= .aH (.int .i64 k)) (aK:eD fr y fun v=>v= .aH (.int .i64 k)) (ao:hy P e=some (f z)) (aN:(f z).cells=[f z])
 (mX:(f z).dy=true) (aG:0≤k) (ag:k*P.bytesOf e≤140737488355328) (ak:k≤140737488355328) (al:(nc L.length fr&&kP L.length L)=true)
 (h:K ((d, .ms L.length k.toNat k.toNat)::fr) (L++[.obj (.cells ((List.replicate k.toNat z).map f))]) m):hz P b0 (some d) (.makeSlice t x y) fr L m K:=⟨fun new g n ops ty pos af l kN bL aI ab=>by
 obtain ⟨dp,cO,pw⟩:=dT aV aB
 obtain ⟨e8,Gf,O5⟩:=dT aV he
 obtain ⟨v,rfl,aM⟩:=e0 (b0++new) aq
 obtain ⟨u,rfl,aC⟩:=e0 (b0++new) aK
 simp only [den,U.plain] at aM aC
 simp only [Bool.and_eq_true] at al
 refine qY (stl:=[]) bL aI ?_
 refine MF (P:=P) (ops:=ops) (stl:=[]) (r:=[]) (K:=bS P n ops l kN) (L:=hk (b0++new) L) rfl f z k (cO.bT pw).1 aM.symm aC.symm ao aN mX Gf.is (by rw [Gf.cells,O5]) aG ag ak fun b Bz=>?_
 obtain ⟨dr,c8⟩:=Ao g (by rw [g.len];exact al.2) Bz (.obj (.cells ((List.replicate k.toNat z).map f)))
 have:=ab _ _ _ ((b0++new)++[b]) (by rw [List.append_assoc];exact List.prefix_append _ _) dr h
 rw [c8] at this
 have fQ:bb ((b0++new)++[b]) fr=bb (b0++new) fr:=vc (by rw [g.len];exact al.1)
 simp only [bb,den,fQ] at this
 rw [show ((b0++new)++[b]).getD L.length 0=b by rw [←g.len,List.getD_eq_getElem?_getD,List.getElem?_concat_length];rfl] at this
 exact this⟩
theorem Gg {c:fy} {A:cE} {R:Prop} {β:Type} (f:β→U) (aW:List (List β)) {i:Nat} (ad:nth L i=some (.obj (.cells (cW f aW)))) (h:fP (L.set i (.obj (.cells (dM (fun l:List β=>U.slice false (l.map f)) aW)))) fun bF=>lK (oC c A fr bF m) False):lK (oC c A fr L m) R:=by
 rw [gJ] at h
 rw [ig] at ad
 obtain ⟨h|h⟩:=h
 · refine ⟨.inl ⟨fun new g n fY Q e7=>?_⟩⟩
   refine de.oE ?_ (h.h new (g.set i _) n fY Q e7)
   rw [←mem_set g ad]
   intro b ei ag
   simp only [ae.cQ] at ag
   by_cases e:b=(c.bs++new).getD i 0
   · rw [if_pos e] at ag
     obtain rfl:=Option.some.inj ag
     refine ⟨_,by rw [e];exact kp g ad, .inr ⟨_,_,rfl,rfl,?_,fun j=>?_⟩⟩
     · rw [nQ (sz:=1) (fun _=>rfl),vK,Nat.mul_one]
     · rcases Nat.lt_or_ge j aW.length with aA|aA
       · have aM:(cW f aW).getD j .aS= .slice true (aW[j].map f):=by simp [cW,List.getD_eq_getElem?_getD,aA]
         have aC:(dM (fun l:List β=>U.slice false (l.map f)) aW).getD j .aS= .slice false (aW[j].map f):=by
          rw [O3];simp [List.getD_eq_getElem?_getD,aA]
         rw [aM,aC];exact .pl rfl
       · have aM:(cW f aW).getD j .aS= .aS:=by simp [List.getD_eq_getElem?_getD,vK,aA]
         have aC:(dM (fun l:List β=>U.slice false (l.map f)) aW).getD j .aS= .aS:=by
          simp [List.getD_eq_getElem?_getD,nQ (sz:=1) (f:=fun l:List β=>U.slice false (l.map f)) (fun _=>rfl),aA]
         rw [aM,aC];exact .pl rfl
   · rw [if_neg e] at ag
     exact ⟨ei,ag, .inl rfl⟩
 · exact h.elim
end
end Go.bV
end
section
namespace Go.bV
open Go Go.ba
section
variable {P:Program} {T:hl} {b0:List Nat} {fr:bJ} {L:List bu} {m:ae} {K:cE}
theorem qm (aV:eX P T=true) (E:Nat) {d t:Nat} {e:Int} {x:Operand} {y:U} (aq:eD fr x fun a=>xo T t a fun u=>u= .aH y) (aK:y.plain.toErr E= .err E e)
 (h:K ((d, .aH (.err E e))::fr) L m):hz P b0 (some d) (.makeInterface t x) fr L m K:=⟨fun new g n ops ty pos af l kN bL aI ab=>by
 obtain ⟨v,J,aM⟩:=e0 (b0++new) aq
 obtain ⟨side,z,u,aO,al,rfl,rfl⟩:=E5 (P:=P) (L:=L) (m:=m) aV J aM
 refine bS.bO bL aO al ?_
 have:=ab _ _ _ (b0++new) (List.prefix_append _ _) g h
 refine bS.less ?_ this
 intro q w hw
 simp only [bb,Fr.get,Fr.put,den] at hw ⊢
 by_cases c:d=q
 · rw [if_pos c] at hw ⊢
   obtain rfl:=Option.some.inj hw
   refine ⟨_,rfl, .inr fun _ _ _ _ au=>?_⟩
   have aa:=toErr_rep E au
   rw [aK] at aa
   exact aa.plain
 · rw [if_neg c] at hw ⊢
   exact ⟨w,hw, .inl rfl⟩⟩
end
end Go.bV
end
section
namespace Go.bV
open Go Go.ba
def ha {α:Type}:Nat→List α→List α
 |0,a::b::r=>b::a::r
 |i+1,a::r=>a::ha i r
 |_,l=>l
def oF (i j:Nat):Nat:=bif Nat.beq j i then i+1 else bif Nat.beq j (i+1) then i else j
mutual
def lb (i:Nat):aR→aR
 | .loc j o=> .loc (oF i j) o
 | .ms j n c=> .ms (oF i j) n c
 | .mp j=> .mp (oF i j)
 | .hj j k w q=> .hj (oF i j) k w q
 | .bT j a n c=> .bT (oF i j) a n c
 | .agg l=> .agg (pz i l)
 | .dw l=> .dw (pz i l)
 | .fn f a c=> .fn f (pz i a) (pz i c)
 | .aH x=> .aH x
 | .own l=> .own l
 | .b x=> .b x
 | .off=> .off
def pz (i:Nat):List aR→List aR
 |[]=>[]
 |v::r=>lb i v::pz i r
end
def xY (i:Nat):bJ→bJ
 |[]=>[]
 |(t,v)::r=>(t,lb i v)::xY i r
def BA (i:Nat):bu→bu
 | .cells l=> .cells (pz i l)
 | .obj o=> .obj o
def rv (i:Nat):List bu→List bu
 |[]=>[]
 |o::r=>BA i o::rv i r
theorem BB {α:Type}:∀(i:Nat) (l:List α),(ha i l).length=l.length
 |0,[]=>rfl
 |0,[_]=>rfl
 |0,_::_::_=>rfl
 |i+1,[]=>rfl
 |i+1,a::r=>by simp [ha,BB i r]
theorem vL {α:Type}:∀(i:Nat) (l:List α),(ha i l).Perm l
 |0,[]=> .refl _
 |0,[_]=> .refl _
 |0,a::b::r=> .swap a b r
 |i+1,[]=> .refl _
 |i+1,a::r=>(vL i r).cons a
theorem ta:∀(i:Nat) (l:List Nat) (j:Nat),i+1<l.length→(ha i l).getD (oF i j) 0=l.getD j 0
 |0,[],_,h=>by simp at h
 |0,[_],_,h=>by simp at h
 |0,a::b::r,0,_=>rfl
 |0,a::b::r,1,_=>rfl
 |0,a::b::r,j+2,_=>rfl
 |i+1,[],_,h=>by simp at h
 |i+1,a::r,0,_=>by simp [ha,oF,Nat.beq]
 |i+1,a::r,j+1,h=>by
  have aa:=ta i r j (by simp at h;omega)
  have e:oF (i+1) (j+1)=oF i j+1:=by
   unfold oF
   have aM:Nat.beq (j+1) (i+1)=Nat.beq j i:=rfl
   have aC:Nat.beq (j+1) (i+1+1)=Nat.beq j (i+1):=rfl
   rw [aM,aC]
   cases Nat.beq j i<;>cases Nat.beq j (i+1)<;>rfl
  rw [e];simpa [ha] using aa
theorem Gh {α:Type}:∀(k i:Nat) (l:List α),k≤i→(ha i l).take k=l.take k
 |0,_,_,_=>by simp
 |k+1,0,_,h=>by omega
 |k+1,i+1,[],_=>rfl
 |k+1,i+1,a::r,h=>by simp [ha,Gh k i r (by omega)]
theorem Gi {α β:Type}:∀(i:Nat) (l:List α) (k:List β),l.length=k.length→(ha i l).zip (ha i k)=ha i (l.zip k)
 |0,[],[],_=>rfl
 |0,[_],[_],_=>rfl
 |0,_::_::_,_::_::_,_=>rfl
 |i+1,[],[],_=>rfl
 |i+1,a::r,b::s,h=>by simp [ha,Gi i r s (by simpa using h)]
 |0,[],_::_,h=>by simp at h
 |0,_::_,[],h=>by simp at h
 |0,[_],_::_::_,h=>by simp at h
 |0,_::_::_,[_],h=>by simp at h
 |i+1,[],_::_,h=>by simp at h
 |i+1,_::_,[],h=>by simp at h
mutual
theorem Gj {bs:List Nat} {i:Nat} (h:i+1<bs.length):∀v:aR,den (ha i bs) (lb i v)=den bs v
 | .loc j o=>by simp only [lb,den,ta i bs j h]
 | .ms j n c=>by simp only [lb,den,ta i bs j h]
 | .mp j=>by simp only [lb,den,ta i bs j h]
 | .hj j k w q=>by simp only [lb,den,ta i bs j h]
 | .bT j a n c=>by simp only [lb,den,ta i bs j h]
 | .agg l=>by simp only [lb,den,tc h l]
 | .dw l=>by simp only [lb,den,tc h l]
 | .fn f a c=>by simp only [lb,den,tc h a,tc h c]
 | .aH x=>by simp only [lb,den]
 | .own l=>by simp only [lb,den]
 | .b x=>by simp only [lb,den]
 | .off=>by simp only [lb,den]
theorem tc {bs:List Nat} {i:Nat} (h:i+1<bs.length):∀l:List aR,bm (ha i bs) (pz i l)=bm bs l
 |[]=>by simp only [pz,bm]
 |v::r=>by simp only [pz,bm,Gj h v,tc h r]
end
theorem Gk {bs:List Nat} {i:Nat} (h:i+1<bs.length):∀fr:bJ,bb (ha i bs) (xY i fr)=bb bs fr
 |[]=>rfl
 |(t,v)::r=>by simp only [xY,bb,Gj h v,Gk h r]
theorem BC {bs:List Nat} {i:Nat} (h:i+1<bs.length):∀L:List bu,(rv i L).map (dV (ha i bs))=L.map (dV bs)
 |[]=>rfl
 | .cells l::r=>by simp only [rv,BA,List.map_cons,dV,tc h l,BC h r]
 | .obj o::r=>by simp only [rv,BA,List.map_cons,dV,BC h r]
theorem Gl (i:Nat):∀L:List bu,(rv i L).length=L.length
 |[]=>rfl
 |_::r=>by simp only [rv,List.length_cons,Gl i r]
theorem Gm {α β:Type} (f:α→β):∀(i:Nat) (l:List α),(ha i l).map f=ha i (l.map f)
 |0,[]=>rfl
 |0,[_]=>rfl
 |0,_::_::_=>rfl
 |i+1,[]=>rfl
 |i+1,a::r=>by simp [ha,Gm f i r]
section
variable {fr:bJ} {L:List bu} {m:ae}
theorem xZ {c:fy} {A:cE} {R:Prop} (i:Nat) (aZ:bJ) (bF:List bu) (ad:(Nat.ble (i+2) L.length&&Nat.ble c.bs.length i)=true) (aN:xY i fr=aZ) (j7:ha i (rv i L)=bF)
 (h:lK (oC c A aZ bF m) False):lK (oC c A fr L m) R:=by
 simp only [Bool.and_eq_true] at ad
 have J:=Nat.le_of_ble_eq_true ad.1
 have aa:=Nat.le_of_ble_eq_true ad.2
 obtain ⟨h|h⟩:=h
 · refine ⟨.inl ⟨fun new g n fY Q e7=>?_⟩⟩
   have vF:=g.len
   generalize cd:c.bs++new=B at g vF
   have cl:i+1<B.length:=by omega
   have Bm:(ha i B).take c.bs.length=c.bs:=by
    rw [Gh _ _ _ aa,←cd,List.take_left]
   have mU:ha i B=c.bs++(ha i B).drop c.bs.length:=by
    have:=List.take_append_drop c.bs.length (ha i B)
    rw [Bm] at this;exact this.symm
   have dr:Good (ha i B) bF m:=by
    refine ⟨(vL i B).nodup_iff.2 g.bN,?_,fun b ag=>g.fresh b ((vL i B).mem_iff.1 ag)⟩
    rw [←j7,BB,BB,Gl];exact vF
   have hm:bH (ha i B) bF m=bH B L m:=by
    have e:hk (ha i B) bF=ha i (hk B L):=by
     rw [←j7,hk,Gm,BC cl,Gi _ _ _ (by simp [vF])];rfl
    rw [bH,bH,e]
    refine zY ?_ (vL i _)
    rw [((vL i (hk B L)).map Prod.fst).nodup_iff];exact g.nodup
   have:=h.h ((ha i B).drop c.bs.length) (by rw [←mU];exact dr) n fY Q e7
   rw [←mU,hm,←aN,Gk cl] at this
   exact this
 · exact h.elim
end
end Go.bV
end
section
namespace Go.bV
open Go Go.ba
theorem Gn {new:List Nat} {o:bu} {m:ae} (g:Good new [o] m):∃b,new=[b]∧m b=none:=by
 have av:=g.len
 match new,av with
 |[b],_=>exact ⟨b,rfl,g.fresh b (by simp)⟩
section
variable {P:Program} {b0:List Nat} {fr:bJ} {L:List bu} {m:ae}
theorem Gp {c:fy} {A:cE} {R:Prop} (E:Nat) {a j:Nat} {dK:List aR} (aX:nth L a=some (.cells dK)) (aA:nth dK j=some (.aH .nilIface))
 (h:lK (oC c A fr (L.set a (.cells (dK.set j (.aH (.err E 0))))) m) False):lK (oC c A fr L m) R:=by
 rw [ig] at aX aA
 obtain ⟨h|h⟩:=h
 · refine ⟨.inl ⟨fun new g n fY Q e7=>?_⟩⟩
   refine de.oE ?_ (h.h new (g.set a _) n fY Q e7)
   rw [←mem_set g aX]
   intro b ei ag
   simp only [ae.cQ] at ag
   by_cases e:b=(c.bs++new).getD a 0
   · rw [if_pos e] at ag
     obtain rfl:=Option.some.inj ag
     refine ⟨_,by rw [e];exact kp g aX, .inr ⟨_,_,rfl,rfl,?_,fun k=>?_⟩⟩
     · rw [ju,ju,List.length_set]
     · rw [Bl]
       by_cases ak:k=j
       · subst ak
         have J:=(qa (bs:=c.bs++new) (n:=k) (l:=dK) (v:= .aH .nilIface) (by rw [ig];exact aA)).1
         have cl:k<(bm (c.bs++new) dK).length:=by
          rw [ju]
          rcases Nat.lt_or_ge k dK.length with h|h
          · exact h
          · rw [List.getElem?_eq_none h] at aA;cases aA
         rw [J]
         have aa:((bm (c.bs++new) dK).set k (den (c.bs++new) (.aH (.err E 0)))).getD k .aS= .err E 0:=by
          simp [List.getD_eq_getElem?_getD,cl,den,U.plain]
         rw [aa]
         refine .inr fun _ _ _ _ au=>?_
         have ai:=toErr_rep E au
         simp only [den,U.plain,U.toErr] at ai
         exact ai.plain
       · have:((bm (c.bs++new) dK).set j (den (c.bs++new) (.aH (.err E 0)))).getD k .aS=(bm (c.bs++new) dK).getD k .aS:=by
          rw [List.getD_eq_getElem?_getD,List.getD_eq_getElem?_getD,List.getElem?_set_ne (Ne.symm ak)]
         rw [this];exact .inl rfl
   · rw [if_neg e] at ag
     exact ⟨ei,ag, .inl rfl⟩
 · exact h.elim
theorem Gq {f:FuncId} {vs:List aR} {Q:aR→List bu→ae→Prop} (E:Nat) (o:bu) (X:fB) (aL:∀bs,dV bs o=X) (al:(nc L.length fr&&kP L.length L)=true)
 (h:∀bs (aF:ae),bs.length=L.length→(∀b o,m b=some o→aF b=some o)→∀(K:U→ae→Prop),(∀b,aF b=none→K (.tuple [.ptr ⟨b,0,none⟩, .err E 0]) (aF.cQ b (some X)))→bg P f (bm bs vs) aF K)
 (e7:Q (.dw [.loc L.length 0, .aH (.err E 0)]) (L++[o]) m):nf P b0 f vs fr L m Q:=
 OV (σ:=Unit) (fun _=>True) (fun _=>o) (fun _=> .dw [.loc L.length 0, .aH (.err E 0)]) al (fun bs aF av ag K ab=>h bs aF av ag K fun b Bz=>by
  have:=ab () b trivial Bz
  simp only [den,bm,OW av,aL,U.plain] at this
  exact this) fun _ _=>e7
end
end Go.bV
end
section
namespace Go.bV
open Go Go.ba
theorem Gr {α:Type} {f:α→U} (aN:∀a,(f a).cells=[f a]):∀l:List α,dM f l=l.map f
 |[]=>rfl
 |a::l=>by rw [sw,aN,Gr aN l];rfl
section
variable {P:Program} {T:hl} {b0:List Nat} {fr:bJ} {L:List bu} {m:ae} {K:cE}
theorem Gs (aV:eX P T=true) {α:Type} (f:α→U) (z:α) (k:Int) {d t e:Nat} {x y:Operand} (aB:da T t fun dp=>dp.k= .bT e) (he:da T e fun e8=>e8.n=1) (aq:eD fr x fun v=>v= .aH (.int .i64 k)) (aK:eD fr y fun v=>v= .aH (.int .i64 k)) (ao:hy P e=some (f z)) (aN:∀a,(f a).cells=[f a])
 (mX:(f z).dy=true) (aG:0≤k) (ag:k*P.bytesOf e≤140737488355328) (ak:k≤140737488355328) (al:(nc L.length fr&&kP L.length L)=true)
 (h:K ((d, .ms L.length k.toNat k.toNat)::fr) (L++[.obj (.cells (dM f (List.replicate k.toNat z)))]) m):hz P b0 (some d) (.makeSlice t x y) fr L m K:=
 By aV f z k aB he aq aK ao (aN z) mX aG ag ak al (by rw [←Gr aN];exact h)
end
end Go.bV
end
section
namespace Go.Proofs
open Go Go.ba
theorem Tryz.mixed:Tryz.prog.follows .mixedOrders=true:=by kernel_rfl
end Go.Proofs
end
section
namespace Go.Proofs
open Go.Shelf
def Tryz.O6:Go.Shelf.Ren:=⟨fun|137=>175|217=>213|266=>232|n=>n,fun|9=>9|5=>5|3=>3|n=>n,fun|n=>n⟩
theorem Tryz.O7:Go.Proofs.Lays.n137 Tryz.prog Tryz.O6:={
 mixed:=by kernel_rfl
 f137:=Tryz.func175.trans (congrArg some (by kernel_rfl))
 f217:=Tryz.func213.trans (congrArg some (by kernel_rfl))
 f266:=Tryz.func232.trans (congrArg some (by kernel_rfl))
 t3:=Tryz.underlying3
 a3:=Tryz.isAgg3
 z3:=Tryz.sizeOf3
 v3:=Tryz.zeroValue3
 t5:=Tryz.underlying5
 a5:=Tryz.isAgg5
 z5:=Tryz.sizeOf5
 v5:=Tryz.zeroValue5
 t9:=Tryz.underlying9
 a9:=Tryz.isAgg9
 z9:=Tryz.sizeOf9
 v9:=Tryz.zeroValue9}
open Go.RowKit in
theorem Tryz.strings_IndexByte (s:ByteArray) (c:Int) (w:World):
 Calls Tryz.prog 175 #[.string s, .int .u8 c] w fun e w'=>e= .returned (.int .i64 (Lib.indexByte s.data.toList c.toNat.toUInt8))∧w'=w:=Any.strings_IndexByte Tryz.O7 s c w
def Tryz.O8:Go.Shelf.Ren:=⟨fun|172=>170|244=>210|245=>211|247=>227|279=>228|280=>229|281=>230|282=>231|287=>239|316=>240|171=>86|205=>241|321=>243|322=>244|243=>157|246=>199|283=>200|284=>201|285=>202|286=>203|129=>219|317=>218|318=>220|319=>221|320=>222|337=>233|338=>234|n=>n,fun|9=>9|3=>3|75=>34|76=>159|4=>4|5=>5|167=>287|37=>110|0=>0|85=>288|2=>2|168=>290|53=>173|175=>294|46=>246|210=>297|127=>205|145=>308|143=>306|21=>21|171=>263|173=>266|212=>281|51=>268|20=>20|213=>282|232=>299|233=>300|80=>114|n=>n,fun|15=>2|16=>3|17=>1|18=>4|19=>5|n=>n⟩
theorem Tryz.O9:Go.Proofs.Lays.n172 Tryz.prog Tryz.O8:={
 mixed:=by kernel_rfl
 f129:=Tryz.func219.trans (congrArg some (by kernel_rfl))
 f171:=Tryz.func86.trans (congrArg some (by kernel_rfl))
 f172:=Tryz.func170.trans (congrArg some (by kernel_rfl))
 f205:=Tryz.func241.trans (congrArg some (by kernel_rfl))
 f243:=Tryz.func157.trans (congrArg some (by kernel_rfl))
 f244:=Tryz.func210.trans (congrArg some (by kernel_rfl))
 f245:=Tryz.func211.trans (congrArg some (by kernel_rfl))
 f246:=Tryz.func199.trans (congrArg some (by kernel_rfl))
 f247:=Tryz.func227.trans (congrArg some (by kernel_rfl))
 f279:=Tryz.func228.trans (congrArg some (by kernel_rfl))
 f280:=Tryz.func229.trans (congrArg some (by kernel_rfl))
 f281:=Tryz.func230.trans (congrArg some (by kernel_rfl))
 f282:=Tryz.func231.trans (congrArg some (by kernel_rfl))
 f283:=Tryz.func200.trans (congrArg some (by kernel_rfl))
 f284:=Tryz.func201.trans (congrArg some (by kernel_rfl))
 f285:=Tryz.func202.trans (congrArg some (by kernel_rfl))
 f286:=Tryz.func203.trans (congrArg some (by kernel_rfl))
 f287:=Tryz.func239.trans (congrArg some (by kernel_rfl))
 f316:=Tryz.func240.trans (congrArg some (by kernel_rfl))
 f317:=Tryz.func218.trans (congrArg some (by kernel_rfl))
 f318:=Tryz.func220.trans (congrArg some (by kernel_rfl))
 f319:=Tryz.func221.trans (congrArg some (by kernel_rfl))
 f320:=Tryz.func222.trans (congrArg some (by kernel_rfl))
 f321:=Tryz.func243.trans (congrArg some (by kernel_rfl))
 f322:=Tryz.func244.trans (congrArg some (by kernel_rfl))
 f337:=Tryz.func233.trans (congrArg some (by kernel_rfl))
 f338:=Tryz.func234.trans (congrArg some (by kernel_rfl))
 t0:=Tryz.underlying0
 a0:=Tryz.isAgg0
 z0:=Tryz.sizeOf0
 v0:=Tryz.zeroValue0
 t2:=Tryz.underlying2
 a2:=Tryz.isAgg2
 z2:=Tryz.sizeOf2
 v2:=Tryz.zeroValue2
 t3:=Tryz.underlying3
 a3:=Tryz.isAgg3
 z3:=Tryz.sizeOf3
 v3:=Tryz.zeroValue3
 t4:=Tryz.underlying4
 a4:=Tryz.isAgg4
 z4:=Tryz.sizeOf4
 v4:=Tryz.zeroValue4
 t5:=Tryz.underlying5
 a5:=Tryz.isAgg5
 z5:=Tryz.sizeOf5
 v5:=Tryz.zeroValue5
 t9:=Tryz.underlying9
 a9:=Tryz.isAgg9
 z9:=Tryz.sizeOf9
 v9:=Tryz.zeroValue9
 t20:=Tryz.underlying20
 a20:=Tryz.isAgg20
 z20:=Tryz.sizeOf20
 v20:=Tryz.zeroValue20
 t21:=Tryz.underlying21
 a21:=Tryz.isAgg21
 z21:=Tryz.sizeOf21
 v21:=Tryz.zeroValue21
 t37:=Tryz.underlying110
 a37:=Tryz.isAgg110
 z37:=Tryz.sizeOf110
 v37:=Tryz.zeroValue110
 t46:=Tryz.underlying246
 a46:=Tryz.isAgg246
 z46:=Tryz.sizeOf246
 v46:=Tryz.zeroValue246
 t51:=Tryz.underlying268
 a51:=Tryz.isAgg268
 z51:=Tryz.sizeOf268
 v51:=Tryz.zeroValue268
 t53:=Tryz.underlying173
 a53:=Tryz.isAgg173
 z53:=Tryz.sizeOf173
 v53:=Tryz.zeroValue173
 t75:=Tryz.underlying34
 a75:=Tryz.isAgg34
 z75:=Tryz.sizeOf34
 v75:=Tryz.zeroValue34
 t76:=Tryz.underlying159
 a76:=Tryz.isAgg159
 z76:=Tryz.sizeOf159
 v76:=Tryz.zeroValue159
 t85:=Tryz.underlying288
 a85:=Tryz.isAgg288
 z85:=Tryz.sizeOf288
 v85:=Tryz.zeroValue288
 t127:=Tryz.underlying205
 a127:=Tryz.isAgg205
 z127:=Tryz.sizeOf205
 v127:=Tryz.zeroValue205
 t143:=Tryz.underlying306
 a143:=Tryz.isAgg306
 z143:=Tryz.sizeOf306
 v143:=Tryz.zeroValue306
 t145:=Tryz.underlying308
 a145:=Tryz.isAgg308
 z145:=Tryz.sizeOf308
 v145:=Tryz.zeroValue308
 t167:=Tryz.underlying287
 a167:=Tryz.isAgg287
 z167:=Tryz.sizeOf287
 v167:=Tryz.zeroValue287
 t168:=Tryz.underlying290
 a168:=Tryz.isAgg290
 z168:=Tryz.sizeOf290
 v168:=Tryz.zeroValue290
 t171:=Tryz.underlying263
 a171:=Tryz.isAgg263
 z171:=Tryz.sizeOf263
 v171:=Tryz.zeroValue263
 t173:=Tryz.underlying266
 a173:=Tryz.isAgg266
 z173:=Tryz.sizeOf266
 v173:=Tryz.zeroValue266
 t175:=Tryz.underlying294
 a175:=Tryz.isAgg294
 z175:=Tryz.sizeOf294
 v175:=Tryz.zeroValue294
 t210:=Tryz.underlying297
 a210:=Tryz.isAgg297
 z210:=Tryz.sizeOf297
 v210:=Tryz.zeroValue297
 t212:=Tryz.underlying281
 a212:=Tryz.isAgg281
 z212:=Tryz.sizeOf281
 v212:=Tryz.zeroValue281
 t213:=Tryz.underlying282
 a213:=Tryz.isAgg282
 z213:=Tryz.sizeOf282
 t232:=Tryz.underlying299
 a232:=Tryz.isAgg299
 z232:=Tryz.sizeOf299
 v232:=Tryz.zeroValue299
 t233:=Tryz.underlying300
 a233:=Tryz.isAgg300
 z233:=Tryz.sizeOf300
 v233:=Tryz.zeroValue300
 g15:=by kernel_rfl
 g16:=by kernel_rfl
 g17:=by kernel_rfl
 g18:=by kernel_rfl
 g19:=by kernel_rfl}
open Go.RowKit in
theorem Tryz.strconv_Atoi (s:ByteArray) (n:Int) (av:s.size≤18) (h:Lib.atoi s.data.toList=some n) (w:World):
 Calls Tryz.prog 170 #[.string s] w fun e w'=>e= .returned (.tuple #[.int .i64 n, .nilIface])∧∃t,w'=Lib.bytesWorld w 5 t:=Any.strconv_Atoi Tryz.O9 s n av h w
open Go.RowKit Go.Sort Go.Lib in
def Tryz.Pa:Go.Shelf.Ren:=⟨fun|172=>170|244=>210|245=>211|247=>227|279=>228|280=>229|281=>230|282=>231|287=>239|316=>240|171=>86|205=>241|321=>243|322=>244|243=>157|246=>199|283=>200|284=>201|285=>202|286=>203|129=>219|317=>218|318=>220|319=>221|320=>222|337=>233|338=>234|n=>n,fun|9=>9|3=>3|75=>34|76=>159|4=>4|5=>5|167=>287|37=>110|0=>0|85=>288|2=>2|168=>290|53=>173|175=>294|46=>246|210=>297|127=>205|145=>308|143=>306|21=>21|171=>263|173=>266|212=>281|51=>268|20=>20|213=>282|232=>299|233=>300|80=>114|n=>n,fun|15=>2|16=>3|17=>1|18=>4|19=>5|n=>n⟩
theorem Tryz.Pb:Go.Proofs.LaysC.n172 Tryz.prog Tryz.Pa:={
 mixed:=by kernel_rfl
 f129:=Tryz.func219.trans (congrArg some (by kernel_rfl))
 f171:=Tryz.func86.trans (congrArg some (by kernel_rfl))
 f172:=Tryz.func170.trans (congrArg some (by kernel_rfl))
 f205:=Tryz.func241.trans (congrArg some (by kernel_rfl))
 f243:=Tryz.func157.trans (congrArg some (by kernel_rfl))
 f244:=Tryz.func210.trans (congrArg some (by kernel_rfl))
 f245:=Tryz.func211.trans (congrArg some (by kernel_rfl))
 f246:=Tryz.func199.trans (congrArg some (by kernel_rfl))
 f247:=Tryz.func227.trans (congrArg some (by kernel_rfl))
 f279:=Tryz.func228.trans (congrArg some (by kernel_rfl))
 f280:=Tryz.func229.trans (congrArg some (by kernel_rfl))
 f281:=Tryz.func230.trans (congrArg some (by kernel_rfl))
 f282:=Tryz.func231.trans (congrArg some (by kernel_rfl))
 f283:=Tryz.func200.trans (congrArg some (by kernel_rfl))
 f284:=Tryz.func201.trans (congrArg some (by kernel_rfl))
 f285:=Tryz.func202.trans (congrArg some (by kernel_rfl))
 f286:=Tryz.func203.trans (congrArg some (by kernel_rfl))
 f287:=Tryz.func239.trans (congrArg some (by kernel_rfl))
 f316:=Tryz.func240.trans (congrArg some (by kernel_rfl))
 f317:=Tryz.func218.trans (congrArg some (by kernel_rfl))
 f318:=Tryz.func220.trans (congrArg some (by kernel_rfl))
 f319:=Tryz.func221.trans (congrArg some (by kernel_rfl))
 f320:=Tryz.func222.trans (congrArg some (by kernel_rfl))
 f321:=Tryz.func243.trans (congrArg some (by kernel_rfl))
 f322:=Tryz.func244.trans (congrArg some (by kernel_rfl))
 f337:=Tryz.func233.trans (congrArg some (by kernel_rfl))
 f338:=Tryz.func234.trans (congrArg some (by kernel_rfl))
 t0:=Tryz.underlying0
 a0:=Tryz.isAgg0
 z0:=Tryz.sizeOf0
 v0:=Tryz.zeroValue0
 t2:=Tryz.underlying2
 a2:=Tryz.isAgg2
 z2:=Tryz.sizeOf2
 v2:=Tryz.zeroValue2
 t3:=Tryz.underlying3
 a3:=Tryz.isAgg3
 z3:=Tryz.sizeOf3
 v3:=Tryz.zeroValue3
 t4:=Tryz.underlying4
 a4:=Tryz.isAgg4
 z4:=Tryz.sizeOf4
 v4:=Tryz.zeroValue4
 t5:=Tryz.underlying5
 a5:=Tryz.isAgg5
 z5:=Tryz.sizeOf5
 v5:=Tryz.zeroValue5
 t9:=Tryz.underlying9
 a9:=Tryz.isAgg9
 z9:=Tryz.sizeOf9
 v9:=Tryz.zeroValue9
 t20:=Tryz.underlying20
 a20:=Tryz.isAgg20
 z20:=Tryz.sizeOf20
 v20:=Tryz.zeroValue20
 t21:=Tryz.underlying21
 a21:=Tryz.isAgg21
 z21:=Tryz.sizeOf21
 v21:=Tryz.zeroValue21
 t37:=Tryz.underlying110
 a37:=Tryz.isAgg110
 z37:=Tryz.sizeOf110
 v37:=Tryz.zeroValue110
 t46:=Tryz.underlying246
 a46:=Tryz.isAgg246
 z46:=Tryz.sizeOf246
 v46:=Tryz.zeroValue246
 t51:=Tryz.underlying268
 a51:=Tryz.isAgg268
 z51:=Tryz.sizeOf268
 v51:=Tryz.zeroValue268
 t53:=Tryz.underlying173
 a53:=Tryz.isAgg173
 z53:=Tryz.sizeOf173
 v53:=Tryz.zeroValue173
 t75:=Tryz.underlying34
 a75:=Tryz.isAgg34
 z75:=Tryz.sizeOf34
 v75:=Tryz.zeroValue34
 t76:=Tryz.underlying159
 a76:=Tryz.isAgg159
 z76:=Tryz.sizeOf159
 v76:=Tryz.zeroValue159
 t85:=Tryz.underlying288
 a85:=Tryz.isAgg288
 z85:=Tryz.sizeOf288
 v85:=Tryz.zeroValue288
 t127:=Tryz.underlying205
 a127:=Tryz.isAgg205
 z127:=Tryz.sizeOf205
 v127:=Tryz.zeroValue205
 t143:=Tryz.underlying306
 a143:=Tryz.isAgg306
 z143:=Tryz.sizeOf306
 v143:=Tryz.zeroValue306
 t145:=Tryz.underlying308
 a145:=Tryz.isAgg308
 z145:=Tryz.sizeOf308
 v145:=Tryz.zeroValue308
 t167:=Tryz.underlying287
 a167:=Tryz.isAgg287
 z167:=Tryz.sizeOf287
 v167:=Tryz.zeroValue287
 t168:=Tryz.underlying290
 a168:=Tryz.isAgg290
 z168:=Tryz.sizeOf290
 v168:=Tryz.zeroValue290
 t171:=Tryz.underlying263
 a171:=Tryz.isAgg263
 z171:=Tryz.sizeOf263
 v171:=Tryz.zeroValue263
 t173:=Tryz.underlying266
 a173:=Tryz.isAgg266
 z173:=Tryz.sizeOf266
 v173:=Tryz.zeroValue266
 t175:=Tryz.underlying294
 a175:=Tryz.isAgg294
 z175:=Tryz.sizeOf294
 v175:=Tryz.zeroValue294
 t210:=Tryz.underlying297
 a210:=Tryz.isAgg297
 z210:=Tryz.sizeOf297
 v210:=Tryz.zeroValue297
 t212:=Tryz.underlying281
 a212:=Tryz.isAgg281
 z212:=Tryz.sizeOf281
 v212:=Tryz.zeroValue281
 t213:=Tryz.underlying282
 a213:=Tryz.isAgg282
 z213:=Tryz.sizeOf282
 t232:=Tryz.underlying299
 a232:=Tryz.isAgg299
 z232:=Tryz.sizeOf299
 v232:=Tryz.zeroValue299
 t233:=Tryz.underlying300
 a233:=Tryz.isAgg300
 z233:=Tryz.sizeOf300
 v233:=Tryz.zeroValue300
 g15:=by kernel_rfl
 g16:=by kernel_rfl
 g17:=by kernel_rfl
 g18:=by kernel_rfl
 g19:=by kernel_rfl
 t80:=Tryz.underlying114
 a80:=Tryz.isAgg114
 z80:=Tryz.sizeOf114
 v80:=Tryz.zeroValue114
 i0:=by kernel_rfl
 i2:=by kernel_rfl
 i3:=by kernel_rfl
 i4:=by kernel_rfl
 i5:=by kernel_rfl
 i9:=by kernel_rfl
 i20:=by kernel_rfl
 i21:=by kernel_rfl
 i37:=by kernel_rfl
 i46:=by kernel_rfl
 i51:=by kernel_rfl
 i53:=by kernel_rfl
 i75:=by kernel_rfl
 i76:=by kernel_rfl
 i80:=by kernel_rfl
 i85:=by kernel_rfl
 i127:=by kernel_rfl
 i143:=by kernel_rfl
 i145:=by kernel_rfl
 i167:=by kernel_rfl
 i168:=by kernel_rfl
 i171:=by kernel_rfl
 i173:=by kernel_rfl
 i175:=by kernel_rfl
 i210:=by kernel_rfl
 i212:=by kernel_rfl
 i232:=by kernel_rfl
 i233:=by kernel_rfl
 m15:=by kernel_rfl
 m16:=by kernel_rfl
 m17:=by kernel_rfl
 m18:=by kernel_rfl
 m19:=by kernel_rfl
 c0:=by kernel_rfl
 c2:=by kernel_rfl
 c3:=by kernel_rfl
 c4:=by kernel_rfl
 c5:=by kernel_rfl
 c9:=by kernel_rfl
 c20:=by kernel_rfl
 c21:=by kernel_rfl
 c37:=by kernel_rfl
 c46:=by kernel_rfl
 c51:=by kernel_rfl
 c53:=by kernel_rfl
 c75:=by kernel_rfl
 c76:=by kernel_rfl
 c80:=by kernel_rfl
 c85:=by kernel_rfl
 c127:=by kernel_rfl
 c143:=by kernel_rfl
 c145:=by kernel_rfl
 c167:=by kernel_rfl
 c168:=by kernel_rfl
 c171:=by kernel_rfl
 c173:=by kernel_rfl
 c175:=by kernel_rfl
 c210:=by kernel_rfl
 c212:=by kernel_rfl
 c213:=by kernel_rfl
 c232:=by kernel_rfl
 c233:=by kernel_rfl}
open Go.RowKit in
theorem Tryz.strconv_Atoi_err (s:ByteArray) (av:s.size≤18) (h:Lib.atoi s.data.toList=none) (kb:Value) (w:World) (bn:w.cell? ⟨2,0,none⟩=some kb) (o8:kb= .nilIface∨∃Bs Bt,kb= .iface Bs Bt):
 Calls Tryz.prog 170 #[.string s] w fun e w'=>∃N,e= .returned (.tuple #[.int .i64 0, .iface 290 (.pointer (some ⟨N,0,none⟩))])∧w.heap.size≤N∧w'.heap[N]?=some (.cells #[.string ⟨#[65,116,111,105]⟩, .string s,kb] 297 (0,0))∧Below w.heap.size w w':=Any.strconv_Atoi_err Tryz.Pb s av h kb w bn o8
def Tryz.Pc:Go.Shelf.Ren:=⟨fun|99=>174|206=>212|n=>n,fun|9=>9|4=>4|3=>3|n=>n,fun|n=>n⟩
theorem Tryz.Pd:Go.Proofs.Lays.n99 Tryz.prog Tryz.Pc:={
 mixed:=by kernel_rfl
 f99:=Tryz.func174.trans (congrArg some (by kernel_rfl))
 f206:=Tryz.func212.trans (congrArg some (by kernel_rfl))
 t3:=Tryz.underlying3
 a3:=Tryz.isAgg3
 z3:=Tryz.sizeOf3
 v3:=Tryz.zeroValue3
 t4:=Tryz.underlying4
 a4:=Tryz.isAgg4
 z4:=Tryz.sizeOf4
 v4:=Tryz.zeroValue4
 t9:=Tryz.underlying9
 a9:=Tryz.isAgg9
 z9:=Tryz.sizeOf9
 v9:=Tryz.zeroValue9}
open Go.RowKit Go.Lib in
theorem Tryz.strings_HasPrefix (s p:ByteArray) (w:World):
 Calls Tryz.prog 174 #[.string s, .string p] w fun e w'=>e= .returned (.bool (Lib.hasPrefix s.data.toList p.data.toList))∧w'=w:=Any.strings_HasPrefix Tryz.Pd s p w
end Go.Proofs
end
section
namespace Go.Proofs
open Go Go.ba Go.bV
def tb:hl:=[(3,⟨.int .i64,1,8,[.i .i64]⟩),
 (9,⟨.str,1,16,[.s]⟩),
 (25,⟨.st [(0,3),(1,3),(2,9),(3,22),(4,23)],5,80,[.i .i64, .i .i64, .s, .l, .l]⟩),
 (29,⟨.st [(0,3),(1,25),(6,9),(7,9),(8,26),(9,27)],10,168,[.i .i64, .i .i64, .i .i64, .s, .l, .l, .s, .s, .l, .l]⟩),
 (78,⟨.st [(0,3),(1,75),(2,76),(3,23)],4,80,[.i .i64, .l, .l, .l]⟩),
 (62,⟨.st [(0,9),(1,58),(2,59),(3,60)],4,88,[.s, .l, .l, .l]⟩),
 (23,⟨.bT 168,1,24,[.l]⟩),
 (26,⟨.bT 29,1,24,[.l]⟩),
 (27,⟨.bT 9,1,24,[.l]⟩),
 (5,⟨.int .u8,1,1,[.i .u8]⟩),
 (142,⟨.st [(0,9),(1,9),(2,140)],3,56,[.s, .s, .l]⟩),
 (165,⟨.st [(0,9),(1,9),(2,3),(3,25)],8,120,[.s, .s, .i .i64, .i .i64, .i .i64, .s, .l, .l]⟩),
 (22,⟨.bT 25,1,24,[.l]⟩),
 (168,⟨.st [(0,9),(1,25)],6,96,[.s, .i .i64, .i .i64, .s, .l, .l]⟩),
 (60,⟨.bT 145,1,24,[.l]⟩),
 (58,⟨.bT 138,1,24,[.l]⟩),
 (59,⟨.bT 142,1,24,[.l]⟩),
 (47,⟨.bT 62,1,24,[.l]⟩),
 (140,⟨.bT 144,1,24,[.l]⟩),
 (76,⟨.bT 167,1,24,[.l]⟩),
 (110,⟨.bT 5,1,24,[.l]⟩),
 (75,⟨.bT 165,1,24,[.l]⟩),
 (34,⟨.kQ,1,16,[.n]⟩),
 (115,⟨.int .i64,1,8,[.i .i64]⟩),
 (51,⟨.st [(0,47),(1,49),(2,49)],3,72,[.l, .l, .l]⟩),
 (49,⟨.bT 136,1,24,[.l]⟩),
 (136,⟨.bT 3,1,24,[.l]⟩),
 (145,⟨.st [(0,9),(1,29)],11,184,[.s, .i .i64, .i .i64, .i .i64, .s, .l, .l, .s, .s, .l, .l]⟩),
 (138,⟨.st [(0,9),(1,25)],6,96,[.s, .i .i64, .i .i64, .s, .l, .l]⟩),
 (167,⟨.st [(0,3),(1,165),(9,9)],10,144,[.i .i64, .s, .s, .i .i64, .i .i64, .i .i64, .s, .l, .l, .s]⟩),
 (144,⟨.st [(0,9),(1,29)],11,184,[.s, .i .i64, .i .i64, .i .i64, .s, .l, .l, .s, .s, .l, .l]⟩),
 (122,⟨.bT 209,1,24,[.l]⟩),
 (127,⟨.st [(0,122),(1,3),(2,3),(3,34),(4,3)],5,64,[.l, .i .i64, .i .i64, .n, .i .i64]⟩),
 (134,⟨.st [(0,122),(1,3),(2,3),(3,3),(4,3)],5,56,[.l, .i .i64, .i .i64, .i .i64, .i .i64]⟩),
 (173,⟨.int .u64,1,8,[.i .u64]⟩),
 (112,⟨.st [(0,109),(1,110)],2,32,[]⟩),
 (202,⟨.st [(0,9),(1,9),(2,9),(3,3)],4,56,[.s, .s, .s, .i .i64]⟩),
 (178,⟨.mp 9 9,1,8,[.m]⟩),
 (84,⟨.ptr,1,8,[.p]⟩),
 (109,⟨.ptr,1,8,[.p]⟩),
 (150,⟨.st [(0,51)],3,72,[.l, .l, .l]⟩),
 (209,⟨.st [(0,3),(1,3),(2,9)],3,32,[.i .i64, .i .i64, .s]⟩),
 (4,⟨.bool,1,1,[.b]⟩),
 (276,⟨.st [(0,49)],1,24,[.l]⟩),
 (185,⟨.bT 184,1,24,[.l]⟩),
 (181,⟨.st [(0,178),(1,178),(2,179),(3,3),(4,4),(5,3)],6,64,[.m, .m, .l, .i .i64, .b, .i .i64]⟩),
 (204,⟨.mp 3 9,1,8,[.m]⟩),
 (184,⟨.ET,1,8,[.f]⟩),
 (205,⟨.ptr,1,8,[.p]⟩),
 (179,⟨.bT 202,1,24,[.l]⟩)]
theorem b9:eX Tryz.prog tb=true:=by decide+kernel
end Go.Proofs
end
section
namespace Go.Proofs
open Go Go.ba Go.bV
set_option maxRecDepth 100000
abbrev aD:=List UInt8
noncomputable def cX (w st re xs cv bs:List Nat):fy:=⟨Tryz.prog,tb,115,w,st,re,xs,cv,bs⟩
theorem gz {α:Type} [Inhabited α] {l:List α} {i:Int} (aG:0≤i) (ad:i<l.length):l.take (i+1).toNat=l.take i.toNat++[I l i]:=by
 have e:(i+1).toNat=i.toNat+1:=by omega
 have aI:i.toNat<l.length:=by omega
 rw [e,List.take_succ_eq_append_getElem aI]
 simp [I,List.getD_eq_getElem?_getD,aI]
theorem cb {α:Type} [Inhabited α] {l:List α} {i:Int} (aG:0≤i) (ad:i<l.length):I l i∈l:=by
 simp only [I,List.getD_eq_getElem?_getD,List.getElem?_eq_getElem (show i.toNat<l.length by omega),Option.getD_some]
 exact List.getElem_mem _
theorem fm {α:Type} {l:List α} {i:Int} (ad:l.length≤i):l.take i.toNat=l:=List.take_of_length_le (by omega)
inductive a7 where
 |mk (kind n:Int) (s:aD) (l:List a7) (f:List (aD×a7))
instance:Inhabited a7:=⟨.mk 0 0 [] [] []⟩
def a7.kind:a7→Int| .mk k _ _ _ _=>k
def a7.n:a7→Int| .mk _ n _ _ _=>n
def a7.s:a7→aD| .mk _ _ s _ _=>s
def a7.l:a7→List a7| .mk _ _ _ l _=>l
def a7.f:a7→List (aD×a7)| .mk _ _ _ _ f=>f
mutual
def cj:a7→U
 | .mk k n s l f=> .agg [.int .i64 k, .int .i64 n, .str s, .slice false (vM l), .slice false (vN f)]
def vM:List a7→List U
 |[]=>[]
 |v::r=>cj v::vM r
def vN:List (aD×a7)→List U
 |[]=>[]
 |(s, .mk k n t l f)::r=> .agg [.str s, .int .i64 k, .int .i64 n, .str t, .slice false (vM l), .slice false (vN f)]::vN r
end
def ct (p:aD×a7):U:= .agg (.str p.1::(cj p.2).cells)
theorem Pe (l:List a7):vM l=l.map cj:=by
 induction l with
 |nil=>rfl
 |cons v r aQ=>simp only [vM,List.map_cons,aQ]
theorem Pf (l:List (aD×a7)):vN l=l.map ct:=by
 induction l with
 |nil=>rfl
 |cons v r aQ=>
  obtain ⟨s,v⟩:=v
  cases v with
  |mk k n t l f=>simp only [vN,List.map_cons,aQ,ct,cj,U.cells]
def cZ (v:a7):U:= .agg [.int .i64 v.kind, .int .i64 v.n, .str v.s, .slice false (v.l.map cj), .slice false (v.f.map ct)]
def iO (p:aD×a7):U:= .agg [.str p.1, .int .i64 p.2.kind, .int .i64 p.2.n, .str p.2.s, .slice false (p.2.l.map cj), .slice false (p.2.f.map ct)]
theorem ik (v:a7):cj v=cZ v:=by
 cases v with
 |mk k n s l f=>simp only [cj,cZ,Pe,Pf,a7.kind,a7.n,a7.s,a7.l,a7.f]
theorem iB (p:aD×a7):ct p=iO p:=by
 rw [ct,ik];rfl
mutual
def kT (bY:Int):a7→Int
 | .mk _ _ s l f=>nZ bY f (np bY l (1+s.length))
def np (bY:Int):List a7→Int→Int
 |[],n=>n
 |v::r,n=>if n≤bY then np bY r (IntKind.i64.wrap (n+kT bY v)) else n
def nZ (bY:Int):List (aD×a7)→Int→Int
 |[],n=>n
 |(s, .mk _ _ t l f)::r,n=>if n≤bY then nZ bY r (IntKind.i64.wrap (IntKind.i64.wrap (n+s.length)+nZ bY f (np bY l (1+t.length)))) else n
end
theorem Pg (bY:Int) (v:a7):kT bY v=nZ bY v.f (np bY v.l (1+v.s.length)):=by
 cases v with
 |mk k n s l f=>simp only [kT,a7.f,a7.l,a7.s]
theorem Gt (bY:Int) (p:aD×a7) (r:List (aD×a7)) (n:Int):nZ bY (p::r) n=if n≤bY then nZ bY r (IntKind.i64.wrap (IntKind.i64.wrap (n+p.1.length)+kT bY p.2)) else n:=by
 obtain ⟨s,v⟩:=p
 cases v with
 |mk k n t l f=>simp only [nZ,kT]
theorem Ph (bY:Int) (l:List a7) (n:Int) (h:bY<n):np bY l n=n:=by
 cases l with
 |nil=>simp only [np]
 |cons v r=>simp only [np];rw [if_neg (by omega)]
theorem Pj (bY:Int) (l:List (aD×a7)) (n:Int) (h:bY<n):nZ bY l n=n:=by
 cases l with
 |nil=>simp only [nZ]
 |cons v r=>rw [Gt,if_neg (by omega)]
theorem iP {α:Type} [Inhabited α] {l:List α} {i:Int} (aG:0≤i) (ad:i<l.length):l.drop i.toNat=I l i::l.drop (i+1).toNat:=by
 have h:i.toNat<l.length:=by omega
 have e:(i+1).toNat=i.toNat+1:=by omega
 rw [List.drop_eq_getElem_cons h,e]
 simp [I,List.getD_eq_getElem?_getD,h]
mutual
def bP:a7→Nat
 | .mk _ _ _ l f=>ld l+lM f+1
def ld:List a7→Nat
 |[]=>0
 |v::r=>bP v+ld r
def lM:List (aD×a7)→Nat
 |[]=>0
 |(_, .mk _ _ _ l f)::r=>ld l+lM f+1+lM r
end
theorem iQ {l:List a7} {v:a7} (h:v∈l):bP v≤ld l:=by
 induction l with
 |nil=>cases h
 |cons a r aQ=>
  simp only [ld]
  rcases List.mem_cons.1 h with rfl|h
  · omega
  · have:=aQ h;omega
theorem iR {l:List (aD×a7)} {p:aD×a7} (h:p∈l):bP p.2≤lM l:=by
 induction l with
 |nil=>cases h
 |cons a r aQ=>
  obtain ⟨s,v⟩:=a
  cases v with
  |mk k n t l f=>
   simp only [lM]
   rcases List.mem_cons.1 h with rfl|h
   · simp only [bP];omega
   · have:=aQ h;omega
theorem iC (v:a7):bP v=ld v.l+lM v.f+1:=by
 cases v with
 |mk k n s l f=>simp only [bP,a7.l,a7.f]
set_option maxHeartbeats 4000000 in
theorem Pk (v:a7) (bY:Int) (aQ:∀w:a7,bP w<bP v→∀(m:ae) (K:U→ae→Prop),K (.int .i64 (kT bY w)) m→bg Tryz.prog 71 [cZ w, .int .i64 bY] m K) (m:ae) (K:U→ae→Prop) (ab:K (.int .i64 (kT bY v)) m):bg Tryz.prog 71 [cZ v, .int .i64 bY] m K:=by
 refine enter (c:=cX [32,53,62] [0] [3,7] [] [] []) (vs:=[.aH (cZ v), .aH (.int .i64 bY)]) (L:=[]) (m:=m) false b9 Tryz.mixed Tryz.func71 rfl (k:=2) (by show cu [] _ _ _=true;decide+kernel) rfl (Good.nil m) ?_
 refine ⟨fun bq=>?_⟩
 have nq:v.s.length≤140737488355328:=(bq 0 2 (Nat.le_of_ble_eq_true rfl))
 have jx:v.l.length≤140737488355328:=cN (bq 0 3 (Nat.le_of_ble_eq_true rfl))
 have lN:v.f.length≤140737488355328:=cN (bq 0 4 (Nat.le_of_ble_eq_true rfl))
 refine ah (by omega) ?_
 refine az ?_
 refine b7 (σ:=Int×Int) [] [1,2,5,6] 1 (fun ⟨fR,i⟩=>([(1,aj bY),(2, .loc 0 0),(5,aj fR),(6,aj i)],[.cells [aj v.kind,aj v.n,aw v.s,an (v.l.map cj),an (v.f.map ct)]],m)) (fun ⟨fR,i⟩=>0≤i∧i≤v.l.length∧np bY v.l (1+v.s.length)=np bY (v.l.drop i.toNat) fR) (fun ⟨fR,i⟩=>v.l.length- i.toNat) (1+(v.s.length:Int),0) ⟨rfl,rfl⟩ ?_ ?_
 · try dsimp only
   exact ⟨by omega,by omega,rfl⟩
 rintro ⟨fR,i⟩ ay
 dsimp only at ay
 refine az ?_
 refine cq [1,2,5,6] 21 ((decide (i<(v.l.length:Int)))&&(decide (fR≤bY))) ?_ ?_
 · repeat' first
    |exact ⟨⟨_,rfl,by grind [bD.val]⟩,rfl⟩
    |refine ah (fun _=>?_) (fun _=>?_)
    |refine br ?_
 refine ah (fun J=>?_) (fun J=>?_)
 · replace J:(i<(v.l.length:Int))∧(fR≤bY):=⟨(of_decide_eq_true (eO J)),(of_decide_eq_true (fk J))⟩
   refine az ?_
   refine gj cZ ik (by omega) ?_
   refine b2 (fun _=>aQ (I v.l i) (by have:=iC v;first|(have:=iQ (cb (l:=v.l) (i:=i) ay.1 J.1);omega)|(have:=iR (cb (l:=v.f) (i:=k) a1.1 aa.1);omega))) rfl ?_
   refine ah (by omega) ?_
   refine ⟨(IntKind.i64.wrap (fR+(kT bY (I v.l i))),i+1),⟨rfl,rfl⟩,?_,?_⟩
   · try dsimp only
     refine ⟨by omega,by omega,?_⟩
     rw [ay.2.2,iP ay.1 J.1]
     simp only [np]
     rw [if_pos J.2]
   try dsimp only
   omega
 replace J:((v.l.length:Int)≤i)∨(bY<fR):=((fl J).imp (fun q=>(Int.not_lt.1 (of_decide_eq_false q))) (fun q=>(Int.not_le.1 (of_decide_eq_false q))))
 refine az ?_
 refine b7 (σ:=Int×Int) [] [1,2,5,7] 1 (fun ⟨e3,k⟩=>([(1,aj bY),(2, .loc 0 0),(5,aj e3),(7,aj k)],[.cells [aj v.kind,aj v.n,aw v.s,an (v.l.map cj),an (v.f.map ct)]],m)) (fun ⟨e3,k⟩=>0≤k∧k≤v.f.length∧kT bY v=nZ bY (v.f.drop k.toNat) e3) (fun ⟨e3,k⟩=>v.f.length- k.toNat) (fR,0) ⟨rfl,rfl⟩ ?_ ?_
 · try dsimp only
   refine ⟨by omega,by omega,?_⟩
   have e:np bY (v.l.drop i.toNat) fR=fR:=by
    by_cases aI:bY<fR
    · exact Ph _ _ _ aI
    · have ad:(v.l.length:Int)≤i:=by
       rcases J with h|h<;>omega
      rw [List.drop_eq_nil_of_le (by omega)];simp only [np]
   rw [Pg,ay.2.2,e];rfl
 rintro ⟨e3,k⟩ a1
 dsimp only at a1
 refine az ?_
 refine cq [1,2,5,7] 42 ((decide (k<(v.f.length:Int)))&&(decide (e3≤bY))) ?_ ?_
 · repeat' first
    |exact ⟨⟨_,rfl,by grind [bD.val]⟩,rfl⟩
    |refine ah (fun _=>?_) (fun _=>?_)
    |refine br ?_
 refine ah (fun aa=>?_) (fun aa=>?_)
 · replace aa:(k<(v.f.length:Int))∧(e3≤bY):=⟨(of_decide_eq_true (eO aa)),(of_decide_eq_true (fk aa))⟩
   refine az ?_
   refine gj iO iB (by omega) ?_
   refine gj iO iB (by omega) ?_
   refine ih (fun _=>aQ ((I v.f k).2) (by have:=iC v;first|(have:=iQ (cb (l:=v.l) (i:=i) ay.1 J.1);omega)|(have:=iR (cb (l:=v.f) (i:=k) a1.1 aa.1);omega))) ?_
   refine ah (by omega) ?_
   refine ⟨(IntKind.i64.wrap ((IntKind.i64.wrap (e3+(((I v.f k).1).length:Int)))+(kT bY ((I v.f k).2))),k+1),⟨rfl,rfl⟩,?_,?_⟩
   · try dsimp only
     exact ⟨by omega,by omega,by rw [a1.2.2,iP a1.1 aa.1,Gt,if_pos aa.2]⟩
   try dsimp only
   omega
 replace aa:((v.f.length:Int)≤k)∨(bY<e3):=((fl aa).imp (fun q=>(Int.not_lt.1 (of_decide_eq_false q))) (fun q=>(Int.not_le.1 (of_decide_eq_false q))))
 refine bh rfl fun _=>?_
 show K (.int .i64 e3) m
 have e:kT bY v=e3:=by
  rw [a1.2.2]
  by_cases aI:bY<e3
  · exact Pj _ _ _ aI
  · have ad:(v.f.length:Int)≤k:=by
     rcases aa with h|h<;>omega
    rw [List.drop_eq_nil_of_le (by omega)];simp only [nZ]
 rw [e] at ab;exact ab
theorem BD (bY:Int):∀(n:Nat) (v:a7),bP v<n→∀(m:ae) (K:U→ae→Prop),K (.int .i64 (kT bY v)) m→bg Tryz.prog 71 [cZ v, .int .i64 bY] m K
 |0,_,h=>absurd h (Nat.not_lt_zero _)
 |n+1,v,h=>fun m K ab=>Pk v bY (fun w hw=>BD bY n w (by omega)) m K ab
end Go.Proofs
end
section
namespace Go.Proofs
open Go Go.ba Go.bV
set_option maxRecDepth 100000
theorem Pl (l:List a7):l.length≤ld l:=by
 induction l with
 |nil=>exact Nat.le_refl _
 |cons v r aQ=>have:=iC v;simp only [ld,List.length_cons];omega
theorem Pm (l:List (aD×a7)):l.length≤lM l:=by
 induction l with
 |nil=>exact Nat.le_refl _
 |cons p r aQ=>
  obtain ⟨s,v⟩:=p
  cases v with
  |mk k n t l f=>simp only [lM,List.length_cons];omega
def lO (c:UInt8):Bool:=decide (97≤(c.toNat:Int))&&decide ((c.toNat:Int)≤122)
def lP (c:UInt8):Bool:=decide (48≤(c.toNat:Int))&&decide ((c.toNat:Int)≤57)
def lQ:aD→Bool→Bool
 |[],_=>true
 |c::r,first=>(lO c||(!first&&lP c))&&lQ r false
def cr (s:aD):Bool:=lQ s true&&!(s==[])&&decide ((s.length:Int)≤12)
theorem td {s:aD} {i:Int} (aG:0≤i) (ad:i<s.length):lQ (s.drop i.toNat) (i==0)=((lO (I s i)||(!(i==0)&&lP (I s i)))&&lQ (s.drop (i+1).toNat) (i+1==0)):=by
 have e:(i+1==0)=false:=by simp;omega
 rw [iP aG ad,lQ,e]
set_option maxHeartbeats 2000000 in
theorem qn (s:aD) (al:s.length≤140737488355328) (m:ae) (K:U→ae→Prop) (ab:K (.bool (cr s)) m):bg Tryz.prog 77 [.str s] m K:=by
 refine enter (c:=cX [] [] [5,8] [] [] []) (vs:=[.aH (.str s)]) (L:=[]) (m:=m) false b9 Tryz.mixed Tryz.func77 rfl (k:=1) (by show cu [] _ _ _=true;decide+kernel) rfl (Good.nil m) ?_
 refine az ?_
 refine b7 (σ:=Int) [] [0,6,7] 0 (fun i=>([(0,aw s),(6,aj (s.length:Int)),(7,aj i)],[],m)) (fun i=>0≤i∧i≤s.length∧lQ s true=lQ (s.drop i.toNat) (i==0)) (fun i=>s.length- i.toNat) (0) ⟨rfl,rfl⟩ ?_ ?_
 · try dsimp only
   exact ⟨by omega,by omega,by simp⟩
 rintro i ay
 refine az ?_
 refine ah (fun J=>?_) (fun J=>?_)
 · refine az ?_
   refine ah (by omega) ?_
   refine cq [0,6,7] 30 (((decide (((I s i).toNat:Int)<97))||(decide (122<((I s i).toNat:Int))))&&(((i==0)||(decide (((I s i).toNat:Int)<48)))||(decide (57<((I s i).toNat:Int))))) ?_ ?_
   · repeat' first
      |exact ⟨⟨_,rfl,by grind [bD.val]⟩,rfl⟩
      |refine ah (fun _=>?_) (fun _=>?_)
   refine ah (fun aa=>?_) (fun aa=>?_)
   · replace aa:((((I s i).toNat:Int)<97)∨(122<((I s i).toNat:Int)))∧(((i=0)∨(((I s i).toNat:Int)<48))∨(57<((I s i).toNat:Int))):=⟨((dj (eO aa)).imp (fun q=>(of_decide_eq_true q)) (fun q=>(of_decide_eq_true q))),((dj (fk aa)).imp (fun q=>((dj q).imp (fun q=>(eq_of_beq q)) (fun q=>(of_decide_eq_true q)))) (fun q=>(of_decide_eq_true q)))⟩
     refine bh rfl fun _=>df ab ?_
     show U.bool (cr s)=U.bool false
     refine congrArg U.bool ?_
     have ag:(lO (I s i)||(!(i==0)&&lP (I s i)))=false:=by
      rw [Bool.eq_false_iff];intro aT;simp [lO,lP] at aT;omega
     rw [cr,ay.2.2,td ay.1 J,ag];rfl
   replace aa:((97≤((I s i).toNat:Int))∧(((I s i).toNat:Int)≤122))∨(((i≠0)∧(48≤((I s i).toNat:Int)))∧(((I s i).toNat:Int)≤57)):=((fl aa).imp (fun q=>⟨(Int.not_lt.1 (of_decide_eq_false (b8 q))),(Int.not_lt.1 (of_decide_eq_false (di q)))⟩) (fun q=>⟨⟨(ne_of_beq_false (b8 (b8 q))),(Int.not_lt.1 (of_decide_eq_false (di (b8 q))))⟩,(Int.not_lt.1 (of_decide_eq_false (di q)))⟩))
   refine ah (by omega) ?_
   refine ⟨(i+1),⟨rfl,rfl⟩,?_,?_⟩
   · try dsimp only
     have ag:(lO (I s i)||(!(i==0)&&lP (I s i)))=true:=by simp [lO,lP];omega
     exact ⟨by omega,by omega,by rw [ay.2.2,td ay.1 J,ag];rfl⟩
   try dsimp only
   omega
 refine cq [] 2 ((!(s==([])))&&(decide ((s.length:Int)≤12))) ?_ ?_
 · repeat' first
    |exact ⟨⟨_,rfl,by grind [bD.val]⟩,rfl⟩
    |refine ah (fun _=>?_) (fun _=>?_)
 refine bh rfl fun _=>df ab ?_
 show U.bool (cr s)=U.bool ((!(s==([])))&&(decide ((s.length:Int)≤12)))
 refine congrArg U.bool ?_
 have aX:lQ s true=true:=by rw [ay.2.2,List.drop_eq_nil_of_le (by omega)];rfl
 rw [cr,aX];cases s<;>simp
mutual
def okV:a7→Prop
 | .mk _ _ _ l f=>(l.length≤1759218604441∧f.length≤1466015503701)∧ry l∧rz f
def ry:List a7→Prop
 |[]=>True
 |v::r=>okV v∧ry r
def rz:List (aD×a7)→Prop
 |[]=>True
 |(_, .mk _ _ _ l f)::r=>((l.length≤1759218604441∧f.length≤1466015503701)∧ry l∧rz f)∧rz r
end
theorem Pn (v:a7):okV v↔(v.l.length≤1759218604441∧v.f.length≤1466015503701)∧ry v.l∧rz v.f:=by
 cases v with
 |mk k n s l f=>simp only [okV,a7.l,a7.f]
theorem Po (l:List a7):ry l↔∀v∈l,okV v:=by
 induction l with
 |nil=>simp [ry]
 |cons v r aQ=>simp [ry,aQ]
theorem Pp (l:List (aD×a7)):rz l↔∀p∈l,okV p.2:=by
 induction l with
 |nil=>simp [rz]
 |cons p r aQ=>
  obtain ⟨s,v⟩:=p
  cases v with
  |mk k n t l f=>simp [rz,okV,aQ]
theorem Gu (v:a7):okV v↔(v.l.length≤1759218604441∧v.f.length≤1466015503701)∧(∀w∈v.l,okV w)∧∀p∈v.f,okV p.2:=by
 rw [Pn,Po,Pp]
theorem x0:∀(n:Nat) (v:a7),bP v<n→bP v≤1000000000→okV v
 |0,_,h,_=>absurd h (Nat.not_lt_zero _)
 |n+1,v,h,ao=>by
  have e:=iC v
  have J:=Pl v.l
  have aa:=Pm v.f
  rw [Gu]
  exact ⟨⟨by omega,by omega⟩,fun w hw=>x0 n w (by have:=iQ hw;omega) (by have:=iQ hw;omega),fun p aU=>x0 n p.2 (by have:=iR aU;omega) (by have:=iR aU;omega)⟩
end Go.Proofs
end
section
namespace Go.Proofs
open Go Go.ba Go.bV
set_option maxRecDepth 100000
set_option maxHeartbeats 4000000 in
theorem Pq (v:a7) (ao:okV v) (aQ:∀w:a7,bP w<bP v→okV w→∀(m:ae) (K:U→ae→Prop),K (cZ w) m→bg Tryz.prog 63 [cZ w] m K) (m:ae) (K:U→ae→Prop) (ab:K (cZ v) m):bg Tryz.prog 63 [cZ v] m K:=by
 have bL:=(Gu v).1 ao
 have xO:=bL.1.1
 have UC:=bL.1.2
 refine enter (c:=cX [] [] [] [6999,11999] [6,11] []) (vs:=[.aH (cZ v)]) (L:=[]) (m:=m) false b9 Tryz.mixed Tryz.func63 rfl (k:=1) (by show cu [6999,11999] _ _ _=true;decide+kernel) rfl (Good.nil m) ?_
 refine az ?_
 refine br ?_
 refine b7 (σ:=Int×(List a7)) [] [1,2,4,15,16,17] 2 (fun ⟨i,ol⟩=>([(1, .loc 0 0),(2, .loc 1 0),(4,an (v.f.map ct)),(15,an (v.l.map cj)),(16,aj (v.l.length:Int)),(17,aj i)],[.cells [aj v.kind,aj v.n,aw v.s, .own (ol.map cj), .own []], .cells [aj 0,aj 0,aw ([]), .own [], .own []]],m)) (fun ⟨i,ol⟩=>0≤i∧i≤v.l.length∧ol=v.l.take i.toNat) (fun ⟨i,ol⟩=>v.l.length- i.toNat) (0,[]) ⟨rfl,rfl⟩ ?_ ?_
 · try dsimp only
   exact ⟨by omega,by omega,rfl⟩
 rintro ⟨i,ol⟩ ay
 dsimp only at ay
 have uu:ol.length≤v.l.length:=by rw [ay.2.2,List.length_take];omega
 have UD:(ol.length:Int)≤i:=by rw [ay.2.2,List.length_take];omega
 refine az ?_
 refine ah (fun J=>?_) (fun J=>?_)
 · refine az ?_
   refine gj cZ ik (by omega) ?_
   refine gp b9 Tryz.mixed (σ:=Unit) (.f 0 (.o 1 (.s 2 (.s 3 (.s 4 (.s 5 (.f 6 (.s 7 .d)))))) (.o 2 (.o 1 (.s 3 (.s 4 (.s 5 (.f 6 (.s 7 .d))))) (.o 3 (.o 1 (.s 4 (.s 5 (.f 6 (.s 7 .d)))) (.o 4 (.s 1 (.s 5 (.f 6 (.s 7 .d)))) .z)) .z)) .z))) [] [1,2,4,15,16,17] 3 (fun _=>([(1, .loc 0 0),(2, .loc 1 0),(4,an (v.f.map ct)),(15,an (v.l.map cj)),(16,aj (v.l.length:Int)),(17,aj i)],[.cells [aj v.kind,aj v.n,aw v.s, .own ((ol++([(I v.l i)]:List a7)).map cj), .own []], .cells [aj 0,aj 0,aw ([]), .own [], .own []], .cells [aj ((I v.l i).kind),aj ((I v.l i).n),aw ((I v.l i).s),an (((I v.l i).l).map cj),an (((I v.l i).f).map ct)]],m)) (fun _=>True) (by decide+kernel) ?_ ?_
   · rintro _ BE
     try dsimp only at BE
     refine ah (by omega) ?_
     refine ⟨(i+1,ol++([(I v.l i)]:List a7)),⟨rfl,rfl⟩,?_,?_⟩
     · try dsimp only
       exact ⟨by omega,by omega,by rw [gz ay.1 (by assumption),←ay.2.2]⟩
     try dsimp only
     omega
   repeat' first
    |refine ⟨(),⟨rfl,rfl⟩,trivial⟩
    |refine b2 (fun _=>aQ (I v.l i) (by have:=iC v;first|(have:=iQ (cb (l:=v.l) (i:=i) ay.1 (by assumption));omega)|(have:=iR (cb (l:=v.f) (i:=k) a1.1 (by assumption));omega)) (by first|exact bL.2.1 _ (cb (l:=v.l) (i:=i) ay.1 (by assumption))|exact bL.2.2 _ (cb (l:=v.f) (i:=k) a1.1 (by assumption)))) rfl ?_
    |refine ap cj ol ([(I v.l i)]:List a7) rfl (by simp only [List.map_cons,List.map_nil,ik];try rfl) (fun a=>by rw [ik];exact ⟨rfl,rfl⟩) (by (simp only [List.length_append,List.length_cons,List.length_nil];omega)) ?_
    |refine ⟨?_,?_,trivial⟩
 refine az ?_
 refine br ?_
 refine b7 (σ:=Int×(List (aD×a7))) [] [1,2,29,30,31] 2 (fun ⟨k,of⟩=>([(1, .loc 0 0),(2, .loc 1 0),(29,an (v.f.map ct)),(30,aj (v.f.length:Int)),(31,aj k)],[.cells [aj v.kind,aj v.n,aw v.s, .own (ol.map cj), .own (of.map ct)], .cells [aj 0,aj 0,aw ([]), .own [], .own []]],m)) (fun ⟨k,of⟩=>0≤k∧k≤v.f.length∧of=v.f.take k.toNat) (fun ⟨k,of⟩=>v.f.length- k.toNat) (0,[]) ⟨rfl,rfl⟩ ?_ ?_
 · try dsimp only
   exact ⟨by omega,by omega,rfl⟩
 rintro ⟨k,of⟩ a1
 dsimp only at a1
 have UE:of.length≤v.f.length:=by rw [a1.2.2,List.length_take];omega
 have UF:(of.length:Int)≤k:=by rw [a1.2.2,List.length_take];omega
 refine az ?_
 refine ah (fun aa=>?_) (fun aa=>?_)
 · refine az ?_
   refine gj iO iB (by omega) ?_
   refine gp b9 Tryz.mixed (σ:=Unit) (.f 0 (.f 2 (.f 4 (.o 1 (.o 3 (.s 5 (.s 6 (.s 7 (.s 8 (.s 9 (.f 10 (.s 11 .d))))))) (.o 5 (.o 3 (.s 6 (.s 7 (.s 8 (.s 9 (.f 10 (.s 11 .d)))))) (.o 6 (.s 3 (.s 7 (.s 8 (.s 9 (.f 10 (.s 11 .d)))))) .z)) .z)) (.o 3 (.o 1 (.s 5 (.s 6 (.s 7 (.s 8 (.s 9 (.f 10 (.s 11 .d))))))) (.o 5 (.o 1 (.s 6 (.s 7 (.s 8 (.s 9 (.f 10 (.s 11 .d)))))) (.o 6 (.o 1 (.s 7 (.s 8 (.s 9 (.f 10 (.s 11 .d))))) (.o 7 (.o 1 (.s 8 (.s 9 (.f 10 (.s 11 .d)))) (.o 8 (.s 1 (.s 9 (.f 10 (.s 11 .d)))) .z)) .z)) .z)) .z)) (.o 5 (.o 1 (.o 3 (.s 6 (.s 7 (.s 8 (.s 9 (.f 10 (.s 11 .d)))))) (.o 6 (.s 3 (.s 7 (.s 8 (.s 9 (.f 10 (.s 11 .d)))))) .z)) (.o 3 (.o 1 (.s 6 (.s 7 (.s 8 (.s 9 (.f 10 (.s 11 .d)))))) (.o 6 (.o 1 (.s 7 (.s 8 (.s 9 (.f 10 (.s 11 .d))))) (.o 7 (.o 1 (.s 8 (.s 9 (.f 10 (.s 11 .d)))) (.o 8 (.s 1 (.s 9 (.f 10 (.s 11 .d)))) .z)) .z)) .z)) (.o 6 (.o 1 (.s 3 (.s 7 (.s 8 (.s 9 (.f 10 (.s 11 .d)))))) (.o 3 (.o 1 (.s 7 (.s 8 (.s 9 (.f 10 (.s 11 .d))))) (.o 7 (.o 1 (.s 8 (.s 9 (.f 10 (.s 11 .d)))) (.o 8 (.s 1 (.s 9 (.f 10 (.s 11 .d)))) .z)) .z)) .z)) .z))) .z)))))) [] [1,2,29,30,31] 3 (fun _=>([(1, .loc 0 0),(2, .loc 1 0),(29,an (v.f.map ct)),(30,aj (v.f.length:Int)),(31,aj k)],[.cells [aj v.kind,aj v.n,aw v.s, .own (ol.map cj), .own ((of++([(I v.f k)]:List (aD×a7))).map ct)], .cells [aj 0,aj 0,aw ([]), .own [], .own []], .cells [aw ((I v.f k).1),aj (((I v.f k).2).kind),aj (((I v.f k).2).n),aw (((I v.f k).2).s),an ((((I v.f k).2).l).map cj),an ((((I v.f k).2).f).map ct)]],m)) (fun _=>True) (by decide+kernel) ?_ ?_
   · rintro _ ef
     try dsimp only at ef
     refine ah (by omega) ?_
     refine ⟨(k+1,of++([(I v.f k)]:List (aD×a7))),⟨rfl,rfl⟩,?_,?_⟩
     · try dsimp only
       exact ⟨by omega,by omega,by rw [gz a1.1 (by assumption),←a1.2.2]⟩
     try dsimp only
     omega
   repeat' first
    |refine ⟨(),⟨rfl,rfl⟩,trivial⟩
    |refine b2 (fun _=>aQ ((I v.f k).2) (by have:=iC v;first|(have:=iQ (cb (l:=v.l) (i:=i) ay.1 (by assumption));omega)|(have:=iR (cb (l:=v.f) (i:=k) a1.1 (by assumption));omega)) (by first|exact bL.2.1 _ (cb (l:=v.l) (i:=i) ay.1 (by assumption))|exact bL.2.2 _ (cb (l:=v.f) (i:=k) a1.1 (by assumption)))) rfl ?_
    |refine ap ct of ([(I v.f k)]:List (aD×a7)) rfl (by simp only [List.map_cons,List.map_nil,iB];try rfl) (fun a=>by rw [iB];exact ⟨rfl,rfl⟩) (by (simp only [List.length_append,List.length_cons,List.length_nil];omega)) ?_
    |refine ⟨?_,?_,?_,trivial⟩
    |refine ⟨?_,?_,trivial⟩
 refine bh rfl fun _=>?_
 show K (.agg [.int .i64 v.kind, .int .i64 v.n, .str v.s, .slice false (ol.map cj), .slice false (of.map ct)]) m
 have cM:ol=v.l:=by have:=ay.2.2;rwa [fm (by omega)] at this
 have bI:of=v.f:=by have:=a1.2.2;rwa [fm (by omega)] at this
 rw [cM,bI]
 exact ab
theorem Gv:∀(n:Nat) (v:a7),bP v<n→okV v→∀(m:ae) (K:U→ae→Prop),K (cZ v) m→bg Tryz.prog 63 [cZ v] m K
 |0,_,h,_=>absurd h (Nat.not_lt_zero _)
 |n+1,v,h,ao=>fun m K ab=>Pq v ao (fun w hw Pr=>Gv n w (by omega) Pr) m K ab
theorem Gw (v:a7) (ao:okV v) (m:ae) (K:U→ae→Prop) (ab:K (cZ v) m):bg Tryz.prog 63 [cZ v] m K:=Gv (bP v+1) v (Nat.lt_succ_self _) ao m K ab
end Go.Proofs
end
section
namespace Go.Proofs
open Go Go.ba Go.bV
set_option maxRecDepth 100000
def eb:a7:= .mk 0 0 [] [] []
theorem a7.ext' {a b:a7} (J:a.kind=b.kind) (aa:a.n=b.n) (ai:a.s=b.s) (aJ:a.l=b.l) (aY:a.f=b.f):a=b:=by
 cases a;cases b;simp only [a7.kind,a7.n,a7.s,a7.l,a7.f] at J aa ai aJ aY;subst J aa ai aJ aY;rfl
noncomputable def gT (a b:a7):Bool:=@decide (a=b) (Classical.propDecidable _)
theorem qo {a b:a7} (h:a=b):gT a b=true:=by simp [gT,h]
theorem te {a b:a7} (h:a≠b):gT a b=false:=by simp [gT,h]
theorem rA {a b:a7}:gT a b=true↔a=b:=by simp [gT]
def hK {α:Type} (g:α→Int→Bool×Int):List α→Int→Bool×Int
 |[],n=>(true,n)
 |x::r,n=>if (g x n).1=true then hK g r (g x n).2 else (false,(g x n).2)
def dY:Nat→Int→a7→Int→Bool×Int
 |0,_,_,n=>(false,n)
 |k+1,deep,v,n=>
  if 6<deep∨n- 1<0 then (false,n- 1)
  else if (hK (dY k (deep+1)) v.l (n- 1)).1=false then (false,(hK (dY k (deep+1)) v.l (n- 1)).2)
  else hK (fun p=>dY k (deep+1) p.2) v.f (hK (dY k (deep+1)) v.l (n- 1)).2
def hA {α:Type} (g:α→Nat):List α→Nat
 |[]=>0
 |x::r=>g x+hA g r
theorem BF (l:List a7):hA bP l=ld l:=by
 induction l with
 |nil=>rfl
 |cons v r aQ=>simp only [hA,ld,aQ]
theorem BG (l:List (aD×a7)):hA (fun p=>bP p.2) l=lM l:=by
 induction l with
 |nil=>rfl
 |cons p r aQ=>
  obtain ⟨s,v⟩:=p
  cases v with
  |mk k n t l f=>simp only [hA,lM,aQ,bP]
theorem x1 {α:Type} {g:α→Int→Bool×Int} {d:α→Nat} (bl:∀x n,0≤n→(g x n).1=true→0≤(g x n).2∧(g x n).2+d x=n):∀(l:List α) (n:Int),0≤n→(hK g l n).1=true→0≤(hK g l n).2∧(hK g l n).2+hA d l=n
 |[],n,aG,_=>by simp [hK,hA,aG]
 |x::r,n,aG,h=>by
  rw [hK] at h ⊢
  split at h
  · rename_i J
    have aa:=bl x n aG J
    have ai:=x1 bl r _ aa.1 h
    rw [if_pos J,hA]
    exact ⟨ai.1,by push_cast;omega⟩
  · cases h
theorem qp:∀(k:Nat) (deep:Int) (v:a7) (n:Int),0≤n→(dY k deep v n).1=true→0≤(dY k deep v n).2∧(dY k deep v n).2+bP v=n
 |0,_,_,_,_,h=>by simp [dY] at h
 |k+1,deep,v,n,aG,h=>by
  rw [dY] at h ⊢
  split at h
  · cases h
  · rename_i J
    rw [if_neg J]
    split at h
    · cases h
    · rename_i aa
      rw [if_neg aa]
      have ai:(hK (dY k (deep+1)) v.l (n- 1)).1=true:=by simpa using aa
      have a:=x1 (d:=bP) (g:=dY k (deep+1)) (fun x n aI aq=>qp k (deep+1) x n aI aq) v.l (n- 1) (by omega) ai
      have b:=x1 (d:=fun p:aD×a7=>bP p.2) (g:=fun p=>dY k (deep+1) p.2) (fun x n aI aq=>qp k (deep+1) x.2 n aI aq) v.f _ a.1 h
      rw [BF] at a
      rw [BG] at b
      have e:=iC v
      exact ⟨b.1,by omega⟩
def lR:Option aD→List (aD×a7)→Bool
 |_,[]=>true
 |p,f::r=>cr f.1&&(match p with|none=>true|some s=>Op.bytesLess s f.1)&&lR (some f.1) r
def fZ (v:a7):Bool:=
 if v.kind=0 then ((v.n==0)&&(v.s==[]))&&((v.l.length:Int)+(v.f.length:Int)==0)
 else if v.kind=1 then ((decide (-1000000000≤v.n)&&decide (v.n≤1000000000))&&(v.s==[]))&&((v.l.length:Int)+(v.f.length:Int)==0)
 else if v.kind=2 then ((v.n==0)&&decide ((v.s.length:Int)≤40))&&((v.l.length:Int)+(v.f.length:Int)==0)
 else if v.kind=3 then (((v.n==0)||(v.n==1))&&(v.s==[]))&&((v.l.length:Int)+(v.f.length:Int)==0)
 else if v.kind=4 then ((v.n==0)&&(v.s==[]))&&((v.f.length:Int)==0)
 else if v.kind=5 then (((v.n==0)&&(v.s==[]))&&((v.l.length:Int)==0))&&lR none v.f
 else false
def dz:Nat→a7→Bool
 |0,_=>false
 |k+1,v=>fZ v&&v.l.all (dz k)&&v.f.all (fun p=>dz k p.2)
def kU (b:Bool):Int:=if b=true then 0 else 3
def b5 (v:a7):Int:=if (dY (bP v+1) 1 v 60).1=true then kU (dz (bP v+1) v) else 2
def rB (l:List (aD×a7)) (i:Int):Option aD:=if i=0 then none else some (I l (i- 1)).1
theorem Ps (p:Option aD) (f:aD×a7) (r:List (aD×a7)):lR p (f::r)=(cr f.1&&(match p with|none=>true|some s=>Op.bytesLess s f.1)&&lR (some f.1) r):=by cases p<;>rfl
theorem x2 {l:List (aD×a7)} {i:Int} (aG:0≤i) (ad:i<l.length):lR (rB l i) (l.drop i.toNat)=(cr (I l i).1&&((i==0)||Op.bytesLess (I l (i- 1)).1 (I l i).1)&&lR (rB l (i+1)) (l.drop (i+1).toNat)):=by
 have e:rB l (i+1)=some (I l i).1:=by rw [rB,if_neg (by omega)];congr 2;congr 1;omega
 rw [iP aG ad,Ps,e,rB]
 by_cases h:i=0
 · simp [h]
 · have:(i==0)=false:=by simpa using h
   rw [if_neg h,this,Bool.false_or]
theorem x3 {α:Type} [Inhabited α] {g:α→Int→Bool×Int} {l:List α} {i n:Int} (aG:0≤i) (ad:i<l.length):hK g (l.drop i.toNat) n=if (g (I l i) n).1=true then hK g (l.drop (i+1).toNat) (g (I l i) n).2 else (false,(g (I l i) n).2):=by
 rw [iP aG ad,hK]
theorem qq {α:Type} [Inhabited α] {g:α→Bool} {l:List α} {i:Int} (aG:0≤i) (ad:i<l.length):(l.drop i.toNat).all g=(g (I l i)&&(l.drop (i+1).toNat).all g):=by
 rw [iP aG ad,List.all_cons]
theorem Pt {k:Nat} {deep n x:Int} {v:a7} (h:¬(6<deep∨n- 1<0)) (e:hK (dY k (deep+1)) v.l (n- 1)=(false,x)):dY (k+1) deep v n=(false,x):=by
 rw [dY,if_neg h,e,if_pos rfl]
theorem Pu {k:Nat} {deep n x:Int} {v:a7} (h:¬(6<deep∨n- 1<0)) (e:hK (dY k (deep+1)) v.l (n- 1)=(true,x)):dY (k+1) deep v n=hK (fun p=>dY k (deep+1) p.2) v.f x:=by
 rw [dY,if_neg h,e,if_neg (by simp)]
theorem BH {b:Bool} (h:kU b=0):b=true:=by cases b<;>first|rfl|simp [kU] at h
theorem Gx {b:Bool} (h:kU b≠0):b=false:=by cases b<;>first|rfl|simp [kU] at h
theorem Pv {k:Nat} {v:a7} (h:fZ v=false):kU (dz (k+1) v)=3:=by rw [dz,h];rfl
theorem Pw {k:Nat} {v:a7} (h:v.l.all (dz k)=false):kU (dz (k+1) v)=3:=by rw [dz,h];simp [kU]
theorem Px {k:Nat} {v:a7} (h:v.f.all (fun p=>dz k p.2)=false):kU (dz (k+1) v)=3:=by rw [dz,h];simp [kU]
theorem Py {k:Nat} {v:a7} (J:fZ v=true) (aa:v.l.all (dz k)=true) (ai:v.f.all (fun p=>dz k p.2)=true):kU (dz (k+1) v)=0:=by rw [dz,J,aa,ai];rfl
set_option maxHeartbeats 4000000 in
theorem Pz (k:Nat) (v:a7) (deep n:Int) (p:Nat) (aQ:∀(w:a7) (deep n:Int),bP w<k→1≤deep→deep≤7→0≤n→n≤60→∀(b:Nat) (m:ae),eE [b] m→∀(K:U→ae→Prop),K (.bool (dY k deep w n).1) (ae.bf m [(b, .cells [.int .i64 (dY k deep w n).2])])→bg Tryz.prog 159 [cZ w, .int .i64 deep, .ptr ⟨b,0,none⟩] (ae.bf m [(b, .cells [.int .i64 n])]) K) (bo:bP v<k+1) (x4:1≤deep) (UG:deep≤7) (UH:0≤n) (UI:n≤60) (m:ae) (gd:eE [p] m) (K:U→ae→Prop) (ab:K (.bool (dY (k+1) deep v n).1) (ae.bf m [(p, .cells [.int .i64 (dY (k+1) deep v n).2])])):bg Tryz.prog 159 [cZ v, .int .i64 deep, .ptr ⟨p,0,none⟩] (ae.bf m [(p, .cells [.int .i64 n])]) K:=by
 refine enter (c:=cX [] [0] [2] [] [] [p]) (vs:=[.aH (cZ v), .aH (.int .i64 deep), .loc 0 0]) (L:=[.cells [aj n]]) (m:=m) false b9 Tryz.mixed Tryz.func159 rfl (k:=3) (by show cu [] _ _ _=true;decide+kernel) rfl (gd.hn rfl) ?_
 refine ⟨fun bq=>?_⟩
 have nq:v.s.length≤140737488355328:=(bq 0 2 (Nat.le_of_ble_eq_true rfl))
 have jx:v.l.length≤140737488355328:=cN (bq 0 3 (Nat.le_of_ble_eq_true rfl))
 have lN:v.f.length≤140737488355328:=cN (bq 0 4 (Nat.le_of_ble_eq_true rfl))
 refine ah (by omega) ?_
 refine az ?_
 refine cq [1,2,3] 23 ((decide (6<deep))||(decide (n- 1<0))) ?_ ?_
 · repeat' first
    |exact ⟨⟨_,rfl,by grind [bD.val]⟩,rfl⟩
    |refine ah (fun _=>?_) (fun _=>?_)
 refine ah (fun J=>?_) (fun J=>?_)
 · replace J:(6<deep)∨(n- 1<0):=((dj J).imp (fun q=>(of_decide_eq_true q)) (fun q=>(of_decide_eq_true q)))
   refine rt rfl fun _=>?_
   show K (.bool false) (ae.bf m [(p, .cells [.int .i64 (n- 1)])])
   rw [dY,if_pos (by omega)] at ab;exact ab
 replace J:(deep≤6)∧(0≤n- 1):=⟨(Int.not_lt.1 (of_decide_eq_false (b8 J))),(Int.not_lt.1 (of_decide_eq_false (di J)))⟩
 refine az ?_
 refine br ?_
 refine b7 (σ:=Int×Int) [] [1,2,3,25,26,27] 2 (fun ⟨i,nl⟩=>([(1,aj deep),(2, .loc 0 0),(3, .loc 1 0),(25,an (v.l.map cj)),(26,aj (v.l.length:Int)),(27,aj i)],[.cells [aj nl], .cells [aj v.kind,aj v.n,aw v.s,an (v.l.map cj),an (v.f.map ct)]],m)) (fun ⟨i,nl⟩=>0≤i∧i≤v.l.length∧0≤nl∧nl≤60∧hK (dY k (deep+1)) v.l (n- 1)=hK (dY k (deep+1)) (v.l.drop i.toNat) nl) (fun ⟨i,nl⟩=>v.l.length- i.toNat) (0,n- 1) ⟨rfl,rfl⟩ ?_ ?_
 · try dsimp only
   exact ⟨by omega,by omega,by omega,by omega,rfl⟩
 rintro ⟨i,nl⟩ ay
 dsimp only at ay
 refine az ?_
 refine ah (fun aa=>?_) (fun aa=>?_)
 · refine az ?_
   refine gj cZ ik (by omega) ?_
   refine ah (by omega) ?_
   refine gn [0] [.cells [aj ((dY k (deep+1) (I v.l i) nl).2)]] (eY ((dY k (deep+1) (I v.l i) nl).1)) rfl (fun bs aF gd=>aQ (I v.l i) (deep+1) nl (by have:=iC v;first|(have:=iQ (cb (l:=v.l) (i:=i) ay.1 (by assumption));omega)|(have:=iR (cb (l:=v.f) (i:=i2) a1.1 (by assumption));omega)) (by omega) (by omega) (by omega) (by omega) (bs.getD 0 0) aF gd) ?_
   refine ah (fun ai=>?_) (fun ai=>?_)
   · refine ah (by omega) ?_
     refine ⟨(i+1,(dY k (deep+1) (I v.l i) nl).2),⟨rfl,rfl⟩,?_,?_⟩
     · try dsimp only
       have q:=qp k (deep+1) (I v.l i) nl ay.2.2.1 ai
       exact ⟨by omega,by omega,by omega,by omega,by rw [ay.2.2.2.2,x3 ay.1 aa,if_pos ai]⟩
     try dsimp only
     omega
   refine rt rfl fun _=>?_
   show K (.bool false) (ae.bf m [(p, .cells [.int .i64 ((dY k (deep+1) (I v.l i) nl).2)])])
   have e:dY (k+1) deep v n=(false,(dY k (deep+1) (I v.l i) nl).2):=Pt (by omega) (by rw [ay.2.2.2.2,x3 ay.1 aa,if_neg (by simp [ai])])
   rw [e] at ab;exact ab
 refine az ?_
 refine br ?_
 refine b7 (σ:=Int×Int) [] [1,2,39,40,41] 2 (fun ⟨i2,kV⟩=>([(1,aj deep),(2, .loc 0 0),(39,an (v.f.map ct)),(40,aj (v.f.length:Int)),(41,aj i2)],[.cells [aj kV], .cells [aj v.kind,aj v.n,aw v.s,an (v.l.map cj),an (v.f.map ct)]],m)) (fun ⟨i2,kV⟩=>0≤i2∧i2≤v.f.length∧0≤kV∧kV≤60∧dY (k+1) deep v n=hK (fun p=>dY k (deep+1) p.2) (v.f.drop i2.toNat) kV) (fun ⟨i2,kV⟩=>v.f.length- i2.toNat) (0,nl) ⟨rfl,rfl⟩ ?_ ?_
 · try dsimp only
   have e:hK (dY k (deep+1)) v.l (n- 1)=(true,nl):=by rw [ay.2.2.2.2,List.drop_eq_nil_of_le (by omega)];rfl
   exact ⟨by omega,by omega,by omega,by omega,by rw [Pu (by omega) e];rfl⟩
 rintro ⟨i2,kV⟩ a1
 dsimp only at a1
 refine az ?_
 refine ah (fun aJ=>?_) (fun aJ=>?_)
 · refine az ?_
   refine gj iO iB (by omega) ?_
   refine ah (by omega) ?_
   refine gn [0] [.cells [aj ((dY k (deep+1) ((I v.f i2).2) kV).2)]] (eY ((dY k (deep+1) ((I v.f i2).2) kV).1)) rfl (fun bs aF gd=>aQ ((I v.f i2).2) (deep+1) kV (by have:=iC v;first|(have:=iQ (cb (l:=v.l) (i:=i) ay.1 (by assumption));omega)|(have:=iR (cb (l:=v.f) (i:=i2) a1.1 (by assumption));omega)) (by omega) (by omega) (by omega) (by omega) (bs.getD 0 0) aF gd) ?_
   refine ah (fun aY=>?_) (fun aY=>?_)
   · refine ah (by omega) ?_
     refine ⟨(i2+1,(dY k (deep+1) ((I v.f i2).2) kV).2),⟨rfl,rfl⟩,?_,?_⟩
     · try dsimp only
       have q:=qp k (deep+1) (I v.f i2).2 kV a1.2.2.1 aY
       exact ⟨by omega,by omega,by omega,by omega,by rw [a1.2.2.2.2,x3 a1.1 aJ,if_pos aY]⟩
     try dsimp only
     omega
   refine rt rfl fun _=>?_
   show K (.bool false) (ae.bf m [(p, .cells [.int .i64 ((dY k (deep+1) ((I v.f i2).2) kV).2)])])
   have e:dY (k+1) deep v n=(false,(dY k (deep+1) (I v.f i2).2 kV).2):=by
    rw [a1.2.2.2.2,x3 a1.1 aJ,if_neg (by simp [aY])]
   rw [e] at ab;exact ab
 refine rt rfl fun _=>?_
 show K (.bool true) (ae.bf m [(p, .cells [.int .i64 kV])])
 have e:dY (k+1) deep v n=(true,kV):=by rw [a1.2.2.2.2,List.drop_eq_nil_of_le (by omega)];rfl
 rw [e] at ab;exact ab
theorem Gy:∀(k:Nat) (v:a7) (deep n:Int),bP v<k→1≤deep→deep≤7→0≤n→n≤60→∀(b:Nat) (m:ae),eE [b] m→∀(K:U→ae→Prop),K (.bool (dY k deep v n).1) (ae.bf m [(b, .cells [.int .i64 (dY k deep v n).2])])→bg Tryz.prog 159 [cZ v, .int .i64 deep, .ptr ⟨b,0,none⟩] (ae.bf m [(b, .cells [.int .i64 n])]) K
 |0,_,_,_,h=>absurd h (Nat.not_lt_zero _)
 |k+1,v,deep,n,h=>fun J c7 aG bG b m gd K ab=>Pz k v deep n b (Gy k) h J c7 aG bG m gd K ab
set_option maxHeartbeats 8000000 in
theorem PA (k:Nat) (v:a7) (aQ:∀(w:a7),bP w<k→∀(m:ae) (K:U→ae→Prop),K (.err 115 (kU (dz k w))) m→bg Tryz.prog 160 [cZ w] m K) (bo:bP v<k+1) (m:ae) (K:U→ae→Prop) (ab:K (.err 115 (kU (dz (k+1) v))) m):bg Tryz.prog 160 [cZ v] m K:=by
 refine enter (c:=cX [] [0,19] [5,7,9,11,13,15,19] [] [] []) (vs:=[.aH (cZ v)]) (L:=[]) (m:=m) true b9 Tryz.mixed Tryz.func160 rfl (k:=1) (by show cu [] _ _ _=true;decide+kernel) rfl (Good.nil m) ?_
 refine ⟨fun bq=>?_⟩
 have nq:v.s.length≤140737488355328:=(bq 0 2 (Nat.le_of_ble_eq_true rfl))
 have jx:v.l.length≤140737488355328:=cN (bq 0 3 (Nat.le_of_ble_eq_true rfl))
 have lN:v.f.length≤140737488355328:=cN (bq 0 4 (Nat.le_of_ble_eq_true rfl))
 refine sU (σ:=Bool) [(3,0)] [1,3] 1 (fun ok=>([(1, .loc 0 0),(3,eY ok)],[.cells [aj v.kind,aj v.n,aw v.s,an (v.l.map cj),an (v.f.map ct)]],m)) (fun ok=>ok=fZ v) ?_ ?_
 · rintro ok kS
   refine az ?_
   refine ah (fun J=>?_) (fun J=>?_)
   · refine az ?_
     refine br ?_
     refine b7 (σ:=Int) [] [1,170,171,172] 1 (fun i=>([(1, .loc 0 0),(170,an (v.l.map cj)),(171,aj (v.l.length:Int)),(172,aj i)],[.cells [aj v.kind,aj v.n,aw v.s,an (v.l.map cj),an (v.f.map ct)]],m)) (fun i=>0≤i∧i≤v.l.length∧v.l.all (dz k)=(v.l.drop i.toNat).all (dz k)) (fun i=>v.l.length- i.toNat) (0) ⟨rfl,rfl⟩ ?_ ?_
     · try dsimp only
       exact ⟨by omega,by omega,rfl⟩
     rintro i ay
     refine az ?_
     refine ah (fun aa=>?_) (fun aa=>?_)
     · refine az ?_
       refine gj cZ ik (by omega) ?_
       refine b2 (fun _=>aQ (I v.l i) (by have:=iC v;first|(have:=iQ (cb (l:=v.l) (i:=i) ay.1 (by assumption));omega)|(have:=iR (cb (l:=v.f) (i:=i2) a1.1 (by assumption));omega))) rfl ?_
       refine ah (fun ai=>?_) (fun ai=>?_)
       · refine ah (by omega) ?_
         refine ⟨(i+1),⟨rfl,rfl⟩,?_,?_⟩
         · try dsimp only
           exact ⟨by omega,by omega,by rw [ay.2.2,qq ay.1 aa,BH ai,Bool.true_and]⟩
         try dsimp only
         omega
       refine bh rfl fun _=>?_
       show K (.err 115 3) m
       rw [Pw (by rw [ay.2.2,qq ay.1 aa,Gx ai,Bool.false_and])] at ab;exact ab
     refine az ?_
     refine br ?_
     refine b7 (σ:=Int) [] [182,183,184] 1 (fun i2=>([(182,an (v.f.map ct)),(183,aj (v.f.length:Int)),(184,aj i2)],[.cells [aj v.kind,aj v.n,aw v.s,an (v.l.map cj),an (v.f.map ct)]],m)) (fun i2=>0≤i2∧i2≤v.f.length∧v.f.all (fun p=>dz k p.2)=(v.f.drop i2.toNat).all (fun p=>dz k p.2)) (fun i2=>v.f.length- i2.toNat) (0) ⟨rfl,rfl⟩ ?_ ?_
     · try dsimp only
       exact ⟨by omega,by omega,rfl⟩
     rintro i2 a1
     refine az ?_
     refine ah (fun aJ=>?_) (fun aJ=>?_)
     · refine az ?_
       refine gj iO iB (by omega) ?_
       refine b2 (fun _=>aQ ((I v.f i2).2) (by have:=iC v;first|(have:=iQ (cb (l:=v.l) (i:=i) ay.1 (by assumption));omega)|(have:=iR (cb (l:=v.f) (i:=i2) a1.1 (by assumption));omega))) rfl ?_
       refine ah (fun aY=>?_) (fun aY=>?_)
       · refine ah (by omega) ?_
         refine ⟨(i2+1),⟨rfl,rfl⟩,?_,?_⟩
         · try dsimp only
           exact ⟨by omega,by omega,by rw [a1.2.2,qq (g:=fun p:aD×a7=>dz k p.2) a1.1 aJ,BH aY,Bool.true_and]⟩
         try dsimp only
         omega
       refine bh rfl fun _=>?_
       show K (.err 115 3) m
       rw [Px (by rw [a1.2.2,qq (g:=fun p:aD×a7=>dz k p.2) a1.1 aJ,Gx aY,Bool.false_and])] at ab;exact ab
     refine bh rfl fun _=>?_
     show K (.err 115 0) m
     rw [Py (by rw [←kS,J]) (by rw [ay.2.2,List.drop_eq_nil_of_le (by omega)];rfl) (by rw [a1.2.2,List.drop_eq_nil_of_le (by omega)];rfl)] at ab;exact ab
   refine bh rfl fun _=>?_
   show K (.err 115 3) m
   rw [Pv (by rw [←kS,J])] at ab;exact ab
 refine ah (fun bG=>?_) (fun bG=>?_)
 · refine cq [1] 3 (((v.n==0)&&(v.s==([])))&&(((v.l.length:Int)+(v.f.length:Int))==0)) ?_ ?_
   · repeat' first
      |exact ⟨⟨_,rfl,by grind [bD.val]⟩,rfl⟩
      |refine ah (fun _=>?_) (fun _=>?_)
      |refine br ?_
      |refine ah (by omega) ?_
   refine ⟨((((v.n==0)&&(v.s==([])))&&(((v.l.length:Int)+(v.f.length:Int))==0))),⟨rfl,rfl⟩,?_⟩
   unfold fZ
   repeat' split
   all_goals first|omega|rfl
 refine ah (fun c7=>?_) (fun c7=>?_)
 · refine cq [1] 3 ((((decide (-1000000000≤v.n))&&(decide (v.n≤1000000000)))&&(v.s==([])))&&(((v.l.length:Int)+(v.f.length:Int))==0)) ?_ ?_
   · repeat' first
      |exact ⟨⟨_,rfl,by grind [bD.val]⟩,rfl⟩
      |refine ah (fun _=>?_) (fun _=>?_)
      |refine br ?_
      |refine ah (by omega) ?_
   refine ⟨(((((decide (-1000000000≤v.n))&&(decide (v.n≤1000000000)))&&(v.s==([])))&&(((v.l.length:Int)+(v.f.length:Int))==0))),⟨rfl,rfl⟩,?_⟩
   unfold fZ
   repeat' split
   all_goals first|omega|rfl
 refine ah (fun cV=>?_) (fun cV=>?_)
 · refine cq [1] 3 (((v.n==0)&&(decide ((v.s.length:Int)≤40)))&&(((v.l.length:Int)+(v.f.length:Int))==0)) ?_ ?_
   · repeat' first
      |exact ⟨⟨_,rfl,by grind [bD.val]⟩,rfl⟩
      |refine ah (fun _=>?_) (fun _=>?_)
      |refine br ?_
      |refine ah (by omega) ?_
   refine ⟨((((v.n==0)&&(decide ((v.s.length:Int)≤40)))&&(((v.l.length:Int)+(v.f.length:Int))==0))),⟨rfl,rfl⟩,?_⟩
   unfold fZ
   repeat' split
   all_goals first|omega|rfl
 refine ah (fun cU=>?_) (fun cU=>?_)
 · refine cq [1] 3 ((((v.n==0)||(v.n==1))&&(v.s==([])))&&(((v.l.length:Int)+(v.f.length:Int))==0)) ?_ ?_
   · repeat' first
      |exact ⟨⟨_,rfl,by grind [bD.val]⟩,rfl⟩
      |refine ah (fun _=>?_) (fun _=>?_)
      |refine br ?_
      |refine ah (by omega) ?_
   refine ⟨(((((v.n==0)||(v.n==1))&&(v.s==([])))&&(((v.l.length:Int)+(v.f.length:Int))==0))),⟨rfl,rfl⟩,?_⟩
   unfold fZ
   repeat' split
   all_goals first|omega|rfl
 refine ah (fun eH=>?_) (fun eH=>?_)
 · refine cq [1] 3 (((v.n==0)&&(v.s==([])))&&((v.f.length:Int)==0)) ?_ ?_
   · repeat' first
      |exact ⟨⟨_,rfl,by grind [bD.val]⟩,rfl⟩
      |refine ah (fun _=>?_) (fun _=>?_)
      |refine br ?_
   refine ⟨((((v.n==0)&&(v.s==([])))&&((v.f.length:Int)==0))),⟨rfl,rfl⟩,?_⟩
   unfold fZ
   repeat' split
   all_goals first|omega|rfl
 refine ah (fun fF=>?_) (fun fF=>?_)
 · refine cq [1] 3 (((v.n==0)&&(v.s==([])))&&((v.l.length:Int)==0)) ?_ ?_
   · repeat' first
      |exact ⟨⟨_,rfl,by grind [bD.val]⟩,rfl⟩
      |refine ah (fun _=>?_) (fun _=>?_)
      |refine br ?_
   refine br ?_
   refine b7 (σ:=Bool×Int) [(3,0)] [1,3,136,137,138] 1 (fun ⟨ok,i⟩=>([(1, .loc 0 0),(3,eY ok),(136,an (v.f.map ct)),(137,aj (v.f.length:Int)),(138,aj i)],[.cells [aj v.kind,aj v.n,aw v.s,an (v.l.map cj),an (v.f.map ct)]],m)) (fun ⟨ok,i⟩=>0≤i∧i≤v.f.length∧fZ v=(ok&&lR (rB v.f i) (v.f.drop i.toNat))) (fun ⟨ok,i⟩=>v.f.length- i.toNat) ((((v.n==0)&&(v.s==([])))&&((v.l.length:Int)==0)),0) ⟨rfl,rfl⟩ ?_ ?_
   · try dsimp only
     refine ⟨by omega,by omega,?_⟩
     unfold fZ
     rw [if_neg (by assumption),if_neg (by assumption),if_neg (by assumption),if_neg (by assumption),if_neg (by assumption),if_pos (by assumption)]
     rfl
   rintro ⟨ok,i⟩ ay
   dsimp only at ay
   refine az ?_
   refine ah (fun hL=>?_) (fun hL=>?_)
   · refine az ?_
     refine gj iO iB (by omega) ?_
     refine ⟨fun PB=>?_⟩
     have PC:(I v.f i).1.length≤140737488355328:=EF (f:=ct) (PB 136).2 (cb ay.1 hL) 0 (Nat.succ_pos _)
     refine cq [1,136,137,138] 3 ((ok&&(cr ((I v.f i).1)))&&((i==0)||(Op.bytesLess ((I v.f (i- 1)).1) ((I v.f i).1)))) ?_ ?_
     · repeat' first
        |exact ⟨⟨_,rfl,by grind [bD.val]⟩,rfl⟩
        |refine ah (fun _=>?_) (fun _=>?_)
        |refine ih (fun _=>qn ((I v.f i).1) PC) ?_
        |refine ah (by omega) ?_
        |refine gj iO iB (by omega) ?_
     refine ah (by omega) ?_
     refine ⟨(((ok&&(cr ((I v.f i).1)))&&((i==0)||(Op.bytesLess ((I v.f (i- 1)).1) ((I v.f i).1)))),i+1),⟨rfl,rfl⟩,?_,?_⟩
     · try dsimp only
       exact ⟨by omega,by omega,by rw [ay.2.2,x2 ay.1 hL];simp only [Bool.and_assoc]⟩
     try dsimp only
     omega
   refine ⟨(ok),⟨rfl,rfl⟩,?_⟩
   rw [ay.2.2,List.drop_eq_nil_of_le (by omega)];simp [lR]
 refine ⟨(false),⟨rfl,rfl⟩,?_⟩
 unfold fZ
 repeat' split
 all_goals first|omega|rfl
theorem Gz:∀(k:Nat) (v:a7),bP v<k→∀(m:ae) (K:U→ae→Prop),K (.err 115 (kU (dz k v))) m→bg Tryz.prog 160 [cZ v] m K
 |0,_,h=>absurd h (Nat.not_lt_zero _)
 |k+1,v,h=>fun m K ab=>PA k v (Gz k) h m K ab
set_option maxHeartbeats 2000000 in
theorem PD (v:a7) (m:ae) (K:U→ae→Prop) (ab:K (.err 115 (b5 v)) m):bg Tryz.prog 92 [cZ v] m K:=by
 refine enter (c:=cX [] [] [] [] [] []) (vs:=[.aH (cZ v)]) (L:=[]) (m:=m) true b9 Tryz.mixed Tryz.func92 rfl (k:=1) (by show cu [] _ _ _=true;decide+kernel) rfl (Good.nil m) ?_
 refine az ?_
 refine gn [1] [.cells [aj ((dY (bP v+1) 1 v 60).2)]] (eY ((dY (bP v+1) 1 v 60).1)) rfl (fun bs aF gd=>Gy (bP v+1) v 1 60 (Nat.lt_succ_self _) (by omega) (by omega) (by omega) (by omega) (bs.getD 1 0) aF gd) ?_
 refine ah (fun J=>?_) (fun J=>?_)
 · refine b2 (fun _=>Gz (bP v+1) v (Nat.lt_succ_self _)) rfl ?_
   have bA:b5 v=(kU (dz (bP v+1) v):Int):=by
    first|(rw [b5,if_pos (by assumption)];done)|(rw [b5,if_neg (by simp_all)];done)
   rw [bA] at ab
   exact bh rfl fun _=>ab
 have bA:b5 v=(2:Int):=by
  first|(rw [b5,if_pos (by assumption)];done)|(rw [b5,if_neg (by simp_all)];done)
 rw [bA] at ab
 exact bh rfl fun _=>ab
set_option maxHeartbeats 4000000 in
theorem PE (a b:a7) (aQ:∀v w:a7,bP v<bP a→∀(m:ae) (K:U→ae→Prop),K (.bool (gT v w)) m→bg Tryz.prog 117 [cZ v,cZ w] m K) (m:ae) (K:U→ae→Prop) (ab:K (.bool (gT a b)) m):bg Tryz.prog 117 [cZ a,cZ b] m K:=by
 refine enter (c:=cX [] [0] [1,12] [] [] []) (vs:=[.aH (cZ a), .aH (cZ b)]) (L:=[]) (m:=m) false b9 Tryz.mixed Tryz.func117 rfl (k:=2) (by show cu [] _ _ _=true;decide+kernel) rfl (Good.nil m) ?_
 refine ⟨fun bq=>?_⟩
 have nq:a.s.length≤140737488355328:=(bq 0 2 (Nat.le_of_ble_eq_true rfl))
 have jx:a.l.length≤140737488355328:=cN (bq 0 3 (Nat.le_of_ble_eq_true rfl))
 have lN:a.f.length≤140737488355328:=cN (bq 0 4 (Nat.le_of_ble_eq_true rfl))
 have PF:b.s.length≤140737488355328:=(bq 1 2 (Nat.le_of_ble_eq_true rfl))
 have GA:b.l.length≤140737488355328:=cN (bq 1 3 (Nat.le_of_ble_eq_true rfl))
 have GB:b.f.length≤140737488355328:=cN (bq 1 4 (Nat.le_of_ble_eq_true rfl))
 refine az ?_
 refine cq [2,3] 43 (((((!(a.kind==b.kind))||(!(a.n==b.n)))||(!(a.s==b.s)))||(!((a.l.length:Int)==(b.l.length:Int))))||(!((a.f.length:Int)==(b.f.length:Int)))) ?_ ?_
 · repeat' first
    |exact ⟨⟨_,rfl,by grind [bD.val]⟩,rfl⟩
    |refine ah (fun _=>?_) (fun _=>?_)
    |refine br ?_
 refine ah (fun J=>?_) (fun J=>?_)
 · replace J:((((a.kind≠b.kind)∨(a.n≠b.n))∨(a.s≠b.s))∨((a.l.length:Int)≠(b.l.length:Int)))∨((a.f.length:Int)≠(b.f.length:Int)):=((dj J).imp (fun q=>((dj q).imp (fun q=>((dj q).imp (fun q=>((dj q).imp (fun q=>(ne_of_beq_false (ds q))) (fun q=>(ne_of_beq_false (ds q))))) (fun q=>(ne_of_beq_false (ds q))))) (fun q=>(ne_of_beq_false (ds q))))) (fun q=>(ne_of_beq_false (ds q))))
   refine bh rfl fun _=>?_
   show K (.bool false) m
   rw [te (by intro aT;subst aT;simp at J)] at ab;exact ab
 replace J:((((a.kind=b.kind)∧(a.n=b.n))∧(a.s=b.s))∧((a.l.length:Int)=(b.l.length:Int)))∧((a.f.length:Int)=(b.f.length:Int)):=⟨⟨⟨⟨(eq_of_beq (dn (b8 (b8 (b8 (b8 J)))))),(eq_of_beq (dn (di (b8 (b8 (b8 J))))))⟩,(eq_of_beq (dn (di (b8 (b8 J)))))⟩,(eq_of_beq (dn (di (b8 J))))⟩,(eq_of_beq (dn (di J)))⟩
 obtain ⟨⟨⟨⟨ak,aI⟩,al⟩,av⟩,aN⟩:=J
 refine az ?_
 refine br ?_
 refine b7 (σ:=Int) [] [2,3,46,47] 2 (fun i=>([(2, .loc 0 0),(3, .loc 1 0),(46,aj (a.l.length:Int)),(47,aj i)],[.cells [aj a.kind,aj a.n,aw a.s,an (a.l.map cj),an (a.f.map ct)], .cells [aj b.kind,aj b.n,aw b.s,an (b.l.map cj),an (b.f.map ct)]],m)) (fun i=>0≤i∧i≤a.l.length∧a.l.take i.toNat=b.l.take i.toNat) (fun i=>a.l.length- i.toNat) (0) ⟨rfl,rfl⟩ ?_ ?_
 · try dsimp only
   exact ⟨by omega,by omega,rfl⟩
 rintro i ay
 refine az ?_
 refine ah (fun aa=>?_) (fun aa=>?_)
 · refine az ?_
   refine gj cZ ik (by omega) ?_
   refine gj cZ ik (by omega) ?_
   refine ih (fun _=>aQ (I a.l i) (I b.l i) (by have:=iC a;first|(have:=iQ (cb (l:=a.l) (i:=i) ay.1 (by assumption));omega)|(have:=iR (cb (l:=a.f) (i:=i2) a1.1 (by assumption));omega))) ?_
   refine ah (fun ai=>?_) (fun ai=>?_)
   · refine ah (by omega) ?_
     refine ⟨(i+1),⟨rfl,rfl⟩,?_,?_⟩
     · try dsimp only
       exact ⟨by omega,by omega,by rw [gz ay.1 aa,gz ay.1 (by omega),ay.2.2,rA.1 ai]⟩
     try dsimp only
     omega
   refine bh rfl fun _=>?_
   show K (.bool false) m
   rw [te (by intro aT;subst aT;rw [qo rfl] at ai;cases ai)] at ab;exact ab
 refine az ?_
 refine br ?_
 refine b7 (σ:=Int) [] [2,3,65,66] 2 (fun i2=>([(2, .loc 0 0),(3, .loc 1 0),(65,aj (a.f.length:Int)),(66,aj i2)],[.cells [aj a.kind,aj a.n,aw a.s,an (a.l.map cj),an (a.f.map ct)], .cells [aj b.kind,aj b.n,aw b.s,an (b.l.map cj),an (b.f.map ct)]],m)) (fun i2=>0≤i2∧i2≤a.f.length∧a.f.take i2.toNat=b.f.take i2.toNat) (fun i2=>a.f.length- i2.toNat) (0) ⟨rfl,rfl⟩ ?_ ?_
 · try dsimp only
   exact ⟨by omega,by omega,rfl⟩
 rintro i2 a1
 refine az ?_
 refine ah (fun aJ=>?_) (fun aJ=>?_)
 · refine az ?_
   refine cq [2,3,65,66] 97 ((!(((I a.f i2).1)==((I b.f i2).1)))||(!(gT ((I a.f i2).2) ((I b.f i2).2)))) ?_ ?_
   · repeat' first
      |exact ⟨⟨_,rfl,by grind [bD.val]⟩,rfl⟩
      |refine ah (fun _=>?_) (fun _=>?_)
      |refine gj iO iB (by omega) ?_
      |refine ih (fun _=>aQ ((I a.f i2).2) ((I b.f i2).2) (by have:=iC a;first|(have:=iQ (cb (l:=a.l) (i:=i) ay.1 (by assumption));omega)|(have:=iR (cb (l:=a.f) (i:=i2) a1.1 (by assumption));omega))) ?_
   refine ah (fun aY=>?_) (fun aY=>?_)
   · replace aY:((I a.f i2).1≠(I b.f i2).1)∨(gT ((I a.f i2).2) ((I b.f i2).2)=false):=((dj aY).imp (fun q=>(ne_of_beq_false (ds q))) (fun q=>(ds q)))
     refine bh rfl fun _=>?_
     show K (.bool false) m
     rw [te (by intro aT;subst aT;rw [qo rfl] at aY;simp at aY)] at ab;exact ab
   replace aY:((I a.f i2).1=(I b.f i2).1)∧(gT ((I a.f i2).2) ((I b.f i2).2)=true):=⟨(eq_of_beq (dn (b8 aY))),(dn (di aY))⟩
   refine ah (by omega) ?_
   refine ⟨(i2+1),⟨rfl,rfl⟩,?_,?_⟩
   · try dsimp only
     exact ⟨by omega,by omega,by rw [gz a1.1 aJ,gz a1.1 (by omega),a1.2.2,Prod.ext aY.1 (rA.1 aY.2)]⟩
   try dsimp only
   omega
 refine bh rfl fun _=>?_
 show K (.bool true) m
 rw [qo (a7.ext' ak aI al (by have:=ay.2.2;rwa [fm (by omega),fm (by omega)] at this) (by have:=a1.2.2;rwa [fm (by omega),fm (by omega)] at this))] at ab;exact ab
theorem GC:∀(n:Nat) (a b:a7),bP a<n→∀(m:ae) (K:U→ae→Prop),K (.bool (gT a b)) m→bg Tryz.prog 117 [cZ a,cZ b] m K
 |0,_,_,h=>absurd h (Nat.not_lt_zero _)
 |n+1,a,b,h=>fun m K ab=>PE a b (fun v w bn=>GC n v w (by omega)) m K ab
theorem PG (a b:a7) (m:ae) (K:U→ae→Prop) (ab:K (.bool (gT a b)) m):bg Tryz.prog 117 [cZ a,cZ b] m K:=GC (bP a+1) a b (Nat.lt_succ_self _) m K ab
end Go.Proofs
end
section
namespace Go.Proofs
open Go Go.ba Go.bV
set_option maxRecDepth 100000
def iD {α:Type} (g:α→Int) (l:List α) (d:Int):Int:=l.foldl (fun d x=>if g x>d then g x else d) d
def ff:Nat→a7→Int
 |0,_=>0
 |k+1,v=>iD (fun p=>ff k p.2) v.f (iD (ff k) v.l 0)+1
theorem GD {α:Type} [Inhabited α] (g:α→Int) {l:List α} {i:Int} (d:Int) (aG:0≤i) (ad:i<l.length):iD g (l.take (i+1).toNat) d=if g (I l i)>iD g (l.take i.toNat) d then g (I l i) else iD g (l.take i.toNat) d:=by
 rw [gz aG ad];unfold iD;rw [List.foldl_append];rfl
theorem vO {α:Type} (g:α→Int) (B:Int):∀(l:List α) (d:Int),(iD g l d≤B↔d≤B∧∀x∈l,g x≤B)
 |[],d=>by simp [iD]
 |x::r,d=>by
  rw [show iD g (x::r) d=iD g r (if g x>d then g x else d) from rfl,vO g B r]
  simp only [List.mem_cons,forall_eq_or_imp]
  split<;>constructor<;>(intro h;refine ⟨?_,?_⟩)<;>first|omega|exact h.2|(refine ⟨?_,?_⟩<;>first|omega|exact h.2)|exact h.2.2
theorem BI {α:Type} (g:α→Int):∀(l:List α) (d:Int),d≤iD g l d
 |[],d=>Int.le_refl _
 |x::r,d=>by
  rw [show iD g (x::r) d=iD g r (if g x>d then g x else d) from rfl]
  refine Int.le_trans ?_ (BI g r (if g x>d then g x else d))
  split<;>omega
theorem GF {α:Type} [Inhabited α] (g:α→Nat) {l:List α} {i:Int} (aG:0≤i) (ad:i<l.length):hA g (l.take (i+1).toNat)=hA g (l.take i.toNat)+g (I l i):=by
 have e:∀(a b:List α),hA g (a++b)=hA g a+hA g b:=fun a b=>by
  induction a with
  |nil=>simp [hA]
  |cons x r aQ=>simp only [List.cons_append,hA,aQ];omega
 rw [gz aG ad,e];simp [hA]
theorem x5 {α:Type} (g:α→Nat) (l:List α) (k:Nat):hA g (l.take k)≤hA g l:=by
 induction l generalizing k with
 |nil=>simp
 |cons x r aQ=>
  cases k with
  |zero=>simp [hA]
  |succ k=>rw [List.take_succ_cons,hA,hA];have:=aQ k;omega
theorem vP:∀(k:Nat) (v:a7),bP v<k→1≤ff k v∧ff k v≤bP v
 |0,_,h=>absurd h (Nat.not_lt_zero _)
 |k+1,v,h=>by
  have e:=iC v
  rw [ff]
  have J:=BI (ff k) v.l 0
  have aa:=BI (fun p:aD×a7=>ff k p.2) v.f (iD (ff k) v.l 0)
  refine ⟨by omega,?_⟩
  have a:iD (ff k) v.l 0≤(bP v:Int)- 1:=(vO _ _ _ _).2 ⟨by omega,fun x aq=>by
   have q:=iQ aq;have:=(vP k x (by omega)).2;omega⟩
  have b:iD (fun p:aD×a7=>ff k p.2) v.f (iD (ff k) v.l 0)≤(bP v:Int)- 1:=(vO _ _ _ _).2 ⟨a,fun x aq=>by
   have q:=iR aq;have:=(vP k x.2 (by omega)).2;omega⟩
  omega
theorem BJ {α:Type} {g:α→Int→Bool×Int} {d:α→Nat} {h:α→Prop}:∀(l:List α) (n:Int),0≤n→(∀x∈l,∀n,0≤n→((g x n).1=true↔(d x:Int)≤n∧h x))→(∀x n,0≤n→(g x n).1=true→0≤(g x n).2∧(g x n).2+d x=n)→((hK g l n).1=true↔(hA d l:Int)≤n∧∀x∈l,h x)
 |[],n,aG,_,_=>by simp [hK,hA,aG]
 |x::r,n,aG,bl,ak=>by
  rw [hK,hA]
  have aq:=bl x (List.mem_cons_self ..) n aG
  by_cases c:(g x n).1=true
  · have q:=ak x n aG c
    rw [if_pos c,BJ r _ q.1 (fun y aK=>bl y (List.mem_cons_of_mem _ aK)) ak]
    have:=aq.1 c
    simp only [List.mem_cons,forall_eq_or_imp]
    constructor
    · intro z;exact ⟨by push_cast;omega,this.2,z.2⟩
    · intro z;exact ⟨by have:=z.1;push_cast at this;omega,z.2.2⟩
  · rw [if_neg c]
    simp only [Bool.false_eq_true,false_iff]
    intro z
    exact c (aq.2 ⟨by have:=z.1;push_cast at this;omega,z.2 x (List.mem_cons_self ..)⟩)
theorem BK:∀(k:Nat) (deep:Int) (v:a7) (n:Int),bP v<k→0≤n→1≤deep→((dY k deep v n).1=true↔(bP v:Int)≤n∧deep+ff k v≤7)
 |0,_,_,_,h,_,_=>absurd h (Nat.not_lt_zero _)
 |k+1,deep,v,n,h,aG,J=>by
  have e:=iC v
  have aT:=vP (k+1) v h
  have PH:∀x∈v.l,∀n,0≤n→((dY k (deep+1) x n).1=true↔(bP x:Int)≤n∧(ff k x≤6- deep)):=fun x aq n aI=>by
   have q:=iQ aq
   rw [BK k (deep+1) x n (by omega) aI (by omega)]
   constructor<;>(intro z;exact ⟨z.1,by omega⟩)
  have PI:∀x∈v.f,∀n,0≤n→((dY k (deep+1) x.2 n).1=true↔(bP x.2:Int)≤n∧(ff k x.2≤6- deep)):=fun x aq n aI=>by
   have q:=iR aq
   rw [BK k (deep+1) x.2 n (by omega) aI (by omega)]
   constructor<;>(intro z;exact ⟨z.1,by omega⟩)
  have PJ:deep+ff (k+1) v≤7↔deep≤6∧(∀x∈v.l,ff k x≤6- deep)∧∀x∈v.f,ff k x.2≤6- deep:=by
   rw [ff]
   have a:=vO (ff k) (6- deep) v.l 0
   have b:=vO (fun p:aD×a7=>ff k p.2) (6- deep) v.f (iD (ff k) v.l 0)
   constructor
   · intro z
     have ia:=b.1 (by omega)
     have cn:=a.1 ia.1
     exact ⟨by omega,cn.2,ia.2⟩
   · intro z
     have cn:=a.2 ⟨by omega,z.2.1⟩
     have ia:=b.2 ⟨cn,z.2.2⟩
     omega
  rw [PJ,dY]
  have bT:=BF v.l
  have UJ:=BG v.f
  by_cases c:6<deep∨n- 1<0
  · rw [if_pos c]
    simp only [Bool.false_eq_true,false_iff]
    intro z
    rcases c with c|c<;>omega
  · rw [if_neg c]
    have GG:=BJ (d:=bP) (h:=fun x=>ff k x≤6- deep) v.l (n- 1) (by omega) PH (fun x n aI aq=>qp k (deep+1) x n aI aq)
    by_cases c2:(hK (dY k (deep+1)) v.l (n- 1)).1=false
    · rw [if_pos c2]
      simp only [Bool.false_eq_true,false_iff]
      intro z
      have:(hK (dY k (deep+1)) v.l (n- 1)).1=true:=GG.2 ⟨by omega,z.2.2.1⟩
      rw [c2] at this;cases this
    · have c3:(hK (dY k (deep+1)) v.l (n- 1)).1=true:=by simpa using c2
      rw [if_neg c2]
      have a:=x1 (d:=bP) (g:=dY k (deep+1)) (fun x n aI aq=>qp k (deep+1) x n aI aq) v.l (n- 1) (by omega) c3
      have i2:=BJ (g:=fun p:aD×a7=>dY k (deep+1) p.2) (d:=fun p:aD×a7=>bP p.2) (h:=fun x=>ff k x.2≤6- deep) v.f _ a.1 PI (fun x n aI aq=>qp k (deep+1) x.2 n aI aq)
      rw [i2]
      have q:=GG.1 c3
      constructor
      · intro z;exact ⟨by omega,by omega,q.2,z.2⟩
      · intro z;exact ⟨by omega,z.2.2.2⟩
theorem BL {v:a7}:b5 v=if (60<(bP v:Int)∨6<ff (bP v+1) v) then 2 else if dz (bP v+1) v=true then 0 else 3:=by
 have q:=BK (bP v+1) 1 v 60 (Nat.lt_succ_self _) (by omega) (by omega)
 unfold b5
 by_cases c:(dY (bP v+1) 1 v 60).1=true
 · have:=q.1 c
   rw [if_pos c,if_neg (by omega)];rfl
 · rw [if_neg c,if_pos (by
    refine Classical.byContradiction fun z=>c (q.2 ⟨by omega,by omega⟩))]
set_option maxHeartbeats 4000000 in
theorem PK (k:Nat) (v:a7) (cd:bP v≤1000000000000) (aQ:∀w:a7,bP w<bP v→∀(m:ae) (K:U→ae→Prop),K (.tuple [.int .i64 (bP w:Int), .int .i64 (ff k w)]) m→bg Tryz.prog 145 [cZ w] m K) (bo:bP v<k+1) (m:ae) (K:U→ae→Prop) (ab:K (.tuple [.int .i64 (bP v:Int), .int .i64 (ff (k+1) v)]) m):bg Tryz.prog 145 [cZ v] m K:=by
 have PL:=iC v
 have js:=BF v.l
 have UK:=BG v.f
 refine enter (c:=cX [] [0] [] [] [] []) (vs:=[.aH (cZ v)]) (L:=[]) (m:=m) false b9 Tryz.mixed Tryz.func145 rfl (k:=1) (by show cu [] _ _ _=true;decide+kernel) rfl (Good.nil m) ?_
 refine ⟨fun bq=>?_⟩
 have nq:v.s.length≤140737488355328:=(bq 0 2 (Nat.le_of_ble_eq_true rfl))
 have jx:v.l.length≤140737488355328:=cN (bq 0 3 (Nat.le_of_ble_eq_true rfl))
 have lN:v.f.length≤140737488355328:=cN (bq 0 4 (Nat.le_of_ble_eq_true rfl))
 refine az ?_
 refine b7 (σ:=Int×Int×Int) [] [1,4,5,6] 1 (fun ⟨h2,d1,i⟩=>([(1, .loc 0 0),(4,aj h2),(5,aj d1),(6,aj i)],[.cells [aj v.kind,aj v.n,aw v.s,an (v.l.map cj),an (v.f.map ct)]],m)) (fun ⟨h2,d1,i⟩=>0≤i∧i≤v.l.length∧h2=1+hA bP (v.l.take i.toNat)∧d1=iD (ff k) (v.l.take i.toNat) 0∧0≤d1∧d1≤bP v) (fun ⟨h2,d1,i⟩=>v.l.length- i.toNat) (1,0,0) ⟨rfl,rfl⟩ ?_ ?_
 · try dsimp only
   exact ⟨by omega,by omega,by simp [hA],by simp [iD],by omega,by omega⟩
 rintro ⟨h2,d1,i⟩ ay
 dsimp only at ay
 have FC:=x5 bP v.l i.toNat
 refine az ?_
 refine br ?_
 refine ah (fun J=>?_) (fun J=>?_)
 · have PM:=iQ (cb (l:=v.l) (i:=i) ay.1 J)
   have db:=GF bP (l:=v.l) ay.1 J
   have qQ:=vP k (I v.l i) (by omega)
   have UL:=x5 bP v.l (i+1).toNat
   refine az ?_
   refine gj cZ ik (by omega) ?_
   refine b2 (fun _=>aQ (I v.l i) (by have:=iC v;first|(have:=iQ (cb (l:=v.l) (i:=i) ay.1 (by assumption));omega)|(have:=iR (cb (l:=v.f) (i:=i2) a1.1 (by assumption));omega))) rfl ?_
   refine ah (by omega) ?_
   refine ah (by omega) ?_
   refine ⟨(h2+(bP (I v.l i):Int),if ff k (I v.l i)>d1 then ff k (I v.l i) else d1,i+1),⟨rfl,rfl⟩,?_,?_⟩
   · try dsimp only
     refine ⟨by omega,by omega,by omega,?_,?_,?_⟩
     · rw [GD _ _ ay.1 J,←ay.2.2.2.1]
     · split<;>omega
     · split<;>omega
   try dsimp only
   omega
 have PN:v.l.take i.toNat=v.l:=fm J
 refine az ?_
 refine b7 (σ:=Int×Int×Int) [] [1,4,5,9] 1 (fun ⟨e3,d2,i2⟩=>([(1, .loc 0 0),(4,aj e3),(5,aj d2),(9,aj i2)],[.cells [aj v.kind,aj v.n,aw v.s,an (v.l.map cj),an (v.f.map ct)]],m)) (fun ⟨e3,d2,i2⟩=>0≤i2∧i2≤v.f.length∧e3=1+ld v.l+hA (fun p:aD×a7=>bP p.2) (v.f.take i2.toNat)∧d2=iD (fun p:aD×a7=>ff k p.2) (v.f.take i2.toNat) (iD (ff k) v.l 0)∧0≤d2∧d2≤bP v) (fun ⟨e3,d2,i2⟩=>v.f.length- i2.toNat) (h2,d1,0) ⟨rfl,rfl⟩ ?_ ?_
 · try dsimp only
   rw [PN] at ay
   exact ⟨by omega,by omega,by simp [hA];omega,by simp [iD];exact ay.2.2.2.1,by omega,by omega⟩
 rintro ⟨e3,d2,i2⟩ a1
 dsimp only at a1
 have UM:=x5 (fun p:aD×a7=>bP p.2) v.f i2.toNat
 refine az ?_
 refine br ?_
 refine ah (fun aa=>?_) (fun aa=>?_)
 · have PM:=iR (cb (l:=v.f) (i:=i2) a1.1 aa)
   have db:=GF (fun p:aD×a7=>bP p.2) (l:=v.f) a1.1 aa
   have qQ:=vP k (I v.f i2).2 (by omega)
   have UN:=x5 (fun p:aD×a7=>bP p.2) v.f (i2+1).toNat
   refine az ?_
   refine gj iO iB (by omega) ?_
   refine b2 (fun _=>aQ ((I v.f i2).2) (by have:=iC v;first|(have:=iQ (cb (l:=v.l) (i:=i) ay.1 (by assumption));omega)|(have:=iR (cb (l:=v.f) (i:=i2) a1.1 (by assumption));omega))) rfl ?_
   refine ah (by omega) ?_
   refine ah (by omega) ?_
   refine ⟨(e3+(bP ((I v.f i2).2):Int),if ff k ((I v.f i2).2)>d2 then ff k ((I v.f i2).2) else d2,i2+1),⟨rfl,rfl⟩,?_,?_⟩
   · try dsimp only
     refine ⟨by omega,by omega,by omega,?_,?_,?_⟩
     · rw [GD (fun p:aD×a7=>ff k p.2) _ a1.1 aa,←a1.2.2.2.1]
     · split<;>omega
     · split<;>omega
   try dsimp only
   omega
 refine ah (by omega) ?_
 refine bh rfl fun _=>?_
 show K (.tuple [.int .i64 e3, .int .i64 (d2+1)]) m
 have PO:v.f.take i2.toNat=v.f:=fm aa
 rw [PO] at a1
 have aM:e3=(bP v:Int):=by omega
 have aC:d2+1=ff (k+1) v:=by rw [ff,←a1.2.2.2.1]
 rw [aM,aC];exact ab
theorem GH:∀(k:Nat) (v:a7),bP v<k→bP v≤1000000000000→∀(m:ae) (K:U→ae→Prop),K (.tuple [.int .i64 (bP v:Int), .int .i64 (ff k v)]) m→bg Tryz.prog 145 [cZ v] m K
 |0,_,h=>absurd h (Nat.not_lt_zero _)
 |k+1,v,h=>fun cd m K ab=>PK k v cd (fun w hw=>GH k w (by omega) (by omega)) h m K ab
set_option maxHeartbeats 2000000 in
theorem oG (s:aD) (m:ae) (K:U→ae→Prop) (ab:K (.bool (cr s)) m):bg Tryz.prog 41 [.str s] m K:=by
 refine enter (c:=cX [] [0] [1,6,7,8] [] [] []) (vs:=[.aH (.str s)]) (L:=[]) (m:=m) false b9 Tryz.mixed Tryz.func41 rfl (k:=1) (by show cu [] _ _ _=true;decide+kernel) rfl (Good.nil m) ?_
 refine ⟨fun bq=>?_⟩
 have jy:s.length≤140737488355328:=bq 0
 refine az ?_
 refine cq [0] 13 ((decide ((s.length:Int)<1))||(decide (12<(s.length:Int)))) ?_ ?_
 · repeat' first
    |exact ⟨⟨_,rfl,by grind [bD.val]⟩,rfl⟩
    |refine ah (fun _=>?_) (fun _=>?_)
 refine ah (fun J=>?_) (fun J=>?_)
 · replace J:((s.length:Int)<1)∨(12<(s.length:Int)):=((dj J).imp (fun q=>(of_decide_eq_true q)) (fun q=>(of_decide_eq_true q)))
   refine bh rfl fun _=>df ab ?_
   show U.bool (cr s)=U.bool false
   refine congrArg U.bool ?_
   rw [cr];cases s<;>simp_all<;>omega
 replace J:(1≤(s.length:Int))∧((s.length:Int)≤12):=⟨(Int.not_lt.1 (of_decide_eq_false (b8 J))),(Int.not_lt.1 (of_decide_eq_false (di J)))⟩
 refine az ?_
 refine b7 (σ:=Int) [] [0,3] 0 (fun i=>([(0,aw s),(3,aj i)],[],m)) (fun i=>0≤i∧i≤s.length∧lQ s true=lQ (s.drop i.toNat) (i==0)) (fun i=>s.length- i.toNat) (0) ⟨rfl,rfl⟩ ?_ ?_
 · try dsimp only
   exact ⟨by omega,by omega,by simp⟩
 rintro i ay
 refine az ?_
 refine ah (fun aa=>?_) (fun aa=>?_)
 · refine az ?_
   refine cq [0,3] 4 ((decide (97≤((I s i).toNat:Int)))&&(decide (((I s i).toNat:Int)≤122))) ?_ ?_
   · repeat' first
      |exact ⟨⟨_,rfl,by grind [bD.val]⟩,rfl⟩
      |refine ah (fun _=>?_) (fun _=>?_)
      |refine ah (by omega) ?_
   refine cq [0,3,4] 5 ((decide (48≤((I s i).toNat:Int)))&&(decide (((I s i).toNat:Int)≤57))) ?_ ?_
   · repeat' first
      |exact ⟨⟨_,rfl,by grind [bD.val]⟩,rfl⟩
      |refine ah (fun _=>?_) (fun _=>?_)
      |refine ah (by omega) ?_
   refine cq [0,3] 49 ((!((decide (97≤((I s i).toNat:Int)))&&(decide (((I s i).toNat:Int)≤122))))&&((!((decide (48≤((I s i).toNat:Int)))&&(decide (((I s i).toNat:Int)≤57))))||(i==0))) ?_ ?_
   · repeat' first
      |exact ⟨⟨_,rfl,by grind [bD.val]⟩,rfl⟩
      |refine ah (fun _=>?_) (fun _=>?_)
   refine ah (fun ai=>?_) (fun ai=>?_)
   · replace ai:((((I s i).toNat:Int)<97)∨(122<((I s i).toNat:Int)))∧(((((I s i).toNat:Int)<48)∨(57<((I s i).toNat:Int)))∨(i=0)):=⟨((fl (ds (eO ai))).imp (fun q=>(Int.not_le.1 (of_decide_eq_false q))) (fun q=>(Int.not_le.1 (of_decide_eq_false q)))),((dj (fk ai)).imp (fun q=>((fl (ds q)).imp (fun q=>(Int.not_le.1 (of_decide_eq_false q))) (fun q=>(Int.not_le.1 (of_decide_eq_false q))))) (fun q=>(eq_of_beq q)))⟩
     refine bh rfl fun _=>df ab ?_
     show U.bool (cr s)=U.bool false
     refine congrArg U.bool ?_
     have ag:(lO (I s i)||(!(i==0)&&lP (I s i)))=false:=by
      rw [Bool.eq_false_iff];intro aT;simp [lO,lP] at aT;omega
     rw [cr,ay.2.2,td ay.1 aa,ag];rfl
   replace ai:((97≤((I s i).toNat:Int))∧(((I s i).toNat:Int)≤122))∨(((48≤((I s i).toNat:Int))∧(((I s i).toNat:Int)≤57))∧(i≠0)):=((fl ai).imp (fun q=>⟨(of_decide_eq_true (eO (dn q))),(of_decide_eq_true (fk (dn q)))⟩) (fun q=>⟨⟨(of_decide_eq_true (eO (dn (b8 q)))),(of_decide_eq_true (fk (dn (b8 q))))⟩,(ne_of_beq_false (di q))⟩))
   refine ah (by omega) ?_
   refine ⟨(i+1),⟨rfl,rfl⟩,?_,?_⟩
   · try dsimp only
     have ag:(lO (I s i)||(!(i==0)&&lP (I s i)))=true:=by simp [lO,lP];omega
     exact ⟨by omega,by omega,by rw [ay.2.2,td ay.1 aa,ag];rfl⟩
   try dsimp only
   omega
 refine bh rfl fun _=>df ab ?_
 show U.bool (cr s)=U.bool true
 refine congrArg U.bool ?_
 have aX:lQ s true=true:=by rw [ay.2.2,List.drop_eq_nil_of_le (by omega)];rfl
 rw [cr,aX];cases s<;>simp at*<;>omega
theorem lS (a b:Nat):((a:Int)+(b:Int)==0)=(((a:Int)==0)&&((b:Int)==0)):=by
 rw [Bool.eq_iff_iff];simp;omega
theorem GI (p:Option aD):lR p []=true:=by cases p<;>rfl
theorem PQ {k:Nat} {v:a7} (h:v.l.all (dz k)=false):dz (k+1) v=false:=by rw [dz,h];simp
theorem PR {k:Nat} {v:a7} (h:v.f.all (fun p=>dz k p.2)=false):dz (k+1) v=false:=by rw [dz,h];simp
theorem PS {v:a7} (h:lR none v.f=false):fZ v=false:=by
 have aN:v.f≠[]:=by intro c;rw [c,GI] at h;cases h
 have av:0<v.f.length:=List.length_pos_iff.2 aN
 unfold fZ
 repeat' split
 all_goals first|rfl|(rw [h];simp;done)|(rw [Bool.eq_false_iff];intro c;simp at c;first|omega|(simp_all;done))
theorem GJ {k:Nat} {v:a7} (h:lR none v.f=false):dz (k+1) v=false:=by rw [dz,PS h];rfl
theorem rC {k:Nat} {v:a7} (J:v.l.all (dz k)=true) (aa:v.f.all (fun p=>dz k p.2)=true):dz (k+1) v=fZ v:=by rw [dz,J,aa];simp
set_option maxHeartbeats 8000000 in
theorem PT (k:Nat) (v:a7) (aQ:∀w:a7,bP w<bP v→∀(m:ae) (K:U→ae→Prop),K (.bool (dz k w)) m→bg Tryz.prog 146 [cZ w] m K) (m:ae) (K:U→ae→Prop) (ab:K (.bool (dz (k+1) v)) m):bg Tryz.prog 146 [cZ v] m K:=by
 refine enter (c:=cX [] [0] [12,20,22,24,26,28,30] [] [] []) (vs:=[.aH (cZ v)]) (L:=[]) (m:=m) false b9 Tryz.mixed Tryz.func146 rfl (k:=1) (by show cu [] _ _ _=true;decide+kernel) rfl (Good.nil m) ?_
 refine ⟨fun bq=>?_⟩
 have nq:v.s.length≤140737488355328:=(bq 0 2 (Nat.le_of_ble_eq_true rfl))
 have jx:v.l.length≤140737488355328:=cN (bq 0 3 (Nat.le_of_ble_eq_true rfl))
 have lN:v.f.length≤140737488355328:=cN (bq 0 4 (Nat.le_of_ble_eq_true rfl))
 refine az ?_
 refine b7 (σ:=Int) [] [1,3] 1 (fun i=>([(1, .loc 0 0),(3,aj i)],[.cells [aj v.kind,aj v.n,aw v.s,an (v.l.map cj),an (v.f.map ct)]],m)) (fun i=>0≤i∧i≤v.l.length∧v.l.all (dz k)=(v.l.drop i.toNat).all (dz k)) (fun i=>v.l.length- i.toNat) (0) ⟨rfl,rfl⟩ ?_ ?_
 · try dsimp only
   exact ⟨by omega,by omega,rfl⟩
 rintro i ay
 refine az ?_
 refine br ?_
 refine ah (fun J=>?_) (fun J=>?_)
 · refine az ?_
   refine gj cZ ik (by omega) ?_
   refine b2 (fun _=>aQ (I v.l i) (by have:=iC v;first|(have:=iQ (cb (l:=v.l) (i:=i) ay.1 (by assumption));omega)|(have:=iR (cb (l:=v.f) (i:=i2) a1.1 (by assumption));omega))) rfl ?_
   refine ah (fun aa=>?_) (fun aa=>?_)
   · refine ah (by omega) ?_
     refine ⟨(i+1),⟨rfl,rfl⟩,?_,?_⟩
     · try dsimp only
       exact ⟨by omega,by omega,by rw [ay.2.2,qq ay.1 J,aa,Bool.true_and]⟩
     try dsimp only
     omega
   refine bh rfl fun _=>?_
   show K (.bool false) m
   rw [PQ (by rw [ay.2.2,qq ay.1 J,aa,Bool.false_and])] at ab;exact ab
 have j7:v.l.all (dz k)=true:=by rw [ay.2.2,List.drop_eq_nil_of_le (by omega)];rfl
 refine az ?_
 refine b7 (σ:=Int) [] [1,5] 1 (fun i2=>([(1, .loc 0 0),(5,aj i2)],[.cells [aj v.kind,aj v.n,aw v.s,an (v.l.map cj),an (v.f.map ct)]],m)) (fun i2=>0≤i2∧i2≤v.f.length∧v.f.all (fun p=>dz k p.2)=(v.f.drop i2.toNat).all (fun p=>dz k p.2)∧lR none v.f=lR (rB v.f i2) (v.f.drop i2.toNat)) (fun i2=>v.f.length- i2.toNat) (0) ⟨rfl,rfl⟩ ?_ ?_
 · try dsimp only
   exact ⟨by omega,by omega,rfl,rfl⟩
 rintro i2 a1
 refine az ?_
 refine br ?_
 refine ah (fun ai=>?_) (fun ai=>?_)
 · refine az ?_
   refine gj iO iB (by omega) ?_
   refine b2 (fun _=>aQ ((I v.f i2).2) (by have:=iC v;first|(have:=iQ (cb (l:=v.l) (i:=i) ay.1 (by assumption));omega)|(have:=iR (cb (l:=v.f) (i:=i2) a1.1 (by assumption));omega))) rfl ?_
   refine gj iO iB (by omega) ?_
   refine b2 (fun _=>oG ((I v.f i2).1)) rfl ?_
   refine cq [1,5] 73 (((!(dz k ((I v.f i2).2)))||(!(cr ((I v.f i2).1))))||((decide (0<i2))&&(!(Op.bytesLess ((I v.f (i2- 1)).1) ((I v.f i2).1))))) ?_ ?_
   · repeat' first
      |exact ⟨⟨_,rfl,by grind [bD.val]⟩,rfl⟩
      |refine ah (fun _=>?_) (fun _=>?_)
      |refine ah (by omega) ?_
      |refine gj iO iB (by omega) ?_
   refine ah (fun aJ=>?_) (fun aJ=>?_)
   · replace aJ:((dz k ((I v.f i2).2)=false)∨(cr ((I v.f i2).1)=false))∨((0<i2)∧(Op.bytesLess ((I v.f (i2- 1)).1) ((I v.f i2).1)=false)):=((dj aJ).imp (fun q=>((dj q).imp (fun q=>(ds q)) (fun q=>(ds q)))) (fun q=>⟨(of_decide_eq_true (eO q)),(ds (fk q))⟩))
     refine bh rfl fun _=>?_
     show K (.bool false) m
     have ao:dz (k+1) v=false:=by
      rcases aJ with (q|q)|q
      · exact PR (by rw [a1.2.2.1,qq (g:=fun p:aD×a7=>dz k p.2) a1.1 ai,q,Bool.false_and])
      · exact GJ (by rw [a1.2.2.2,x2 a1.1 ai,q];rfl)
      · exact GJ (by rw [a1.2.2.2,x2 a1.1 ai,q.2,show (i2==0)=false from by simp;omega];simp)
     rw [ao] at ab;exact ab
   replace aJ:((dz k ((I v.f i2).2)=true)∧(cr ((I v.f i2).1)=true))∧((i2≤0)∨(Op.bytesLess ((I v.f (i2- 1)).1) ((I v.f i2).1)=true)):=⟨⟨(dn (b8 (b8 aJ))),(dn (di (b8 aJ)))⟩,((fl (di aJ)).imp (fun q=>(Int.not_lt.1 (of_decide_eq_false q))) (fun q=>(dn q)))⟩
   refine ah (by omega) ?_
   refine ⟨(i2+1),⟨rfl,rfl⟩,?_,?_⟩
   · try dsimp only
     have ag:((i2==0)||Op.bytesLess (I v.f (i2- 1)).1 (I v.f i2).1)=true:=by
      rcases aJ.2 with q|q
      · have:i2=0:=by omega
        simp [this]
      · simp [q]
     exact ⟨by omega,by omega,by rw [a1.2.2.1,qq (g:=fun p:aD×a7=>dz k p.2) a1.1 ai,aJ.1.1,Bool.true_and],by rw [a1.2.2.2,x2 a1.1 ai,aJ.1.2,ag];rfl⟩
   try dsimp only
   omega
 have fM:v.f.all (fun p=>dz k p.2)=true:=by rw [a1.2.2.1,List.drop_eq_nil_of_le (by omega)];rfl
 have fw:lR none v.f=true:=by rw [a1.2.2.2,List.drop_eq_nil_of_le (by omega),GI]
 refine br ?_
 refine br ?_
 refine az ?_
 refine ah (fun aY=>?_) (fun aY=>?_)
 · refine cq [] 2 ((((v.n==0)&&(v.s==([])))&&((v.l.length:Int)==0))&&((v.f.length:Int)==0)) ?_ ?_
   · repeat' first
      |exact ⟨⟨_,rfl,by grind [bD.val]⟩,rfl⟩
      |refine ah (fun _=>?_) (fun _=>?_)
   refine bh rfl fun _=>?_
   show K (.bool ((((v.n==0)&&(v.s==([])))&&((v.l.length:Int)==0))&&((v.f.length:Int)==0))) m
   have bA:dz (k+1) v=fZ v:=rC j7 fM
   rw [bA] at ab
   have cH:∀e:Bool,fZ v=e→K (.bool e) m:=fun e q=>q▸ab
   refine cH _ ?_
   unfold fZ
   repeat rw [if_neg (by assumption)]
   all_goals first|rfl|(rw [if_pos (by assumption)];done)|(rw [if_pos (by assumption)];first|rfl|(simp only [fw,lS,Bool.and_true,Bool.and_assoc];done)|(simp only [fw,lS,Bool.and_true];ac_rfl))
 refine ah (fun bG=>?_) (fun bG=>?_)
 · refine cq [] 2 (((((decide (-1000000000≤v.n))&&(decide (v.n≤1000000000)))&&(v.s==([])))&&((v.l.length:Int)==0))&&((v.f.length:Int)==0)) ?_ ?_
   · repeat' first
      |exact ⟨⟨_,rfl,by grind [bD.val]⟩,rfl⟩
      |refine ah (fun _=>?_) (fun _=>?_)
   refine bh rfl fun _=>?_
   show K (.bool (((((decide (-1000000000≤v.n))&&(decide (v.n≤1000000000)))&&(v.s==([])))&&((v.l.length:Int)==0))&&((v.f.length:Int)==0))) m
   have bA:dz (k+1) v=fZ v:=rC j7 fM
   rw [bA] at ab
   have cH:∀e:Bool,fZ v=e→K (.bool e) m:=fun e q=>q▸ab
   refine cH _ ?_
   unfold fZ
   repeat rw [if_neg (by assumption)]
   all_goals first|rfl|(rw [if_pos (by assumption)];done)|(rw [if_pos (by assumption)];first|rfl|(simp only [fw,lS,Bool.and_true,Bool.and_assoc];done)|(simp only [fw,lS,Bool.and_true];ac_rfl))
 refine ah (fun c7=>?_) (fun c7=>?_)
 · refine cq [] 2 ((((v.n==0)&&(decide ((v.s.length:Int)≤40)))&&((v.l.length:Int)==0))&&((v.f.length:Int)==0)) ?_ ?_
   · repeat' first
      |exact ⟨⟨_,rfl,by grind [bD.val]⟩,rfl⟩
      |refine ah (fun _=>?_) (fun _=>?_)
   refine bh rfl fun _=>?_
   show K (.bool ((((v.n==0)&&(decide ((v.s.length:Int)≤40)))&&((v.l.length:Int)==0))&&((v.f.length:Int)==0))) m
   have bA:dz (k+1) v=fZ v:=rC j7 fM
   rw [bA] at ab
   have cH:∀e:Bool,fZ v=e→K (.bool e) m:=fun e q=>q▸ab
   refine cH _ ?_
   unfold fZ
   repeat rw [if_neg (by assumption)]
   all_goals first|rfl|(rw [if_pos (by assumption)];done)|(rw [if_pos (by assumption)];first|rfl|(simp only [fw,lS,Bool.and_true,Bool.and_assoc];done)|(simp only [fw,lS,Bool.and_true];ac_rfl))
 refine ah (fun cV=>?_) (fun cV=>?_)
 · refine cq [] 2 (((((v.n==0)||(v.n==1))&&(v.s==([])))&&((v.l.length:Int)==0))&&((v.f.length:Int)==0)) ?_ ?_
   · repeat' first
      |exact ⟨⟨_,rfl,by grind [bD.val]⟩,rfl⟩
      |refine ah (fun _=>?_) (fun _=>?_)
   refine bh rfl fun _=>?_
   show K (.bool (((((v.n==0)||(v.n==1))&&(v.s==([])))&&((v.l.length:Int)==0))&&((v.f.length:Int)==0))) m
   have bA:dz (k+1) v=fZ v:=rC j7 fM
   rw [bA] at ab
   have cH:∀e:Bool,fZ v=e→K (.bool e) m:=fun e q=>q▸ab
   refine cH _ ?_
   unfold fZ
   repeat rw [if_neg (by assumption)]
   all_goals first|rfl|(rw [if_pos (by assumption)];done)|(rw [if_pos (by assumption)];first|rfl|(simp only [fw,lS,Bool.and_true,Bool.and_assoc];done)|(simp only [fw,lS,Bool.and_true];ac_rfl))
 refine ah (fun cU=>?_) (fun cU=>?_)
 · refine cq [] 2 (((v.n==0)&&(v.s==([])))&&((v.f.length:Int)==0)) ?_ ?_
   · repeat' first
      |exact ⟨⟨_,rfl,by grind [bD.val]⟩,rfl⟩
      |refine ah (fun _=>?_) (fun _=>?_)
   refine bh rfl fun _=>?_
   show K (.bool (((v.n==0)&&(v.s==([])))&&((v.f.length:Int)==0))) m
   have bA:dz (k+1) v=fZ v:=rC j7 fM
   rw [bA] at ab
   have cH:∀e:Bool,fZ v=e→K (.bool e) m:=fun e q=>q▸ab
   refine cH _ ?_
   unfold fZ
   repeat rw [if_neg (by assumption)]
   all_goals first|rfl|(rw [if_pos (by assumption)];done)|(rw [if_pos (by assumption)];first|rfl|(simp only [fw,lS,Bool.and_true,Bool.and_assoc];done)|(simp only [fw,lS,Bool.and_true];ac_rfl))
 refine ah (fun eH=>?_) (fun eH=>?_)
 · refine cq [] 2 (((v.n==0)&&(v.s==([])))&&((v.l.length:Int)==0)) ?_ ?_
   · repeat' first
      |exact ⟨⟨_,rfl,by grind [bD.val]⟩,rfl⟩
      |refine ah (fun _=>?_) (fun _=>?_)
   refine bh rfl fun _=>?_
   show K (.bool (((v.n==0)&&(v.s==([])))&&((v.l.length:Int)==0))) m
   have bA:dz (k+1) v=fZ v:=rC j7 fM
   rw [bA] at ab
   have cH:∀e:Bool,fZ v=e→K (.bool e) m:=fun e q=>q▸ab
   refine cH _ ?_
   unfold fZ
   repeat rw [if_neg (by assumption)]
   all_goals first|rfl|(rw [if_pos (by assumption)];done)|(rw [if_pos (by assumption)];first|rfl|(simp only [fw,lS,Bool.and_true,Bool.and_assoc];done)|(simp only [fw,lS,Bool.and_true];ac_rfl))
 refine bh rfl fun _=>?_
 show K (.bool false) m
 have bA:dz (k+1) v=fZ v:=rC j7 fM
 rw [bA] at ab
 have cH:∀e:Bool,fZ v=e→K (.bool e) m:=fun e q=>q▸ab
 refine cH _ ?_
 unfold fZ
 repeat rw [if_neg (by assumption)]
 all_goals first|rfl|(rw [if_pos (by assumption)];done)|(rw [if_pos (by assumption)];first|rfl|(simp only [fw,lS,Bool.and_true,Bool.and_assoc];done)|(simp only [fw,lS,Bool.and_true];ac_rfl))
theorem BM {v:a7} (h:60<(bP v:Int)∨6<ff (bP v+1) v):b5 v=2:=by rw [BL,if_pos h]
theorem BN {v:a7} (h:(bP v:Int)≤60∧ff (bP v+1) v≤6) (aa:dz (bP v+1) v=false):b5 v=3:=by rw [BL,if_neg (by omega),if_neg (by simp [aa])]
theorem BO {v:a7} (h:(bP v:Int)≤60∧ff (bP v+1) v≤6) (aa:dz (bP v+1) v=true):b5 v=0:=by rw [BL,if_neg (by omega),if_pos aa]
theorem GK:∀(k:Nat) (v:a7),bP v<k→∀(m:ae) (K:U→ae→Prop),K (.bool (dz k v)) m→bg Tryz.prog 146 [cZ v] m K
 |0,_,h=>absurd h (Nat.not_lt_zero _)
 |k+1,v,h=>fun m K ab=>PT k v (fun w hw=>GK k w (by omega)) m K ab
set_option maxHeartbeats 2000000 in
theorem GL (v:a7) (cd:bP v≤1000000000000) (m:ae) (K:U→ae→Prop) (ab:K (.int .i64 (b5 v)) m):bg Tryz.prog 79 [cZ v] m K:=by
 refine enter (c:=cX [] [] [2] [] [] []) (vs:=[.aH (cZ v)]) (L:=[]) (m:=m) false b9 Tryz.mixed Tryz.func79 rfl (k:=1) (by show cu [] _ _ _=true;decide+kernel) rfl (Good.nil m) ?_
 refine b2 (fun _=>GH (bP v+1) v (Nat.lt_succ_self _) cd) rfl ?_
 refine az ?_
 refine cq [1] 16 ((decide (60<(bP v:Int)))||(decide (6<ff (bP v+1) v))) ?_ ?_
 · repeat' first
    |exact ⟨⟨_,rfl,by grind [bD.val]⟩,rfl⟩
    |refine ah (fun _=>?_) (fun _=>?_)
 refine ah (fun J=>?_) (fun J=>?_)
 · replace J:(60<(bP v:Int))∨(6<ff (bP v+1) v):=((dj J).imp (fun q=>(of_decide_eq_true q)) (fun q=>(of_decide_eq_true q)))
   have bA:b5 v=(2:Int):=by
    first|exact BM (by assumption)|exact BN (by assumption) (by assumption)|exact BO (by assumption) (by assumption)
   rw [bA] at ab
   exact bh rfl fun _=>ab
 replace J:((bP v:Int)≤60)∧(ff (bP v+1) v≤6):=⟨(Int.not_lt.1 (of_decide_eq_false (b8 J))),(Int.not_lt.1 (of_decide_eq_false (di J)))⟩
 refine b2 (fun _=>GK (bP v+1) v (Nat.lt_succ_self _)) rfl ?_
 refine az ?_
 refine ah (fun aa=>?_) (fun aa=>?_)
 · have bA:b5 v=(0:Int):=by
    first|exact BM (by assumption)|exact BN (by assumption) (by assumption)|exact BO (by assumption) (by assumption)
   rw [bA] at ab
   exact bh rfl fun _=>ab
 have bA:b5 v=(3:Int):=by
  first|exact BM (by assumption)|exact BN (by assumption) (by assumption)|exact BO (by assumption) (by assumption)
 rw [bA] at ab
 exact bh rfl fun _=>ab
set_option maxHeartbeats 4000000 in
theorem PU (a b:a7) (aQ:∀v w:a7,bP v<bP a→∀(m:ae) (K:U→ae→Prop),K (.bool (gT v w)) m→bg Tryz.prog 48 [cZ v,cZ w] m K) (m:ae) (K:U→ae→Prop) (ab:K (.bool (gT a b)) m):bg Tryz.prog 48 [cZ a,cZ b] m K:=by
 refine enter (c:=cX [] [0] [1,13] [] [] []) (vs:=[.aH (cZ a), .aH (cZ b)]) (L:=[]) (m:=m) false b9 Tryz.mixed Tryz.func48 rfl (k:=2) (by show cu [] _ _ _=true;decide+kernel) rfl (Good.nil m) ?_
 refine ⟨fun bq=>?_⟩
 have nq:a.s.length≤140737488355328:=(bq 0 2 (Nat.le_of_ble_eq_true rfl))
 have jx:a.l.length≤140737488355328:=cN (bq 0 3 (Nat.le_of_ble_eq_true rfl))
 have lN:a.f.length≤140737488355328:=cN (bq 0 4 (Nat.le_of_ble_eq_true rfl))
 have PF:b.s.length≤140737488355328:=(bq 1 2 (Nat.le_of_ble_eq_true rfl))
 have GA:b.l.length≤140737488355328:=cN (bq 1 3 (Nat.le_of_ble_eq_true rfl))
 have GB:b.f.length≤140737488355328:=cN (bq 1 4 (Nat.le_of_ble_eq_true rfl))
 refine az ?_
 refine cq [2,3] 45 (((((!(a.kind==b.kind))||(!(a.n==b.n)))||(!(a.s==b.s)))||(!((a.l.length:Int)==(b.l.length:Int))))||(!((a.f.length:Int)==(b.f.length:Int)))) ?_ ?_
 · repeat' first
    |exact ⟨⟨_,rfl,by grind [bD.val]⟩,rfl⟩
    |refine ah (fun _=>?_) (fun _=>?_)
    |refine br ?_
 refine ah (fun J=>?_) (fun J=>?_)
 · replace J:((((a.kind≠b.kind)∨(a.n≠b.n))∨(a.s≠b.s))∨((a.l.length:Int)≠(b.l.length:Int)))∨((a.f.length:Int)≠(b.f.length:Int)):=((dj J).imp (fun q=>((dj q).imp (fun q=>((dj q).imp (fun q=>((dj q).imp (fun q=>(ne_of_beq_false (ds q))) (fun q=>(ne_of_beq_false (ds q))))) (fun q=>(ne_of_beq_false (ds q))))) (fun q=>(ne_of_beq_false (ds q))))) (fun q=>(ne_of_beq_false (ds q))))
   refine bh rfl fun _=>?_
   show K (.bool false) m
   rw [te (by intro aT;subst aT;simp at J)] at ab;exact ab
 replace J:((((a.kind=b.kind)∧(a.n=b.n))∧(a.s=b.s))∧((a.l.length:Int)=(b.l.length:Int)))∧((a.f.length:Int)=(b.f.length:Int)):=⟨⟨⟨⟨(eq_of_beq (dn (b8 (b8 (b8 (b8 J)))))),(eq_of_beq (dn (di (b8 (b8 (b8 J))))))⟩,(eq_of_beq (dn (di (b8 (b8 J)))))⟩,(eq_of_beq (dn (di (b8 J))))⟩,(eq_of_beq (dn (di J)))⟩
 obtain ⟨⟨⟨⟨ak,aI⟩,al⟩,av⟩,aN⟩:=J
 refine az ?_
 refine b7 (σ:=Int) [] [2,3,5] 2 (fun i=>([(2, .loc 0 0),(3, .loc 1 0),(5,aj i)],[.cells [aj a.kind,aj a.n,aw a.s,an (a.l.map cj),an (a.f.map ct)], .cells [aj b.kind,aj b.n,aw b.s,an (b.l.map cj),an (b.f.map ct)]],m)) (fun i=>0≤i∧i≤a.l.length∧a.l.take i.toNat=b.l.take i.toNat) (fun i=>a.l.length- i.toNat) (0) ⟨rfl,rfl⟩ ?_ ?_
 · try dsimp only
   exact ⟨by omega,by omega,rfl⟩
 rintro i ay
 refine az ?_
 refine br ?_
 refine ah (fun aa=>?_) (fun aa=>?_)
 · refine az ?_
   refine gj cZ ik (by omega) ?_
   refine gj cZ ik (by omega) ?_
   refine ih (fun _=>aQ (I a.l i) (I b.l i) (by have:=iC a;first|(have:=iQ (cb (l:=a.l) (i:=i) ay.1 (by assumption));omega)|(have:=iR (cb (l:=a.f) (i:=i2) a1.1 (by assumption));omega))) ?_
   refine ah (fun ai=>?_) (fun ai=>?_)
   · refine ah (by omega) ?_
     refine ⟨(i+1),⟨rfl,rfl⟩,?_,?_⟩
     · try dsimp only
       exact ⟨by omega,by omega,by rw [gz ay.1 aa,gz ay.1 (by omega),ay.2.2,rA.1 ai]⟩
     try dsimp only
     omega
   refine bh rfl fun _=>?_
   show K (.bool false) m
   rw [te (by intro aT;subst aT;rw [qo rfl] at ai;cases ai)] at ab;exact ab
 refine az ?_
 refine b7 (σ:=Int) [] [2,3,7] 2 (fun i2=>([(2, .loc 0 0),(3, .loc 1 0),(7,aj i2)],[.cells [aj a.kind,aj a.n,aw a.s,an (a.l.map cj),an (a.f.map ct)], .cells [aj b.kind,aj b.n,aw b.s,an (b.l.map cj),an (b.f.map ct)]],m)) (fun i2=>0≤i2∧i2≤a.f.length∧a.f.take i2.toNat=b.f.take i2.toNat) (fun i2=>a.f.length- i2.toNat) (0) ⟨rfl,rfl⟩ ?_ ?_
 · try dsimp only
   exact ⟨by omega,by omega,rfl⟩
 rintro i2 a1
 refine az ?_
 refine br ?_
 refine ah (fun aJ=>?_) (fun aJ=>?_)
 · refine az ?_
   refine gj iO iB (by omega) ?_
   refine gj iO iB (by omega) ?_
   refine ih (fun _=>aQ ((I a.f i2).2) ((I b.f i2).2) (by have:=iC a;first|(have:=iQ (cb (l:=a.l) (i:=i) ay.1 (by assumption));omega)|(have:=iR (cb (l:=a.f) (i:=i2) a1.1 (by assumption));omega))) ?_
   refine cq [2,3,7] 102 ((!(gT ((I a.f i2).2) ((I b.f i2).2)))||(!(((I a.f i2).1)==((I b.f i2).1)))) ?_ ?_
   · repeat' first
      |exact ⟨⟨_,rfl,by grind [bD.val]⟩,rfl⟩
      |refine ah (fun _=>?_) (fun _=>?_)
      |refine gj iO iB (by omega) ?_
   refine ah (fun aY=>?_) (fun aY=>?_)
   · replace aY:(gT ((I a.f i2).2) ((I b.f i2).2)=false)∨((I a.f i2).1≠(I b.f i2).1):=((dj aY).imp (fun q=>(ds q)) (fun q=>(ne_of_beq_false (ds q))))
     refine bh rfl fun _=>?_
     show K (.bool false) m
     rw [te (by intro aT;subst aT;rw [qo rfl] at aY;simp at aY)] at ab;exact ab
   replace aY:(gT ((I a.f i2).2) ((I b.f i2).2)=true)∧((I a.f i2).1=(I b.f i2).1):=⟨(dn (b8 aY)),(eq_of_beq (dn (di aY)))⟩
   refine ah (by omega) ?_
   refine ⟨(i2+1),⟨rfl,rfl⟩,?_,?_⟩
   · try dsimp only
     exact ⟨by omega,by omega,by rw [gz a1.1 aJ,gz a1.1 (by omega),a1.2.2,Prod.ext aY.2 (rA.1 aY.1)]⟩
   try dsimp only
   omega
 refine bh rfl fun _=>?_
 show K (.bool true) m
 rw [qo (a7.ext' ak aI al (by have:=ay.2.2;rwa [fm (by omega),fm (by omega)] at this) (by have:=a1.2.2;rwa [fm (by omega),fm (by omega)] at this))] at ab;exact ab
theorem GM:∀(n:Nat) (a b:a7),bP a<n→∀(m:ae) (K:U→ae→Prop),K (.bool (gT a b)) m→bg Tryz.prog 48 [cZ a,cZ b] m K
 |0,_,_,h=>absurd h (Nat.not_lt_zero _)
 |n+1,a,b,h=>fun m K ab=>PU a b (fun v w bn=>GM n v w (by omega)) m K ab
theorem GN (a b:a7) (m:ae) (K:U→ae→Prop) (ab:K (.bool (gT a b)) m):bg Tryz.prog 48 [cZ a,cZ b] m K:=GM (bP a+1) a b (Nat.lt_succ_self _) m K ab
end Go.Proofs
end
section
namespace Go.Proofs
open Go Go.ba Go.bV
set_option maxRecDepth 100000
def GO:aD:=[48,49,50,51,52,53,54,55,56,57,97,98,99,100,101,102]
def PV (c:UInt8):aD:=
 if (c.toNat:Int)=34∨(c.toNat:Int)=92 then [92,c]
 else if (c.toNat:Int)<32∨126<(c.toNat:Int) then [92,120,I GO (c.toNat/16:Nat),I GO (c.toNat%16:Nat)]
 else [c]
def PW (s:aD):aD:=34::s.flatMap PV++[34]
end Go.Proofs
end
section
namespace Go.Proofs
open Go Go.ba Go.bV
set_option maxRecDepth 100000
theorem E4 (n:Int):(0≤n→Int.tdiv n 10=n/10∧Int.tmod n 10=n%10)∧(n<0→Int.tdiv n 10=-((-n)/10)∧Int.tmod n 10=-((-n)%10)):=by
 refine ⟨fun h=>⟨Int.tdiv_eq_ediv_of_nonneg h,Int.tmod_eq_emod_of_nonneg h⟩,fun h=>⟨?_,?_⟩⟩
 · rw [←Int.tdiv_eq_ediv_of_nonneg (by omega:0≤-n),Int.neg_tdiv,Int.neg_neg]
 · rw [←Int.tmod_eq_emod_of_nonneg (by omega:0≤-n),Int.neg_tmod,Int.neg_neg]
def eF (m:ae):Prop:=∃e z aC z2 la p,m 1=some (Om e z .u64 Lib.pow10Tab)∧m 2=some (.mL aC z2 #[.iface la p])
theorem eF.up {m aF:ae} (aB:∀b o,m b=some o→aF b=some o):eF m→eF aF:=fun ⟨e,z,aC,z2,la,p,h,aa⟩=>⟨e,z,aC,z2,la,p,aB _ _ h,aB _ _ aa⟩
end Go.Proofs
end
section
namespace Go.Proofs
open Go Go.ba Go.bV
set_option maxRecDepth 100000
def PX (b:Bool):aD:=if b=true then [116,114,117,101] else [102,97,108,115,101]
def tf {α:Type} (g:α→aD):List α→Bool→aD
 |[],_=>[]
 |x::r,first=>(if first=true then [] else [44,32])++g x++tf g r false
def x6:Nat→a7→aD
 |0,_=>[]
 |k+1,v=>
  if v.kind=0 then [110,117,108,108]
  else if v.kind=1 then Lib.itoa v.n
  else if v.kind=2 then PW v.s
  else if v.kind=3 then PX (v.n==1)
  else if v.kind=4 then [91]++tf (x6 k) v.l true++[93]
  else if v.kind=5 then [123]++tf (fun p:aD×a7=>p.1++[58,32]++x6 k p.2) v.f true++[125]
  else [110,117,108,108]
attribute [irreducible] tf x6
end Go.Proofs
end
section
namespace Go.Proofs
open Go Go.ba Go.bV
set_option maxRecDepth 100000
def PY (v:a7):aD:=x6 (bP v+1) v
end Go.Proofs
end
