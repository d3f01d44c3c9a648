/-
  The executor, part 7: an operation, a region.
-/
import Derived.Test.YtnahenbiipdlkaaGreatDoorWyF
import Derived.Lib.AppendStr
import Derived.Lib.LaidTab
section
namespace Go.cz
open Go Go.bg
section
variable {c:gW} {n:Nat} {bs:List Nat} {fr:ck} {L:List bT} {m:ae} {K:Fr→ae→Prop} {ops:Array Oper} {l:List Oper} {ty:TypeId} {pos:String} {af:Array Edge}
def kb (P:Program) (n:Nat) (ops:Array Oper) (l:List Oper) (K:Fr→ae→Prop) (b0 bs:List Nat) (k:cY):Prop:=
 b0 <+: bs∧∀bf ch m' iY,b0 <+: iY→Good iY ch m'→k bf ch m'→b6 P n ops l K (bt iY bf) (b7 iY ch m')
theorem kb.same {P:Program} {b0:List Nat} {k:cY} (h:kb P n ops l K b0 bs k) {bf:ck} {ch:List bT} {m':ae} (g:Good bs ch m') (al:k bf ch m'):b6 P n ops l K (bt bs bf) (b7 bs ch m'):=h.2 bf ch m' bs h.1 g al
theorem kb.more {P:Program} {b0:List Nat} {k:cY} (h:kb P n ops l K b0 bs k) (e2:List Nat) {bf:ck} {ch:List bT} {m':ae} (g:Good (bs++e2) ch m') (al:k bf ch m'):b6 P n ops l K (bt (bs++e2) bf) (b7 (bs++e2) ch m'):=h.2 bf ch m' _ (h.1.trans (List.prefix_append _ _)) g al
theorem oh {d:Option Nat} {v:a7} {fr:ck} {k:ck→Prop} (h:ko d v fr k):∃bf,k bf∧bt bs bf=fh (bt bs fr) d (den bs v):=by
 cases d with
 |some d=>exact ⟨_,h,rfl⟩
 |none=>exact ⟨_,h,rfl⟩
theorem hr.put {fP f:Fr} (h:hr fP f) (d:Option Nat) {bH x:ab} (an:lS bH x):hr (fh fP d bH) (fh f d x):=by
 cases d with
 |some d=>exact h.cons d an
 |none=>exact h
theorem Io (d:Nat):((some d).map ([]:List Nat).contains).getD false=false:=rfl
theorem DH (d:Nat):((some d).map ([d]:List Nat).contains).getD false=true:=by simp
theorem Ip (aP:fO c.P c.T=true) (g:Good bs L m) {d:Nat} {op:Op} {k:cY} (al:fp n ⟨some d,op,ty,pos,af,none⟩=true) (U:kb c.P n ops l K c.bs bs k) {w:Bool} (h:u3 c.T w fr L op fun u=>k ((d,u)::fr) L m):
 b6 c.P n ops (⟨some d,op,ty,pos,af,none⟩::l) K (bt bs fr) (b7 bs L m):=by
 obtain ⟨side,z,u,aU,aw,rfl,h⟩:=Ie (P:=c.P) (bs:=bs) (m:=m) aP g h
 exact b6.bS al aU aw (U.same g h)
theorem Iq (g:Good bs L m) {d:Nat} {op:Op} {k:cY} (al:fp n ⟨some d,op,ty,pos,af,none⟩=true) (U:kb c.P n ops l K c.bs bs k) (h:ei (bS c.P (b7 bs L m) (cA (br (bt bs fr))) op) bs fun u=>k ((d,u)::fr) L m):
 b6 c.P n ops (⟨some d,op,ty,pos,af,none⟩::l) K (bt bs fr) (b7 bs L m):=by
 obtain ⟨side,z,u,aU,aw,rfl,h⟩:=h
 exact b6.bS al aU aw (U.same g h)
theorem Qv (g:Good bs L m) {dst:Option Nat} {t:Nat} {k:cY} (al:fp n ⟨dst, .assign (.tmp t),ty,pos,af,none⟩=true) (aM:gS n ⟨dst, .assign (.tmp t),ty,pos,af,none⟩=true) (U:kb c.P n ops l K c.bs bs k) {b9:List Nat} (h:ih c b9 dst (.assign (.tmp t)) fr L m k):
 b6 c.P n ops (⟨dst, .assign (.tmp t),ty,pos,af,none⟩::l) K (bt bs fr) (b7 bs L m):=by
 simp only [ih] at h
 rw [my] at h
 obtain ⟨Qw,h⟩:=ec.1 h
 obtain ⟨u,h,hu⟩:=uW bs Qw h
 obtain ⟨bf,h,hle,_⟩:=DF (bs:=bs) h (fun t e=>by cases e;rfl)
 refine b6.val (stl:=[]) al aM (by simp only [fl];rfl) trivial ?_
 have aA:=ll bs fr t
 split at h
 · rename_i q bw
   obtain ⟨qL,h,az⟩:=oh (bs:=bs) h
   refine b6.less ?_ (U.same g h)
   rw [az]
   exact hle.put dst (.inl (by rw [aA,bw]))
 · obtain ⟨qL,h,az⟩:=oh (bs:=bs) h
   refine b6.less ?_ (U.same g h)
   rw [az]
   exact hle.put dst (.pl (by rw [aA,hu]))
theorem Qx (g:Good bs L m) {dst:Option Nat} {t:Nat} {k:cY} (al:fp n ⟨dst, .move (.tmp t),ty,pos,af,none⟩=true) (aM:gS n ⟨dst, .move (.tmp t),ty,pos,af,none⟩=true) (U:kb c.P n ops l K c.bs bs k) {b9:List Nat} (h:ih c b9 dst (.move (.tmp t)) fr L m k):
 b6 c.P n ops (⟨dst, .move (.tmp t),ty,pos,af,none⟩::l) K (bt bs fr) (b7 bs L m):=by
 simp only [ih] at h
 rw [my] at h
 obtain ⟨u,aa,hu⟩:=Qt (bs:=bs) h
 clear h
 have aA:=ll bs fr t
 have gen:ko dst u fr (fun fr=>k fr L m)→b6 c.P n ops (⟨dst, .move (.tmp t),ty,pos,af,none⟩::l) K (bt bs fr) (b7 bs L m):=fun aJ=>by
  obtain ⟨qL,J,az⟩:=oh (bs:=bs) aJ
  cases dst with
  |none=>
   refine b6.val (stl:=[]) al aM (by simp only [fl];rfl) trivial ?_
   have:=U.same g J
   rw [az] at this
   exact this
  |some d=>
   refine b6.val (stl:=[]) al aM (by simp only [fl,Io];rfl) trivial ?_
   have:=U.same g J
   rw [az,hu] at this
   simp only [Fr.strip,Fr.put,fh,aA] at this ⊢
   exact this
 cases dst with
 |none=>
  refine gen ?_
  split at aa
  · rename_i e;cases e
  · exact aa
 |some d=>
  cases bw:eh fr t with
  |own q=>
   rw [bw] at aa
   simp only at aa
   cases aw:vc c b9 d with
   |true=>
    rw [aw] at aa
    refine b6.val (stl:=[d]) al aM (by simp only [fl,DH,if_true];rfl) trivial ?_
    have:=U.same g aa
    simp only [bt,hu] at this
    simp only [Fr.strip,Fr.put,fh,aA]
    rw [←bw] at this
    exact this
   |false=>
    rw [aw] at aa
    exact gen aa
  |_=>rw [bw] at aa;exact gen aa
theorem Qy (g:Good bs L m) {dst:Option Nat} {t i:Nat} {k:cY} (al:fp n ⟨dst, .extract (.tmp t) i,ty,pos,af,none⟩=true) (aM:gS n ⟨dst, .extract (.tmp t) i,ty,pos,af,none⟩=true) (U:kb c.P n ops l K c.bs bs k) {b9:List Nat} (h:ih c b9 dst (.extract (.tmp t) i) fr L m k):
 b6 c.P n ops (⟨dst, .extract (.tmp t) i,ty,pos,af,none⟩::l) K (bt bs fr) (b7 bs L m):=by
 simp only [ih] at h
 rw [my] at h
 have aA:=ll bs fr t
 cases dst with
 |none=>cases bw:eh fr t<;>rw [bw] at h<;>exact h.elim
 |some d=>
  have gen:u2 (eh fr t) i (fun u=>k ((d,u)::fr) L m)→b6 c.P n ops (⟨some d, .extract (.tmp t) i,ty,pos,af,none⟩::l) K (bt bs fr) (b7 bs L m):=fun h=>
   Iq g al U (Ib (P:=c.P) h (by rw [cA,aA]))
  cases bw:eh fr t with
  |da q=>
   rw [bw] at h aA gen
   simp only [den] at h aA
   cases an:nth q i with
   |none=>rw [an] at h;exact h.elim
   |some x=>
    rw [an] at h
    obtain ⟨az,cl⟩:=s4 (bs:=bs) an
    cases x with
    |own y=>
     simp only at h
     obtain ⟨l',J,nc⟩:=DG (bs:=bs) h
     cases aw:vc c b9 d with
     |true=>
      rw [aw] at J
      refine b6.val (stl:=[d]) (ss:=[t]) (side:=i<(bE bs q).length) (m':=b7 bs L m) (x:=(bE bs q).getD i .aV) al aM (by simp only [fl,aA,DH,if_true]) cl ?_
      have:=U.same g J
      simp only [bt,den,nc] at this
      simp only [Fr.strip,Fr.put,fh,aA,ab.plain,az,den]
      exact this
     |false=>
      rw [aw] at J
      refine b6.val (stl:=[]) (ss:=[]) (side:=i<(bE bs q).length) (m':=b7 bs L m) (x:=((bE bs q).getD i .aV).plain) al aM (by simp only [fl,aA,Io];rfl) cl ?_
      have:=U.same g J
      simp only [bt,den,ab.plain] at this
      simp only [Fr.strip,Fr.put,fh,az,den,ab.plain]
      exact this
    |_=>exact gen (by simp only [u2,an];exact h)
  |_=>rw [bw] at h gen;exact gen h
theorem wW (aP:fO c.P c.T=true) {b0:List Nat} {new:List Nat} (ah:bs=b0++new) (dK:c.bs=b0) (g:Good bs L m) {dst:Option Nat} {t:Nat} {x:Operand} {k:cY} (al:fp n ⟨dst, .load t x,ty,pos,af,none⟩=true) (aM:gS n ⟨dst, .load t x,ty,pos,af,none⟩=true) (U:kb c.P n ops l K c.bs bs k) {b9:List Nat} (h:ih c b9 dst (.load t x) fr L m k):
 b6 c.P n ops (⟨dst, .load t x,ty,pos,af,none⟩::l) K (bt bs fr) (b7 bs L m):=by
 simp only [ih] at h
 obtain ⟨v,h,e⟩:=fF bs h
 obtain ⟨i,ds,h⟩:=e1 aP h
 cases dst with
 |none=>exact h.elim
 |some d=>
  have key:qG L i v (fun u=>k ((d,u)::fr) L m)→b6 c.P n ops (⟨some d, .load t x,ty,pos,af,none⟩::l) K (bt bs fr) (b7 bs L m):=fun h=>
   Iq g al U (H9 ds g h e)
  have kp:iA c.P c.bs (some d) (.load t x) fr L m k→b6 c.P n ops (⟨some d, .load t x,ty,pos,af,none⟩::l) K (bt bs fr) (b7 bs L m):=fun h=>by
   subst dK
   subst ah
   exact h.h new g n ops ty pos af l K al aM U.2
  cases v with
  |loc b off=>
   simp only at h
   cases la:nth L b with
   |none=>rw [la] at h;exact key h
   |some o=>
    rw [la] at h
    cases o with
    |obj o=>exact key h
    |cells gj=>
     simp only at h
     cases aU:nth gj off with
     |none=>rw [aU] at h;exact key h
     |some y=>
      rw [aU] at h
      cases y with
      |own q=>
       simp only at h
       cases aw:vc c b9 d with
       |false=>rw [aw] at h;exact key h
       |true=>
        cases b4:i.k.iz with
        |true=>rw [aw,b4] at h;exact key h
        |false=>
         rw [aw,b4] at h
         rw [jN] at la
         have hm:=oY g la
         obtain ⟨az,cl⟩:=s4 (bs:=bs) aU
         refine b6.val (stl:=[d]) (ss:=[]) (side:=eV c.P t=true∧kF c.P t=false∧off<(bE bs gj).length) (m':=(b7 bs L m).cE (bs.getD b 0) (some (.cells ((bE bs gj).set off ((bE bs gj).getD off .aV).plain)))) (x:=(bE bs gj).getD off .aV) al aM ?_ ⟨ds.is,ds.xQ.trans b4,cl⟩ ?_
         · have cS:cA (br (bt bs fr)) x= .ptr ⟨bs.getD b 0,off,none⟩:=by rw [←e];simp only [den]
           simp only [fl,DH,if_true,cS,hm,gz]
         · have:=U.same (g.set b (.cells (gj.set off (.aI (.slice false q))))) h
           rw [←mem_set g la] at this
           have eO:bE bs (gj.set off (.aI (.slice false q)))=(bE bs gj).set off (.slice false q):=by simp only [mx,List.map_set,den,ab.plain]
           simp only [bt,gz,eO] at this
           simp only [Fr.strip,Fr.put,fh,az,den,ab.plain]
           exact this
      |_=>exact key h
  |aI y=>exact key h
  |jv b q w j=>
   cases o3:rJ c (some d) with
   |true=>simp only [o3] at h;exact kp h
   |false=>simp only [o3] at h;exact key h
  |_=>exact kp h
theorem Qz {bs:List Nat} {u:List a7} {x:ab} (h:bE bs u=x.cells):u.length=x.cells.length:=by rw [←h,lO]
theorem QA (aP:fO c.P c.T=true) {b0:List Nat} {new:List Nat} (ah:bs=b0++new) (dK:c.bs=b0) (g:Good bs L m) {dst:Option Nat} {t:Nat} {a x:Operand} {k:cY} (aY:dst=none) (al:fp n ⟨dst, .store t a x,ty,pos,af,none⟩=true) (aM:gS n ⟨dst, .store t a x,ty,pos,af,none⟩=true) (U:kb c.P n ops l K c.bs bs k) {b9:List Nat} (h:ih c b9 dst (.store t a x) fr L m k):
 b6 c.P n ops (⟨dst, .store t a x,ty,pos,af,none⟩::l) K (bt bs fr) (b7 bs L m):=by
 have kp:iA c.P c.bs dst (.store t a x) fr L m k→b6 c.P n ops (⟨dst, .store t a x,ty,pos,af,none⟩::l) K (bt bs fr) (b7 bs L m):=fun h=>by
  subst dK;subst ah
  exact h.h new g n ops ty pos af l K al aM U.2
 subst aY
 simp only [ih] at h
 obtain ⟨p,h,e⟩:=fF bs h
 split at h
 · rename_i b off
   obtain ⟨v,h,az,nq⟩:=Ij (bs:=bs) h
   obtain ⟨i,ds,h⟩:=e1 aP h
   split at h
   · rename_i gj la
     obtain ⟨cs,h,jL,vj,kH⟩:=Il (bs:=bs) h
     obtain ⟨pO,h⟩:=ec.1 h
     obtain ⟨nw,h⟩:=ec.1 h
     obtain ⟨bf,h,hle,_⟩:=DF (bs:=bs) h nq
     rw [hR,hR] at h
     rw [jN] at la
     have hm:=oY g la
     have hlen:=Qz jL
     rw [az] at jL vj kH hlen
     have DI:=Nat.eq_of_beq_eq_true pO
     have QB:=Nat.le_of_ble_eq_true nw
     refine b6.pq (stl:=[]) (ss:=n1 x) (side:=(gF (br (bt bs fr)) x).eH=true∧((gF (br (bt bs fr)) x).cells.all ab.one)=true∧(gF (br (bt bs fr)) x).cells.length=c.P.cellsOf t∧eV c.P t=true∧off+c.P.cellsOf t≤(bE bs gj).length)
      (m':=(b7 bs L m).cE (bs.getD b 0) (some (.cells ((bE bs gj).take off++(gF (br (bt bs fr)) x).cells++(bE bs gj).drop (off+c.P.cellsOf t))))) al aM ?_ ⟨vj,kH,by rw [←hlen,DI,ds.cells],ds.is,by rw [ds.cells,lO];exact QB⟩ ?_
     · have cS:cA (br (bt bs fr)) a= .ptr ⟨bs.getD b 0,off,none⟩:=by rw [←e];simp only [den]
       simp only [fl,cS,hm,gz]
     · have:=U.same (g.set b (.cells (x0 gj cs off i.n))) h
       rw [←mem_set g la] at this
       simp only [gz,Im,jL] at this
       rw [ds.cells]
       exact b6.less hle this
   · exact kp h
 · exact kp h
theorem Al {o:bT} (g:Good bs L m) {k:Nat→List bT→Prop} (h:x1 fr L o k) {b:Nat} (ah:b7 bs L m b=none):k L.length (L++[o])∧Good (bs++[b]) (L++[o]) m∧b7 (bs++[b]) (L++[o]) m=(b7 bs L m).cE b (some (gz (bs++[b]) o))∧bt (bs++[b]) fr=bt bs fr∧(bs++[b]).getD L.length 0=b∧nx bs.length L=true:=by
 obtain ⟨J,h⟩:=ec.1 h
 obtain ⟨aa,h⟩:=ec.1 h
 rw [←g.len] at J aa
 obtain ⟨eW,e⟩:=PW g aa ah o
 exact ⟨h,eW,e,zS J,by rw [←g.len,List.getD_eq_getElem?_getD,List.getElem?_append_right (Nat.le_refl _)];simp,aa⟩
theorem QC (bs iY:List Nat) (z:List Z):bE bs (ka z)=bE iY (ka z):=by
 induction z with
 |nil=>simp only [ka,bE]
 |cons a r aO=>
  simp only [ka,bE,aO]
  cases a<;>simp only [Z.sZ,den]
theorem QD (aP:fO c.P c.T=true) {b0:List Nat} {new:List Nat} (ah:bs=b0++new) (dK:c.bs=b0) (g:Good bs L m) {dst:Option Nat} {t:Nat} {k:cY} (al:fp n ⟨dst, .alloc t,ty,pos,af,none⟩=true) (aM:gS n ⟨dst, .alloc t,ty,pos,af,none⟩=true) (U:kb c.P n ops l K c.bs bs k) {b9:List Nat} (h:ih c b9 dst (.alloc t) fr L m k):
 b6 c.P n ops (⟨dst, .alloc t,ty,pos,af,none⟩::l) K (bt bs fr) (b7 bs L m):=by
 simp only [ih] at h
 obtain ⟨i,ds,h⟩:=e1 aP h
 split at h
 · subst dK;subst ah
   exact h.h new g n ops ty pos af l K al aM U.2
 · rename_i fk
   rw [hR] at h
   obtain ⟨z,px,zo,n3,_⟩:=ds.hY (fun e=>fk e)
   refine b6.new (stl:=[]) (ss:=[]) (side:=z.eH=true) (mk:=fun b=> .ptr ⟨b,0,none⟩) (o:= .cells z.cells) al aM (by simp only [fl,px]) n3 fun b ah=>?_
   obtain ⟨h,eW,aF,az,cS,_⟩:=Al g h ah
   rw [hR] at h
   obtain ⟨bf,h,eO⟩:=oh (bs:=bs++[b]) h
   have:=U.more _ eW h
   rw [aF,eO,az] at this
   simp only [gz,den,cS] at this
   rw [QC (bs++[b]) bs,←zo] at this
   exact this
theorem QE (g:Good bs L m) {dst:Option Nat} {t:Nat} {x:Operand} {k:cY} (al:fp n ⟨dst, .box t x,ty,pos,af,none⟩=true) (aM:gS n ⟨dst, .box t x,ty,pos,af,none⟩=true) (U:kb c.P n ops l K c.bs bs k) {b9:List Nat} (h:ih c b9 dst (.box t x) fr L m k):
 b6 c.P n ops (⟨dst, .box t x,ty,pos,af,none⟩::l) K (bt bs fr) (b7 bs L m):=by
 simp only [ih] at h
 obtain ⟨v,J,az,nq⟩:=Ij (bs:=bs) h
 obtain ⟨cs,aa,jL,vj,kH⟩:=Il (bs:=bs) J
 obtain ⟨bf,aj,hle,_⟩:=DF (bs:=bs) aa nq
 obtain ⟨ru,aG⟩:=ec.1 aj
 refine sQ (stl:=[]) al aM ?_
 simp only [j7,h0]
 refine ⟨by rw [←az];exact vj,fun b ah=>?_⟩
 obtain ⟨aR,eW,aF,cS,eO,_⟩:=Al g aG ah
 rw [hR] at aR
 obtain ⟨qL,bu,iB⟩:=oh (bs:=bs++[b]) aR
 have:=U.more _ eW bu
 rw [←g.len] at ru
 rw [aF,iB,cS] at this
 simp only [gz,den,eO,sX (x:=[b]) ru,jL,az] at this
 exact b6.less (hle.put dst (.inl rfl)) this
theorem QF (aP:fO c.P c.T=true) (g:Good bs L m) {dst:Option Nat} {t:Nat} {k:cY} (al:fp n ⟨dst, .makeMap t none,ty,pos,af,none⟩=true) (aM:gS n ⟨dst, .makeMap t none,ty,pos,af,none⟩=true) (U:kb c.P n ops l K c.bs bs k) {b9:List Nat} (h:ih c b9 dst (.makeMap t none) fr L m k):
 b6 c.P n ops (⟨dst, .makeMap t none,ty,pos,af,none⟩::l) K (bt bs fr) (b7 bs L m):=by
 simp only [ih] at h
 obtain ⟨i,ds,J⟩:=e1 aP h
 obtain ⟨ak,aa⟩:=ec.1 J
 obtain ⟨ke,gV,fm⟩:∃ke gV,i.k= .mp ke gV:=by cases aD:i.k<;>rw [aD] at ak<;>first|exact ⟨_,_,rfl⟩|cases ak
 refine b6.new (stl:=[]) (ss:=[]) (side:=True) (mk:=fun b=> .map b) (o:= .map []) al aM (by simp only [fl,ds.mp fm];rfl) trivial fun b ah=>?_
 obtain ⟨aR,eW,aF,cS,eO,_⟩:=Al g aa ah
 rw [hR] at aR
 obtain ⟨qL,bu,iB⟩:=oh (bs:=bs++[b]) aR
 have:=U.more _ eW bu
 rw [aF,iB,cS] at this
 simp only [gz,den,eO] at this
 exact this
theorem toK_go:∀{l:List a7} {k:List ab→Prop},toK.go l k→k (bE bs l)
 |[],_,h=>by simp only [bE];exact h
 | .aI x::r,k,h=>by
   obtain ⟨bM,J⟩:=pL (k:=fun bH=>toK.go r fun gU=>k (bH::gU)) h
   have:=toK_go (l:=r) J
   simp only [bE,den,bM]
   exact this
 | .b q::r,k,h=>by
   have:=toK_go (l:=r) (k:=fun gU=>k (.bool q.val::gU)) h
   simp only [bE,den]
   exact this
 | .own _::_,_,h| .loc _ _::_,_,h| .ms _ _ _::_,_,h| .mp _::_,_,h| .jv _ _ _ _::_,_,h| .b9 _ _ _ _::_,_,h| .agg _::_,_,h| .da _::_,_,h| .fn _ _ _::_,_,h| .off::_,_,h=>h.elim
theorem QG {x:ab} {k:ab→Prop} (h:uX x k):x.eH=true:=by
 cases x with
 |tuple l=>exact h.elim
 |lazy g x=>exact h.elim
 |aV=>exact h.elim
 |_=>rfl
theorem toK_sound {v:a7} {k:ab→Prop} (h:toK v k):k (den bs v)∧(den bs v).eH=true:=by
 cases v with
 |aI x=>
  have aq:=QG h
  obtain ⟨e,h⟩:=zM h
  simp only [den,e]
  exact ⟨h,aq⟩
 |b q=>simp only [den];exact ⟨h,rfl⟩
 |agg l=>
  have J:=toK_go (bs:=bs) (l:=l) (k:=fun l'=>k (.agg l')) h
  simp only [den]
  exact ⟨J,rfl⟩
 |_=>exact h.elim
theorem toLK_sound:∀{l:List a7} {k:List ab→Prop},toLK l k→k (bE bs l)∧∀x∈bE bs l,x.eH=true
 |[],_,h=>⟨by simp only [bE];exact h,by simp only [bE];simp⟩
 |v::r,k,h=>by
  obtain ⟨J,aq⟩:=toK_sound (bs:=bs) h
  obtain ⟨aa,aA⟩:=toLK_sound J
  refine ⟨by simp only [bE];exact aa,fun x an=>?_⟩
  simp only [bE,List.mem_cons] at an
  rcases an with rfl|an
  · exact aq
  · exact aA x an
theorem Am:∀{ps:List (Nat×Operand)} {k:List (Nat×a7)→Prop},s7 fr ps k→∃us,k us∧us.map (fun p=>(p.1,den bs p.2))=ps.map (fun p=>(p.1,cA (br (bt bs fr)) p.2))
 |[],_,h=>⟨_,h,rfl⟩
 |(i,x)::r,k,h=>by
  obtain ⟨v,J,e⟩:=fF bs h
  obtain ⟨us,aa,az⟩:=Am J
  exact ⟨_,aa,by simp only [List.map_cons,e,az]⟩
theorem Ir:∀{ps:List (Nat×a7)} {n:Nat},idxFrom n ps=true→ps.map (·.1)=(List.range ps.length).map (n+·)
 |[],_,_=>rfl
 |(i,v)::r,n,h=>by
  simp only [idxFrom] at h
  cases ah:Nat.beq n i with
  |false=>rw [ah] at h;cases h
  |true=>
   rw [ah] at h
   have:=Ir (ps:=r) (n:=n+1) h
   simp only [List.map_cons,List.length_cons,List.range_succ_eq_map,List.map_map,this,Nat.eq_of_beq_eq_true ah,Nat.add_zero]
   congr 1
   apply List.map_congr_left
   intro a _
   simp only [Function.comp]
   omega
theorem Is:∀(ps:List (Nat×a7)),o1 ps=ps.map (·.2)
 |[]=>rfl
 |(_,v)::r=>by simp only [o1,List.map_cons,Is r]
theorem It (aP:fO c.P c.T=true) {t e:Nat} {i j:hx} (e8:gM c.P t i) (ad:i.k= .b9 e) (gw:gM c.P e j) {bB:Nat} {parts:Array (Nat×Operand)} {us:List (Nat×a7)} (he:us.map (fun p=>(p.1,den bs p.2))=parts.toList.map (fun p=>(p.1,cA (br (bt bs fr)) p.2)))
 (J:idxFrom 0 us=true) (aa:Nat.beq us.length bB=true) (aj:Nat.ble (bB*j.n) 16777216=true) (aG:∀x∈bE bs (o1 us),x.eH=true) (aR:((bE bs (o1 us)).all fun x=>Nat.beq x.cells.length j.n)=true) {d:Option Nat} {stl:List Nat} (aw:(d.map stl.contains).getD false=false):
 fl c.P m (br (bt bs fr)) stl d (.buildSlice t bB parts)= .val (eV c.P e=true∧0<c.P.cellsOf e∧kJ c.P e=true∧bB*c.P.cellsOf e≤16777216∧parts.toList.map (·.1)=List.range bB∧∀p∈parts.toList,(cA (br (bt bs fr)) p.2).eH=true∧(cA (br (bt bs fr)) p.2).cells.length=c.P.cellsOf e) [] m (.slice true (bE bs (o1 us)))∧
 (eV c.P e=true∧0<c.P.cellsOf e∧kJ c.P e=true∧bB*c.P.cellsOf e≤16777216∧parts.toList.map (·.1)=List.range bB∧∀p∈parts.toList,(cA (br (bt bs fr)) p.2).eH=true∧(cA (br (bt bs fr)) p.2).cells.length=c.P.cellsOf e):=by
 obtain ⟨jg,iW,oe,qI⟩:=e8.b9 ad
 have bw:bE bs (o1 us)=parts.toList.map fun p=>cA (br (bt bs fr)) p.2:=by
  have:=congrArg (List.map Prod.snd) he
  simp only [List.map_map] at this
  rw [mx,Is,List.map_map]
  exact this
 have QH:parts.toList.map (·.1)=us.map (·.1):=by
  have:=congrArg (List.map Prod.fst) he
  simp only [List.map_map] at this
  exact this.symm
 refine ⟨by simp only [fl,aw,jg,bw];rfl,iW,oe,qI,by rw [gw.cells];exact Nat.le_of_ble_eq_true aj,?_,fun p aQ=>?_⟩
 · rw [QH,Ir J,←Nat.eq_of_beq_eq_true aa]
   simp
 · have hm:cA (br (bt bs fr)) p.2∈bE bs (o1 us):=by rw [bw];exact List.mem_map_of_mem (f:=fun p=>cA (br (bt bs fr)) p.2) aQ
   refine ⟨aG _ hm,?_⟩
   rw [List.all_eq_true] at aR
   rw [gw.cells]
   exact Nat.eq_of_beq_eq_true (aR _ hm)
theorem QI {v:a7} {k:List a7→Prop} (h:rI.Dv v k):∃u,k u∧bE bs u=(den bs v).cells∧(den bs v).eH=true:=by
 cases v with
 |agg l=>exact ⟨_,h,by simp only [den,ab.cells],rfl⟩
 |aI x=>
  cases x with
  |agg l=>
   simp only [rI.Dv] at h
   rw [hR] at h
   exact ⟨_,h,by simp only [den,ab.plain,ab.cells,Ak],by simp only [den,ab.plain,ab.eH]⟩
  |tuple l=>exact h.elim
  |lazy g x=>exact h.elim
  |aV=>exact h.elim
  |slice o l=>
   obtain ⟨e,h⟩:=pL (k:=fun bH=>k [.aI bH]) h
   exact ⟨_,h,by simp only [den,bE,ab.plain,ab.cells],by simp only [den,ab.plain,ab.eH]⟩
  |_=>exact ⟨_,h,by simp only [den,bE,ab.plain,ab.cells],by simp only [den,ab.plain,ab.eH]⟩
 |da l=>exact h.elim
 |off=>exact h.elim
 |_=>exact ⟨_,h,by simp only [den,bE,ab.cells],by simp only [den,ab.eH]⟩
theorem Iu (aP:fO c.P c.T=true) {c6:List (Nat×Nat)} {eG:Array Field} (jJ:eG.toList.map (fun f=>(f.offset,f.type))=c6):∀{us:List (Nat×a7)} {cs:List a7} {k:List a7→Prop},rI c.T c6 us cs k→
 ∃cells,k cells∧mn (fun i=>(eG[i]?).map fun f=>(f.offset,c.P.cellsOf f.type)) (bE bs cs) (us.map fun p=>(p.1,den bs p.2))=some (bE bs cells)∧∀p∈us,(den bs p.2).eH=true
 |[],cs,k,h=>⟨_,h,rfl,by simp⟩
 |(i,v)::r,cs,k,h=>by
  simp only [rI] at h
  cases aM:nth c6 i with
  |none=>rw [aM] at h;exact h.elim
  |some q=>
   obtain ⟨off,t⟩:=q
   rw [aM] at h
   obtain ⟨j,gw,J⟩:=e1 aP h
   obtain ⟨vs,aa,pw,vj⟩:=QI (bs:=bs) J
   obtain ⟨pO,aj⟩:=ec.1 aa
   obtain ⟨nw,aG⟩:=ec.1 aj
   rw [hR] at aG
   obtain ⟨cells,aR,e,aq⟩:=Iu aP jJ aG
   have aZ:(eG[i]?).map (fun f=>(f.offset,c.P.cellsOf f.type))=some (off,j.n):=by
    rw [jN,←jJ,List.getElem?_map] at aM
    cases aU:eG.toList[i]? with
    |none=>rw [aU] at aM;cases aM
    |some fd=>
     rw [aU] at aM
     simp only [Option.map_some,Option.some.injEq,Prod.mk.injEq] at aM
     obtain ⟨rfl,rfl⟩:=aM
     have:eG[i]?=some fd:=by simpa using aU
     rw [this]
     simp only [Option.map_some,gw.cells]
   refine ⟨cells,aR,?_,fun p aQ=>?_⟩
   · simp only [List.map_cons,mn,aZ]
     have av:(den bs v).cells.length=j.n:=by rw [←pw,lO];exact Nat.eq_of_beq_eq_true pO
     rw [if_pos ⟨av,by rw [lO];exact Nat.le_of_ble_eq_true nw⟩,←pw,←Im]
     exact e
   · rcases List.mem_cons.1 aQ with rfl|aQ
     · exact vj
     · exact aq p aQ
theorem Iv (aP:fO c.P c.T=true) {t:Nat} {i:hx} (e8:gM c.P t i) {c6:List (Nat×Nat)} (ad:i.k= .st c6) (ak:i.z≠[]) {parts:Array (Nat×Operand)} {k:List a7→Prop} (h:s7 fr parts.toList fun ps=>rI c.T c6 ps (ka i.z) k) {d:Option Nat} {stl:List Nat} (aw:(d.map stl.contains).getD false=false):
 ∃cells side,k cells∧fl c.P m (br (bt bs fr)) stl d (.build t parts)= .val side [] m (.agg (bE bs cells))∧side:=by
 obtain ⟨eG,jg,iW,oe⟩:=e8.st ad
 obtain ⟨z,km,z2,z3,_⟩:=e8.hY (bs:=bs) ak
 obtain ⟨us,J,e⟩:=Am (bs:=bs) h
 obtain ⟨cells,aa,az,aq⟩:=Iu (bs:=bs) aP iW J
 refine ⟨cells,z.eH=true∧(∀f∈eG.toList,eV c.P f.type=true)∧∀p∈parts.toList,(cA (br (bt bs fr)) p.2).eH=true,aa,?_,?_⟩
 · rw [e,←z2] at az
   simp only [fl,aw,jg,km,az]
   rfl
 · refine ⟨z3,fun f aZ=>(oe f aZ).1,fun p aQ=>?_⟩
   have hm:(p.1,cA (br (bt bs fr)) p.2)∈us.map (fun p=>(p.1,den bs p.2)):=by rw [e];exact List.mem_map_of_mem (f:=fun p=>(p.1,cA (br (bt bs fr)) p.2)) aQ
   obtain ⟨q,aU,Iw⟩:=List.mem_map.1 hm
   have:=aq q aU
   simp only [Prod.mk.injEq] at Iw
   rw [←Iw.2];exact this
end
end Go.cz
end
section
namespace Go.cz
open Go Go.bg
section
variable {c:gW} {n:Nat} {fr:ck} {L:List bT} {m:ae} {K:Fr→ae→Prop} {ops:Array Oper} {l:List Oper} {ty:TypeId} {pos:String} {af:Array Edge}
theorem QJ {bs:List Nat} (aP:fO c.P c.T=true) (g:Good bs L m) {dst:Option Nat} {t:Nat} {parts:Array (Nat×Operand)} {k:cY} (al:fp n ⟨dst, .build t parts,ty,pos,af,none⟩=true) (aM:gS n ⟨dst, .build t parts,ty,pos,af,none⟩=true) (U:kb c.P n ops l K c.bs bs k) {b9:List Nat} (kp:iA c.P c.bs dst (.build t parts) fr L m k→b6 c.P n ops (⟨dst, .build t parts,ty,pos,af,none⟩::l) K (bt bs fr) (b7 bs L m)) (h:ih c b9 dst (.build t parts) fr L m k):
 b6 c.P n ops (⟨dst, .build t parts,ty,pos,af,none⟩::l) K (bt bs fr) (b7 bs L m):=by
 simp only [ih] at h
 cases o3:rJ c dst with
 |true=>rw [o3] at h;exact kp h
 |false=>
 rw [o3] at h
 obtain ⟨i,e8,J⟩:=e1 aP h
 cases ad:i.k with
 |st c6=>
  rw [ad] at J
  obtain ⟨ak,aa⟩:=ec.1 J
  rw [hR] at aa
  obtain ⟨cells,side,aj,aT,aw⟩:=Iv (bs:=bs) (m:=b7 bs L m) (stl:=[]) (d:=dst) aP e8 ad (by intro e;rw [e] at ak;cases ak) aa (by cases dst<;>rfl)
  obtain ⟨bf,aG,e⟩:=oh (bs:=bs) aj
  refine b6.val (stl:=[]) al aM aT aw ?_
  have:=U.same g aG
  rw [e] at this
  simp only [den] at this
  exact this
 |_=>rw [ad] at J;exact J.elim
theorem QK {b0 new:List Nat} (aP:fO c.P c.T=true) (dK:c.bs=b0) (g:Good (b0++new) L m) {dst:Option Nat} {t bB:Nat} {parts:Array (Nat×Operand)} {k:cY} (al:fp n ⟨dst, .buildSlice t bB parts,ty,pos,af,none⟩=true) (aM:gS n ⟨dst, .buildSlice t bB parts,ty,pos,af,none⟩=true) (U:kb c.P n ops l K c.bs (b0++new) k) {b9:List Nat} (h:ih c b9 dst (.buildSlice t bB parts) fr L m k):
 b6 c.P n ops (⟨dst, .buildSlice t bB parts,ty,pos,af,none⟩::l) K (bt (b0++new) fr) (b7 (b0++new) L m):=by
 simp only [ih] at h
 cases dst with
 |none=>exact h.elim
 |some d=>
  simp only at h
  cases aw:has b9 d with
  |true=>
   rw [aw] at h
   subst dK
   exact h.h new g n ops ty pos af l K al aM U.2
  |false=>
   rw [aw] at h
   obtain ⟨i,e8,J⟩:=e1 aP h
   unfold jO at J
   cases ad:i.k with
   |b9 e=>
    rw [ad] at J
    obtain ⟨j,gw,aa⟩:=e1 aP J
    obtain ⟨us,aj,he⟩:=Am (bs:=b0++new) aa
    obtain ⟨hF,aG⟩:=ec.1 aj
    obtain ⟨c2,aR⟩:=ec.1 aG
    obtain ⟨c3,bu⟩:=ec.1 aR
    obtain ⟨cD,aq⟩:=toLK_sound (bs:=b0++new) bu
    obtain ⟨c4,cK⟩:=ec.1 cD
    obtain ⟨aT,xw⟩:=It (bs:=b0++new) (m:=b7 (b0++new) L m) (stl:=[]) (d:=some d) aP e8 ad gw he hF c2 c3 aq c4 rfl
    refine b6.val (stl:=[]) al aM aT xw ?_
    have:=U.same g cK
    simp only [bt,den] at this
    exact this
   |_=>rw [ad] at J;exact J.elim
theorem Ix {b0 new:List Nat} (dK:c.bs=b0) (g:Good (b0++new) L m) {dst:Option Nat} {op:Op} {f:FuncId} {vs:List a7} {k:cY} (al:fp n ⟨dst,op,ty,pos,af,none⟩=true) (aM:gS n ⟨dst,op,ty,pos,af,none⟩=true) (U:kb c.P n ops l K c.bs (b0++new) k)
 (aT:fl c.P (b7 (b0++new) L m) (br (bt (b0++new) fr)) [] dst op= .call f (bE (b0++new) vs)) (h:pN c.P c.bs f vs fr L m fun y ch m'=>ko dst y fr fun fr=>k fr ch m'):
 b6 c.P n ops (⟨dst,op,ty,pos,af,none⟩::l) K (bt (b0++new) fr) (b7 (b0++new) L m):=by
 subst dK
 obtain ⟨σ,hg,QL,QM,QN,J,G3,xf⟩:=h
 refine xh (stl:=[]) al aM ?_
 simp only [n2,aT]
 refine J new g _ fun x an e2 eW=>?_
 have aa:=G3 x
 have aj:=xf x an
 generalize QL x=y at aj ⊢
 generalize QM x=ch at aa aj eW ⊢
 generalize QN x=ai at aj eW ⊢
 obtain ⟨bf,aG,e⟩:=oh (bs:=c.bs++new++e2) aj
 have:=U.more e2 eW aG
 rw [e] at this
 have az:bt (c.bs++new++e2) fr=bt (c.bs++new) fr:=by
  cases ah:Nat.beq ch.length L.length with
  |true=>
   have av:ch.length=L.length:=Nat.eq_of_beq_eq_true ah
   have aR:=eW.len
   have bu:=g.len
   have:e2=[]:=by
    apply List.eq_nil_of_length_eq_zero
    simp only [List.length_append] at aR bu
    omega
   rw [this,List.append_nil]
  |false=>
   rw [ah] at aa
   rw [←g.len] at aa
   exact zS aa
 rw [az] at this
 cases dst with
 |none=>exact this
 |some d=>exact this
theorem QO {b0 new:List Nat} (aP:fO c.P c.T=true) (dK:c.bs=b0) (g:Good (b0++new) L m) {dst:Option Nat} {args:Array Operand} {di:Array TypeId} {k:cY} (al:fp n ⟨dst, .call ⟨.builtin .append,args,di⟩,ty,pos,af,none⟩=true) (aM:gS n ⟨dst, .call ⟨.builtin .append,args,di⟩,ty,pos,af,none⟩=true) (U:kb c.P n ops l K c.bs (b0++new) k) {b9:List Nat} (h:ih c b9 dst (.call ⟨.builtin .append,args,di⟩) fr L m k):
 b6 c.P n ops (⟨dst, .call ⟨.builtin .append,args,di⟩,ty,pos,af,none⟩::l) K (bt (b0++new) fr) (b7 (b0++new) L m):=by
 have kp:iA c.P c.bs dst (.call ⟨.builtin .append,args,di⟩) fr L m k→b6 c.P n ops (⟨dst, .call ⟨.builtin .append,args,di⟩,ty,pos,af,none⟩::l) K (bt (b0++new) fr) (b7 (b0++new) L m):=fun h=>by
  subst dK
  exact h.h new g n ops ty pos af l K al aM U.2
 simp only [ih] at h
 split at h
 · rename_i s y t u d aT aq
   rw [my] at h
   obtain ⟨w,J,e⟩:=fF (b0++new) h
   split at J
   · rename_i qM o l' bw
     obtain ⟨i,e8,aa⟩:=e1 aP J
     unfold jO at aa
     cases ad:i.k with
     |b9 gV=>
      rw [ad] at aa
      obtain ⟨j,gw,aj⟩:=e1 aP aa
      obtain ⟨hF,aG⟩:=ec.1 aj
      refine aG.h.elim (fun aG=>?_) kp
      clear aj
      obtain ⟨⟨cq,bl,gx,gG⟩,aR⟩:=aG
      obtain rfl:=Nat.eq_of_beq_eq_true hF
      obtain ⟨jg,iW,oe,qI⟩:=e8.b9 ad
      have aA:=ll (b0++new) fr s
      rw [bw] at aA
      simp only [den,ab.plain] at aA e
      refine b6.val (stl:=[]) (ss:=[s]) (side:=t=t∧eV c.P gV=true∧0<c.P.cellsOf gV∧kJ c.P gV=true∧(qM.length+l'.length)*c.P.bytesOf gV≤140737488355328∧qM.length+l'.length≤140737488355328∧(∀x∈qM,x.cells.length=c.P.cellsOf gV)∧∀x∈l',x.cells.length=c.P.cellsOf gV∧x.cells.all ab.one=true) (m':=b7 (b0++new) L m) (x:= .slice true (qM++l')) al aM ?_ ?_ ?_
      · simp only [fl,aT,aq,jg,aA,←e]
      · rw [gw.bytes,gw.cells]
        exact ⟨rfl,iW,gw.cells▸oe,qI,cq,bl,gx,gG⟩
      · have:=U.same g aR
        simp only [bt,den,ab.plain] at this
        simp only [Fr.strip,Fr.put,fh,aA,ab.plain]
        exact this
     |_=>rw [ad] at aa;exact aa.elim
   · exact kp J
 · rename_i y t u d aT aq
   obtain ⟨w,J,e⟩:=fF (b0++new) h
   split at J
   · rename_i o l'
     obtain ⟨i,e8,aa⟩:=e1 aP J
     unfold jO at aa
     cases ad:i.k with
     |b9 gV=>
      rw [ad] at aa
      obtain ⟨j,gw,aj⟩:=e1 aP aa
      obtain ⟨hF,aG⟩:=ec.1 aj
      refine aG.h.elim (fun aG=>?_) kp
      clear aj
      obtain ⟨⟨cq,bl,gx,gG⟩,aR⟩:=aG
      obtain rfl:=Nat.eq_of_beq_eq_true hF
      obtain ⟨jg,iW,oe,qI⟩:=e8.b9 ad
      simp only [den,ab.plain] at e
      refine b6.val (stl:=[]) (ss:=[]) (side:=t=t∧eV c.P gV=true∧0<c.P.cellsOf gV∧kJ c.P gV=true∧l'.length*c.P.bytesOf gV≤140737488355328∧∀x∈l',x.cells.length=c.P.cellsOf gV∧x.cells.all ab.one=true) (m':=b7 (b0++new) L m) (x:= .slice true l') al aM ?_ ?_ ?_
      · simp only [fl,aT,aq,jg,←e]
      · rw [gw.bytes,gw.cells]
        simp only [List.length_nil,Nat.zero_add] at cq
        exact ⟨rfl,iW,gw.cells▸oe,qI,cq,gG⟩
      · have:=U.same g aR
        simp only [bt,den,List.nil_append] at this
        exact this
     |_=>rw [ad] at aa;exact aa.elim
   · exact kp J
 · exact h.elim
set_option maxHeartbeats 4000000 in
theorem QP {b0 new:List Nat} (aP:fO c.P c.T=true) (dK:c.bs=b0) (g:Good (b0++new) L m) {dst:Option Nat} {op:Op} {k:cY} (aY:∀t a x,op= .store t a x→dst=none) (al:fp n ⟨dst,op,ty,pos,af,none⟩=true) (aM:gS n ⟨dst,op,ty,pos,af,none⟩=true) (U:kb c.P n ops l K c.bs (b0++new) k) {b9:List Nat} (h:ih c b9 dst op fr L m k):
 b6 c.P n ops (⟨dst,op,ty,pos,af,none⟩::l) K (bt (b0++new) fr) (b7 (b0++new) L m):=by
 have kp:iA c.P c.bs dst op fr L m k→b6 c.P n ops (⟨dst,op,ty,pos,af,none⟩::l) K (bt (b0++new) fr) (b7 (b0++new) L m):=fun h=>by
  subst dK
  exact h.h new g n ops ty pos af l K al aM U.2
 have aC:=h
 unfold ih at h
 split at h
 · exact Qv g al aM U aC
 · exact Qx g al aM U aC
 · exact Qy g al aM U aC
 · exact wW aP rfl dK g al aM U aC
 · exact QA aP rfl dK g (aY _ _ _ rfl) al aM U aC
 · exact QD aP rfl dK g al aM U aC
 · exact QE g al aM U aC
 · exact QF aP g al aM U aC
 · exact QJ aP g al aM U kp aC
 · exact QK aP dK g al aM U aC
 ·
  obtain ⟨us,J,aF⟩:=uY (b0++new) h
  obtain ⟨vs,aa,az⟩:=uY (b0++new) J
  cases dst with
  |none=>exact aa.elim
  |some d=>
   have aU:=U.same g aa
   simp only [bt,den,aF,az] at aU
   have:=Pv (P:=c.P) (ops:=ops) (stl:=[]) (r:=[]) (K:=b6 c.P n ops l K) (fr:=bt (b0++new) fr) (m:=b7 (b0++new) L m) (d:=d) (ty:=ty) (pos:=pos) (af:=af) (gd:=none) rfl rfl rfl aU
   exact sQ al aM this
 · obtain ⟨q,J,aF⟩:=fF (b0++new) h
   refine sQ (stl:=[]) al aM ?_
   split at J
   · obtain ⟨u,aa,az⟩:=fF (b0++new) J
     obtain ⟨bf,aj,cS⟩:=oh (bs:=b0++new) aa
     have aU:=U.same g aj
     rw [cS,az] at aU
     simp only [den,bD.val] at aF
     simp only [j7,h0,←aF]
     exact aU
   · obtain ⟨u,aa,az⟩:=fF (b0++new) J
     obtain ⟨bf,aj,cS⟩:=oh (bs:=b0++new) aa
     have aU:=U.same g aj
     rw [cS,az] at aU
     simp only [den,bD.val] at aF
     simp only [j7,h0,←aF]
     exact aU
   · exact J.elim
 · exact QO aP dK g al aM U aC
 · cases o3:rJ c dst with
   |true=>simp only [o3] at h;exact kp h
   |false=>
    simp only [o3] at h
    obtain ⟨us,J,aF⟩:=uY (b0++new) h
    exact Ix dK g al aM U (by simp only [fl,aF]) J
 · rw [my] at h
   split at h
   · rename_i t args _ _ f a z8 bw
     obtain ⟨us,J,aF⟩:=uY (b0++new) h
     rw [hR] at J
     refine Ix dK g al aM U ?_ J
     have aA:=ll (b0++new) fr t
     rw [bw] at aA
     simp only [den] at aA
     simp only [fl,aA,mx,List.map_append]
     rw [mx] at aF
     rw [aF]
   · exact kp h
 all_goals first|exact kp h|skip
 · cases o3:rJ c dst with
   |true=>simp only [o3] at h;exact kp h
   |false=>
    simp only [o3] at h
    cases dst with
    |none=>exact h.elim
    |some d=>exact Ip aP g al U h
 cases dst with
 |none=>exact h.elim
 |some d=>exact Ip aP g al U h
end
end Go.cz
end
section
namespace Go.cz
open Go Go.bg
section
variable {c:gW} {n:Nat} {L:List bT} {m:ae} {K:Fr→ae→Prop} {ops:Array Oper} {l:List Oper} {bs:List Nat}
theorem x9 {t:Nat} {v:a7}:∀{fr:ck} {k:ck→Prop},o2 fr t v k→den bs v=den bs (eh fr t)→∃bf,k bf∧bt bs bf=bt bs fr
 |[],_,h,_=>⟨_,h,rfl⟩
 |(s,x)::r,k,h,e=>by
  simp only [o2] at h
  simp only [eh] at e
  cases ah:Nat.beq s t with
  |true=>
   rw [ah] at h e
   exact ⟨_,h,by simp only [bt];rw [show den bs v=den bs x from e]⟩
  |false=>
   rw [ah] at h e
   obtain ⟨bf,cN,bR⟩:=x9 (fr:=r) h e
   exact ⟨_,cN,by simp only [bt,bR]⟩
theorem Iy {gd:Option (Nat×Bool)} {fr:ck} {on off:ck→Prop} (h:vd ops.toList gd fr on off):
 (h0 ops (bt bs fr) gd=some true∧∃bf,on bf∧bt bs bf=bt bs fr)∨(h0 ops (bt bs fr) gd=some false∧∃bf,off bf∧bt bs bf=bt bs fr):=by
 cases gd with
 |none=>exact .inl ⟨rfl,_,h,rfl⟩
 |some oU=>
  obtain ⟨j,b⟩:=oU
  simp only [vd] at h
  rw [jN,Array.getElem?_toList] at h
  cases bc:(ops[j]?).bind (·.dst) with
  |none=>rw [bc] at h;exact h.elim
  |some g=>
   rw [bc] at h
   simp only at h
   rw [my] at h
   have aA:=ll bs fr g
   have DJ:∀x,br (bt bs fr) g=x→h0 ops (bt bs fr) (some (j,b))=rA x b:=fun x e=>by simp only [h0,bc,e]
   have key:∀(q:bD),eh fr g= .b q→(b=true→q.ways (o2 fr g (.b (.lit true)) on) (o2 fr g (.b (.lit false)) off))→(b=false→q.ways (o2 fr g (.b (.lit true)) off) (o2 fr g (.b (.lit false)) on))→
    (h0 ops (bt bs fr) (some (j,b))=some true∧∃bf,on bf∧bt bs bf=bt bs fr)∨(h0 ops (bt bs fr) (some (j,b))=some false∧∃bf,off bf∧bt bs bf=bt bs fr):=fun q aU gv fq=>by
    have aY:den bs (eh fr g)= .bool q.val:=by rw [aU];simp only [den]
    rw [DJ (.bool q.val) (aA.trans aY)]
    cases ah:b with
    |true=>
     obtain ⟨cU,eP⟩:=q.xJ (gv ah)
     cases bw:q.val with
     |true=>exact .inl ⟨rfl,x9 (cU bw) (by rw [aY,bw];simp only [den,bD.val])⟩
     |false=>exact .inr ⟨rfl,x9 (eP bw) (by rw [aY,bw];simp only [den,bD.val])⟩
    |false=>
     obtain ⟨cU,eP⟩:=q.xJ (fq ah)
     cases bw:q.val with
     |true=>exact .inr ⟨rfl,x9 (cU bw) (by rw [aY,bw];simp only [den,bD.val])⟩
     |false=>exact .inl ⟨rfl,x9 (eP bw) (by rw [aY,bw];simp only [den,bD.val])⟩
   cases aw:eh fr g with
   |b q=>
    rw [aw] at h
    cases q with
    |lit z=>
     have aY:br (bt bs fr) g= .bool z:=by rw [aA,aw];simp only [den,bD.val]
     rw [DJ _ aY]
     cases z<;>cases b<;>first|exact .inl ⟨rfl,_,h,rfl⟩|exact .inr ⟨rfl,_,h,rfl⟩
    |_=>exact key _ aw (fun e=>by subst e;exact h) (fun e=>by subst e;exact h)
   |off=>
    rw [aw] at h
    have aY:br (bt bs fr) g= .lazy false .aV:=by rw [aA,aw];simp only [den]
    rw [DJ _ aY]
    refine .inr ⟨?_,_,h,rfl⟩
    cases b<;>rfl
   |_=>rw [aw] at h;exact h.elim
def tc (o:Oper):Bool:=
 match o.op,o.dst with
 | .store _ _ _,some _=>false
 |_,_=>true
theorem QQ {o:Oper} (h:tc o=true):∀t a x,o.op= .store t a x→o.dst=none:=by
 intro t a x e
 unfold tc at h
 rw [e] at h
 cases aY:o.dst with
 |none=>rfl
 |some d=>rw [aY] at h;cases h
theorem vk {b0:List Nat} (aP:fO c.P c.T=true) (dK:c.bs=b0) {b9:List Nat}:∀(l:List Oper) {fr:ck} {L:List bT} {m:ae} {new:List Nat} {k:cY},(∀o∈l,fp n o=true∧gS n o=true∧tc o=true)→Good (b0++new) L m→
 rK c ops.toList b9 l fr L m k→(∀bf ch m' e2,Good (b0++e2) ch m'→k bf ch m'→K (bt (b0++e2) bf) (b7 (b0++e2) ch m'))→b6 c.P n ops l K (bt (b0++new) fr) (b7 (b0++new) L m)
 |[],fr,L,m,new,k,_,g,h,U=>b6.nil (U fr L m new g h)
 |o::r,fr,L,m,new,k,dc,g,h,U=>by
  obtain ⟨dst,op,ty,pos,af,gd⟩:=o
  obtain ⟨J,aa,aj⟩:=dc _ (List.mem_cons_self ..)
  rw [Qf] at h
  rcases Iy (bs:=b0++new) h with ⟨bc,bf,h,e⟩|⟨bc,bf,h,e⟩
  · refine b6.Qp bc ?_
    rw [←e]
    refine QP aP dK g (QQ (o:=⟨dst,op,ty,pos,af,gd⟩) aj) J aa ⟨by rw [dK];exact List.prefix_append _ _,fun qL CO m2 WY aQ g2 h=>?_⟩ h
    obtain ⟨e2,rfl⟩:=aQ
    rw [dK] at g2 ⊢
    exact vk aP dK r (new:=e2) (fun o aL=>dc o (List.mem_cons_of_mem _ aL)) g2 h U
  · refine b6.Qq bc J ?_
    rw [←e]
    obtain ⟨qL,h,az⟩:=oh (bs:=b0++new) h
    have:=vk aP dK r (new:=new) (fun o aL=>dc o (List.mem_cons_of_mem _ aL)) g h U
    rw [az] at this
    simp only [den] at this
    exact this
theorem QR {b0 new:List Nat} (aP:fO c.P c.T=true) (dK:c.bs=b0) (g:Good (b0++new) L m) {o:Oper} {fr:ck} {k:ck→Prop} (h:Aa c o.dst o.op fr L m k):
 ∃cv side x,kl c.P (b7 (b0++new) L m) cv (br (bt (b0++new) fr)) o=some (side,x)∧side∧∃bf,k bf∧bt (b0++new) bf=fh (bt (b0++new) fr) o.dst x:=by
 obtain ⟨dst,op,ty,pos,af,gd⟩:=o
 cases dst with
 |none=>exact h.elim
 |some d=>
  simp only [Aa] at h
  split at h
  · subst dK
    obtain ⟨us,J,e⟩:=uY (c.bs++new) h
    obtain ⟨y,aa,aj⟩:=J
    obtain ⟨cv,aG,aR⟩:=aa new g
    refine ⟨cv,_,_,by simp only [kl];rfl,?_,_,aj,?_⟩
    · rw [←e];exact aG
    · simp only [bt,fh,Fr.put,aR]
  · rename_i t parts
    obtain ⟨i,e8,J⟩:=e1 aP h
    cases ad:i.k with
    |st c6=>
     rw [ad] at J
     obtain ⟨ak,aa⟩:=ec.1 J
     rw [hR] at aa
     obtain ⟨cells,side,aj,aT,aw⟩:=Iv (bs:=b0++new) (m:=b7 (b0++new) L m) (stl:=[]) (d:=some d) aP e8 ad (by intro e;rw [e] at ak;cases ak) aa rfl
     obtain ⟨u,aG,e⟩:=uV (b0++new) aj
     refine ⟨.aV,side,(ab.agg (bE (b0++new) cells)).plain,by simp only [kl,aT],aw,_,aG,?_⟩
     simp only [bt,den,fh,Fr.put,ab.plain,e]
    |_=>rw [ad] at J;exact J.elim
  · rename_i t bB parts
    obtain ⟨i,e8,J⟩:=e1 aP h
    unfold jO at J
    cases ad:i.k with
    |b9 e=>
     rw [ad] at J
     obtain ⟨j,gw,aa⟩:=e1 aP J
     obtain ⟨us,aj,he⟩:=Am (bs:=b0++new) aa
     obtain ⟨hF,aG⟩:=ec.1 aj
     obtain ⟨c2,aR⟩:=ec.1 aG
     obtain ⟨c3,bu⟩:=ec.1 aR
     obtain ⟨cD,aq⟩:=toLK_sound (bs:=b0++new) bu
     obtain ⟨c4,cK⟩:=ec.1 cD
     obtain ⟨aT,xw⟩:=It (bs:=b0++new) (m:=b7 (b0++new) L m) (stl:=[]) (d:=some d) aP e8 ad gw he hF c2 c3 aq c4 rfl
     refine ⟨.aV,_,(ab.slice true (bE (b0++new) (o1 us))).plain,by simp only [kl,aT],xw,_,cK,?_⟩
     simp only [bt,den,fh,Fr.put,ab.plain]
    |_=>rw [ad] at J;exact J.elim
  · obtain ⟨q,J,aF⟩:=fF (b0++new) h
    split at J
    · obtain ⟨u,aa,az⟩:=fF (b0++new) J
      simp only [den,bD.val] at aF
      exact ⟨.aV,True,_,by simp only [kl,←aF];rfl,trivial,_,aa,by simp only [bt,fh,Fr.put,az]⟩
    · obtain ⟨u,aa,az⟩:=fF (b0++new) J
      simp only [den,bD.val] at aF
      exact ⟨.aV,True,_,by simp only [kl,←aF];rfl,trivial,_,aa,by simp only [bt,fh,Fr.put,az]⟩
    · exact J.elim
  · rename_i hK fw nz nA
    obtain ⟨side,z,u,aU,aw,rfl,J⟩:=Ie (P:=c.P) (bs:=b0++new) (m:=m) aP g h
    refine ⟨.aV,side,_,?_,aw,_,J,rfl⟩
    rw [←aU]
    unfold kl
    split
    · rename_i e;exact (hK _ _ _ e).elim
    · rename_i e;exact (nz _ _ _ e).elim
    · rename_i e;exact (fw _ _ e).elim
    · rename_i e;exact (nA _ _ _ e).elim
    · rfl
theorem DK {b0 new:List Nat} (aP:fO c.P c.T=true) (dK:c.bs=b0) (g:Good (b0++new) L m):∀(l:List Oper) {fr:ck} {k:ck→Prop},x2 c ops.toList l fr L m k→
 ∃cs,ns c.P ops (b7 (b0++new) L m) cs l (bt (b0++new) fr) (fun f=>∃bf,f=bt (b0++new) bf∧k bf)
 |[],fr,k,h=>⟨[],_,rfl,h⟩
 |o::r,fr,k,h=>by
  rw [Qg] at h
  rcases Iy (bs:=b0++new) h with ⟨bc,bf,h,e⟩|⟨bc,bf,h,e⟩
  · obtain ⟨cv,side,x,J,aa,qL,aj,az⟩:=QR aP dK g h
    obtain ⟨cs,aG⟩:=DK aP dK g r aj
    rw [az,e] at aG
    rw [e] at J
    by_cases ao:∃f args di,o.op= .call ⟨.value (.func f),args,di⟩
    · obtain ⟨f,args,di,cS⟩:=ao
      refine ⟨cv::cs,?_⟩
      simp only [ns,List.headD_cons]
      rw [Hw bc,J]
      simp only [cS,List.tail_cons]
      exact ⟨aa,aG⟩
    · have C1:kl c.P (b7 (b0++new) L m) (cs.headD .aV) (br (bt (b0++new) fr)) o=some (side,x):=by
       rw [←J]
       unfold kl
       split
       · rename_i cS;exact absurd ⟨_,_,_,cS⟩ ao
       all_goals rfl
      refine ⟨cs,?_⟩
      simp only [ns]
      rw [Hw bc,C1]
      refine ⟨aa,?_⟩
      split
      · rename_i cS;exact absurd ⟨_,_,_,cS⟩ ao
      · exact aG
  · obtain ⟨qL,aj,az⟩:=oh (bs:=b0++new) h
    obtain ⟨cs,aG⟩:=DK aP dK g r aj
    rw [az,e] at aG
    simp only [den] at aG
    by_cases ao:∃f args di,o.op= .call ⟨.value (.func f),args,di⟩
    · obtain ⟨f,args,di,cS⟩:=ao
      refine ⟨.aV::cs,?_⟩
      simp only [ns]
      rw [Hx bc]
      simp only [cS,List.tail_cons]
      exact ⟨trivial,aG⟩
    · refine ⟨cs,?_⟩
      simp only [ns]
      rw [Hx bc]
      refine ⟨trivial,?_⟩
      split
      · rename_i cS;exact absurd ⟨_,_,_,cS⟩ ao
      · exact aG
theorem Iz:∀{dJ:List (Nat×Nat)} {fr:ck} {k:ck→Prop},Ab dJ fr k→∃bf,k bf∧bt bs bf=(bt bs fr).alias dJ
 |[],_,_,h=>⟨_,h,rfl⟩
 |(d,s)::r,fr,k,h=>by
  simp only [Ab] at h
  rw [my] at h
  obtain ⟨aM,J⟩:=ec.1 h
  obtain ⟨u,aa,e⟩:=uW bs aM J
  obtain ⟨bf,aj,az⟩:=Iz aa
  refine ⟨bf,aj,?_⟩
  rw [az]
  simp only [bt,Fr.alias,Fr.put,ll,e]
section
variable {P:Program} {fr:Fr} {Q hX:Exit→Fr→ae→Prop} {ij:Code}
theorem dS.ya (aU:∀e fr m,Q e fr m→∃bf m',hr bf fr∧(∀b o,m' b=some o→m b=some o)∧hX e bf m') (h:dS P n ij Q fr m):dS P n ij hX fr m:=fun F lim w ca st=>
 wp_mono (h F lim w ca st) fun e _ _ ⟨l,f,ai,q,gE,fg⟩=>by
  obtain ⟨fP,m',J,aa,aj⟩:=aU e f ai q
  exact ⟨l,fP,m',aj,(bd.less gE J).sA aa,fg⟩
theorem dS.IA {m':ae} (aw:∀b o,m' b=some o→m b=some o) (h:dS P n ij Q fr m'):dS P n ij Q fr m:=fun F lim w ca st=>h F lim w ca (st.sA aw)
theorem b6.eL (h:b6 P n ops l K fr m):b6 P n ops l (fun f m=>(∀t x,f.get t=some x→t<n)∧K f m) fr m:=fun F lim w ca yb st aU=>
 h F lim w ca yb st fun lim' w' f m' eM al gE fg=>aU lim' w' f m' eM ⟨fun t x an=>by obtain ⟨_,_,_,s⟩:=gE;exact (s.eL t x an).1,al⟩ gE fg
theorem IB {f:Fr} {t:Nat}:∀{ks:List Nat},t∈ks→(Fr.keep ks f).get t=some ((f.get t).getD .aV)
 |s::r,h=>by
  simp only [Fr.keep,List.map_cons,Fr.get]
  by_cases e:s=t
  · subst e;rw [if_pos rfl]
  · rw [if_neg e]
    rcases List.mem_cons.1 h with rfl|h
    · exact absurd rfl e
    · exact IB (f:=f) h
theorem DL {f:Fr} (aZ:∀t x,f.get t=some x→t<n):hr f (f.keep (List.range n)):=fun t x an=>by
 refine ⟨x,?_, .inl rfl⟩
 rw [IB (List.mem_range.2 (aZ t x an)),an];rfl
theorem DM (h:kM n ops []=true):kM n ops (List.range n)=true:=by
 simp only [kM,Bool.and_eq_true,List.all_eq_true] at h ⊢
 exact ⟨h.1,fun t aq=>by simpa using aq⟩
theorem QS {id:Nat} (al:kM n ops []=true) (h:b6 P n ops ops.toList (fun fr m=>Q .normal fr m) fr m):dS P n (.region id ops false) Q fr m:=by
 have:=DM al
 simp only [kM,Bool.and_eq_true] at this
 refine dS.ya (Q:=fun e f m=>∃fP,hr fP f∧Q e fP m) (fun e f m ⟨fP,J,aa⟩=>⟨fP,m,J,fun _ _ h=>h,aa⟩) (Gr (List.range n) this.2 ?_)
 intro F lim w ca yb st aU
 exact (b6.eL h) F lim w ca yb st fun lim' w' f m' eM al gE fg=>aU lim' w' f m' eM ⟨f,DL al.1,al.2⟩ gE fg
theorem QT {id:Nat} (hm:P.follows .mixedOrders=true) (p:Nat) (dJ:List (Nat×Nat)) (al:kM n ops []=true) (aY:sO ops p dJ=true)
 (h:∃cs,ns P ops m cs (ops.toList.take p) fr (fun bf=>b6 P n ops (ops.toList.drop p) (fun fr m=>Q .normal fr m) (bf.alias dJ) m)):dS P n (.region id ops true) Q fr m:=by
 obtain ⟨cs,h⟩:=h
 refine dS.ya (Q:=fun e f m=>∃fP,hr fP f∧Q e fP m) (fun e f m ⟨fP,J,aa⟩=>⟨fP,m,J,fun _ _ h=>h,aa⟩) (OY hm p dJ cs (List.range n) (DM al) aY (Hu _ (fun f h=>?_) h))
 intro F lim w ca yb st aU
 exact (b6.eL h) F lim w ca yb st fun lim' w' f m' eM al gE fg=>aU lim' w' f m' eM ⟨f,DL al.1,al.2⟩ gE fg
end
def yc (xs:List Nat) (n id:Nat) (ops:Array Oper) (draw:Bool):Bool:=
 kM n ops []&&(ops.toList.all tc)&&(!draw||has xs (id*1000+999)||sO ops (s8 xs id ops.toList 0) (vg (qK ops.toList) (ops.toList.take (s8 xs id ops.toList 0))))
theorem IC {b0 new:List Nat} (aP:fO c.P c.T=true) (hm:c.P.follows .mixedOrders=true) (dK:c.bs=b0) (g:Good (b0++new) L m) {id:Nat} {draw:Bool} (aA:yc c.xs n id ops draw=true) {fr:ck} {k:cY} {Q:Exit→Fr→ae→Prop}
 (h:rL c id ops.toList draw k fr L m) (U:∀bf ch m' e2,Good (b0++e2) ch m'→k bf ch m'→Q .normal (bt (b0++e2) bf) (b7 (b0++e2) ch m')):dS c.P n (.region id ops draw) Q (bt (b0++new) fr) (b7 (b0++new) L m):=by
 simp only [yc,Bool.and_eq_true] at aA
 obtain ⟨⟨J,aa⟩,aj⟩:=aA
 have dc:∀o∈ops.toList,fp n o=true∧gS n o=true∧tc o=true:=fun o aL=>by
  simp only [kM,Bool.and_eq_true,List.all_eq_true] at J
  rw [List.all_eq_true] at aa
  exact ⟨(J.1 o aL).1,(J.1 o aL).2,aa o aL⟩
 cases draw with
 |false=>exact QS J (vk aP dK _ dc g h U)
 |true=>
  simp only [rL] at h
  cases an:has c.xs (id*1000+999) with
  |true=>rw [an] at h;exact h.elim
  |false=>
  rw [an] at h aj
  simp only [hR] at h
  refine QT hm (s8 c.xs id ops.toList 0) (vg (qK ops.toList) (ops.toList.take (s8 c.xs id ops.toList 0))) J (by simpa using aj) ?_
  obtain ⟨cs,aG⟩:=DK aP dK g _ h
  refine ⟨cs,Hu _ (fun f aZ=>?_) aG⟩
  obtain ⟨bf,rfl,aR⟩:=aZ
  obtain ⟨qL,bu,e⟩:=Iz (bs:=b0++new) aR
  rw [←e]
  exact vk aP dK _ (fun o aL=>dc o (List.mem_of_mem_drop aL)) g bu U
end
end Go.cz
end
section
namespace Go.cz
open Go Go.bg
def nB (c:List Nat) (n:Nat):Code→Bool
 | .region id ops draw=>yc c n id ops draw
 | .seq a b=>nB c n a&&nB c n b
 | .cond q x y=>k6 q&&nB c n x&&nB c n y
 | .block _ b=>nB c n b
 | .loop b=>nB c n b
 | .skip| .ret| .exit _=>true
 |_=>false
def ik (bs:List Nat) (kn:cY) (kx:Nat→cY) (kr:cY) (e:Exit) (f:Fr) (ai:ae):Prop:=
 ∃fr L m e2,Good (bs++e2) L m∧f=bt (bs++e2) fr∧ai=b7 (bs++e2) L m∧
  match e with
  | .normal=>kn fr L m
  | .exit id=>kx id fr L m
  | .ret=>kr fr L m
  |_=>False
section
variable {c:gW} {n:Nat} {b0:List Nat}
theorem ik.kS {b0 new:List Nat} {kn:cY} {kx:Nat→cY} {kr:cY} {e:Exit} {fr:ck} {L:List bT} {m:ae} (g:Good (b0++new) L m) (h:match e with| .normal=>kn fr L m| .exit id=>kx id fr L m| .ret=>kr fr L m|_=>False):ik b0 kn kx kr e (bt (b0++new) fr) (b7 (b0++new) L m):=
 ⟨fr,L,m,new,g,rfl,rfl,h⟩
theorem take_split {b0 new:List Nat} {n:Nat} (h:b0.length≤n):(b0++new).take n=b0++new.take (n- b0.length):=by
 rw [List.take_append,List.take_of_length_le h]
theorem DN (bs:List Nat):∀{fr:ck} {t:Nat} {v:a7},s9 fr t=some v→(bt bs fr).get t=some (den bs v)
 |[],_,_,h=>by cases h
 |(s,x)::r,t,v,h=>by
  simp only [s9] at h
  simp only [bt,Fr.get]
  cases ah:Nat.beq s t with
  |true=>
   rw [ah] at h
   rw [if_pos (Nat.eq_of_beq_eq_true ah)]
   simp only [cond_true,Option.some.injEq] at h
   rw [h]
  |false=>
   rw [ah] at h
   have:¬s=t:=by
    intro e
    subst e
    have:Nat.beq s s=true:=Nat.beq_refl s
    rw [this] at ah
    cases ah
   rw [if_neg this]
   exact DN bs h
theorem ID (bs:List Nat) (E:Nat) (v:a7):den bs (jn E v)=(den bs v).toErr E:=by
 unfold jn
 split
 · simp only [den,ab.plain,ab.toErr]
 · rename_i u e
   simp only [den,ab.plain,ab.toErr]
   cases ah:Nat.beq u E with
   |true=>
    obtain rfl:=Nat.eq_of_beq_eq_true ah
    by_cases he:e=0
    · subst he;simp [den,ab.plain]
    · simp [he,den,ab.plain]
   |false=>
    have:¬u=E:=fun e=>by subst e;rw [Nat.beq_refl] at ah;cases ah
    simp [this,den,ab.plain]
 · rename_i J aa
   cases v with
   |aI x=>
    cases x with
    |nilIface=>exact absurd rfl J
    |iface u y=>
     simp only [den,ab.plain]
     cases y with
     |int k z=>cases k<;>first|exact absurd rfl (aa _ _)|simp only [ab.toErr]
     |_=>simp only [ab.toErr]
    |_=>simp only [den,ab.plain,ab.toErr]
   |_=>simp only [den,ab.toErr]
theorem IE (bs:List Nat) (E:Nat) (v:a7):lS (den bs (jn E v)) (den bs v):=by
 rw [ID]
 by_cases h:(den bs v).toErr E=den bs v
 · exact .inl h
 · right
   intro w lim u os aA
   have aa:=toErr_rep E aA
   have aj:=aa.plain
   have aG:((den bs v).toErr E).plain=(den bs v).toErr E:=by
    generalize den bs v=x at h ⊢
    cases x with
    |nilIface=>simp only [ab.toErr,ab.plain]
    |iface u y=>
     cases y with
     |int k z=>
      cases k<;>simp only [ab.toErr] at h ⊢<;>first|(split<;>simp only [ab.plain])|(simp only [ab.plain];done)|exact absurd rfl h
     |_=>exact absurd rfl h
    |_=>exact absurd rfl h
   rw [aG] at aj
   exact aj
theorem QU (bs:List Nat) (E:Nat) (md:List (Nat×Nat)) (t:Nat) (v:a7):lS (den bs (Ac E md t v)) (den bs v):=by
 unfold Ac
 split
 · cases md.any (fun p=>Nat.beq p.1 t) with
   |true=>exact .inl (by simp only [cond_true,den,bD.val])
   |false=>exact .inl rfl
 · exact .inl (by simp only [den,bD.val])
 · cases md.any (fun p=>Nat.beq p.1 t) with
   |true=>exact .pl (by simp only [cond_true,den,ab.plain])
   |false=>exact .inl rfl
 · exact .inl (by simp only [den,ab.plain,Ak])
 · cases md.any (fun p=>Nat.beq p.1 t) with
   |true=>exact IE bs E _
   |false=>exact .inl rfl
theorem An (bs:List Nat) (E:Nat) (md:List (Nat×Nat)):∀(ks:List Nat) (fr:ck),hr (bt bs (ny E md ks fr)) (bt bs fr)
 |[],fr,t,x,h=>by simp only [ny,bt,Fr.get] at h;cases h
 |s::r,fr,t,x,h=>by
  simp only [ny] at h
  cases aw:s9 fr s with
  |none=>rw [aw] at h;exact An bs E md r fr t x h
  |some v=>
   rw [aw] at h
   simp only [bt,Fr.get] at h
   by_cases e:s=t
   · subst e
     rw [if_pos rfl] at h
     refine ⟨_,DN bs aw,?_⟩
     have:den bs (Ac E md s v)=x:=by simpa using h
     rw [←this]
     exact QU bs E md s v
   · rw [if_neg e] at h
     exact An bs E md r fr t x h
theorem IF (bs:List Nat):∀(l:List a7),bE bs (ta l)=bE bs l
 |[]=>rfl
 |v::r=>by cases v<;>simp only [ta,bE,den,bD.val,IF bs r]
theorem QV (bs:List Nat) (o:bT):gz bs (x3 o)=gz bs o:=by
 cases o with
 |cells l=>simp only [x3,gz,IF]
 |obj o=>rfl
theorem DO (bs:List Nat):∀(L:List bT),(og L).map (gz bs)=L.map (gz bs)
 |[]=>rfl
 |o::r=>by simp only [og,List.map_cons,QV,DO bs r]
theorem IG (n:Nat):∀(l:List a7),od n (ta l)=od n l
 |[]=>rfl
 |v::r=>by cases v<;>simp only [ta,od,xO,IG n r]
theorem Ao (n:Nat):∀(L:List bT),nx n (og L)=nx n L
 |[]=>rfl
 | .cells l::r=>by simp only [og,x3,nx,zR,IG,Ao n r]
 | .obj o::r=>by simp only [og,x3,nx,zR,Ao n r]
theorem IH:∀(L:List bT),(og L).length=L.length
 |[]=>rfl
 |o::r=>by simp only [og,List.length_cons,IH r]
theorem yd {md:List (Nat×Nat)} {ks:List Nat} {k:Nat} {fr:ck} {L:List bT} {m:ae} {s:vh} {new:List Nat} (dK:c.bs=b0) (g:Good (b0++new) L m) (h:fits c md ks k fr L m s):
 Good (b0++new.take (k- b0.length)) s.2.1 s.2.2∧hr (bt (b0++new.take (k- b0.length)) s.1) (bt (b0++new) fr)∧(∀b o,b7 (b0++new.take (k- b0.length)) s.2.1 s.2.2 b=some o→b7 (b0++new) L m b=some o)∧(b0++new.take (k- b0.length)).length=k:=by
 obtain ⟨J,aa⟩:=h
 subst J
 subst dK
 simp only [Bool.and_eq_true] at aa
 obtain ⟨⟨⟨cq,bl⟩,gx⟩,gG⟩:=aa
 have hC:=Nat.le_of_ble_eq_true gx
 have hd:=Nat.le_of_ble_eq_true gG
 have av:=g.len
 have II:=take_split (new:=new) hd
 have hlen:((c.bs++new).take k).length=k:=by rw [List.length_take];omega
 rw [←II]
 have IJ:(c.bs++new)=(c.bs++new).take k++(c.bs++new).drop k:=(List.take_append_drop _ _).symm
 have iv:b7 ((c.bs++new).take k) (og (L.take k)) m=b7 ((c.bs++new).take k) (L.take k) m:=by simp only [b7,iy,DO]
 rw [Ao] at bl
 refine ⟨⟨?_,by rw [hlen,IH,List.length_take];omega,fun b ah=>g.fresh b (List.mem_of_mem_take ah)⟩,?_,fun b o ah=>?_,hlen⟩
 · exact g.lP.sublist (List.take_sublist _ _)
 · have e:bt (c.bs++new) (ny c.E md ks fr)=bt ((c.bs++new).take k) (ny c.E md ks fr):=by
    conv=>lhs;rw [IJ]
    exact zS (by rw [hlen];exact cq)
   rw [←e]
   exact An _ _ _ ks fr
 · simp only at ah
   rw [iv] at ah
   have ql:∀(A:List (Nat×gr)) (ai:ae),(A.map Prod.fst).Nodup→∀b o,ai.aS A b=some o→(∃i,A[i]?=some (b,o))∨(b∉A.map Prod.fst∧ai b=some o):=fun A ai gT b o ah=>by
    by_cases hm:b∈A.map Prod.fst
    · left
      obtain ⟨i,ad⟩:=List.getElem?_of_mem hm
      rw [List.getElem?_map] at ad
      cases dZ:A[i]? with
      |none=>rw [dZ] at ad;cases ad
      |some p=>
       rw [dZ] at ad
       obtain ⟨gL,fE⟩:=p
       simp only [Option.map_some,Option.some.injEq] at ad
       subst ad
       have:=qu (m:=ai) i gT dZ
       rw [this] at ah
       simp only [Option.some.injEq] at ah
       subst ah
       exact ⟨i,dZ⟩
    · right
      rw [pH hm] at ah
      exact ⟨hm,ah⟩
   have QW:((iy ((c.bs++new).take k) (L.take k)).map Prod.fst).Nodup:=by
    rw [qC (by rw [hlen,List.length_take];omega)]
    exact g.lP.sublist (List.take_sublist _ _)
   rcases ql _ m QW b o ah with ⟨i,ad⟩|⟨aj,aG⟩
   · have CH:i<k:=by
      rcases Nat.lt_or_ge i k with h|h
      · exact h
      · rw [List.getElem?_eq_none] at ad
        · cases ad
        · simp only [iy,List.length_zip,hlen,List.length_map,List.length_take];omega
     refine qu i g.nodup ?_
     have e:(L.take k).map (gz (c.bs++new))=(L.take k).map (gz ((c.bs++new).take k)):=by
      conv=>lhs;rw [IJ]
      exact C8 (by rw [hlen];exact bl)
     have ak:iy ((c.bs++new).take k) (L.take k)=(iy (c.bs++new) L).take k:=by
      simp only [iy,←e,List.map_take,List.zip,List.take_zipWith]
     rw [ak,List.getElem?_take_of_lt CH] at ad
     exact ad
   · by_cases hm:b∈(c.bs++new)
     · rw [g.fresh b hm] at aG;cases aG
     · rw [b7,pH (by rw [qC g.len];exact hm)]
       exact aG
theorem IK {bs:List Nat} {t:Nat}:∀{fr:ck},(bt bs fr).get t=none→eh fr t= .aI .aV
 |[],_=>rfl
 |(s,x)::r,bc=>by
  simp only [bt,Fr.get] at bc
  by_cases e:s=t
  · rw [if_pos e] at bc;cases bc
  · rw [if_neg e] at bc
    have ah:Nat.beq s t=false:=by
     cases ah:Nat.beq s t with
     |false=>rfl
     |true=>exact absurd (Nat.eq_of_beq_eq_true ah) e
    simp only [eh,ah,cond_false]
    exact IK bc
set_option maxHeartbeats 2000000 in
theorem IL (aP:fO c.P c.T=true) (hm:c.P.follows .mixedOrders=true) (dK:c.bs=b0) {id:Nat} {ops:Array Oper} {draw:Bool} {kn:cY} {kx:Nat→cY} {kr:cY} {fr:ck} {L:List bT} {m:ae} {new:List Nat} (g:Good (b0++new) L m) (al:yc c.xs n id ops draw=true)
 (h:vi c id ops.toList draw kn fr L m):dS c.P n (.region id ops draw) (ik b0 kn kx kr) (bt (b0++new) fr) (b7 (b0++new) L m):=by
 simp only [vi] at h
 have key:rL c id ops.toList draw kn fr L m→dS c.P n (.region id ops draw) (ik b0 kn kx kr) (bt (b0++new) fr) (b7 (b0++new) L m):=fun h=>
  IC aP hm dK g al h fun bf ch m' e2 eW al=>⟨bf,ch,m',e2,eW,rfl,rfl,al⟩
 have DP:Ae (fun kn fr L m=>rL c id ops.toList draw kn fr L m) kn fr L m→dS c.P n (.region id ops draw) (ik b0 kn kx kr) (bt (b0++new) fr) (b7 (b0++new) L m):=fun h=>by
  obtain ⟨rM,J,aa⟩:=h
  refine dS.ya (fun e f ai aQ=>?_) (IC (Q:=ik b0 rM kx kr) aP hm dK g al aa fun bf ch m' e2 eW al=>⟨bf,ch,m',e2,eW,rfl,rfl,al⟩)
  obtain ⟨bf,ch,m',e2,eW,rfl,rfl,cN⟩:=aQ
  cases e with
  |normal=>
   obtain ⟨md,t,e,ks,⟨q,aU,he⟩,df⟩:=J _ _ _ cN
   refine ⟨bt (b0++e2) ((t, .b (.raw e))::ny 0 md ks bf),_,?_,fun _ _ h=>h,ik.kS (kn:=kn) (kx:=kx) (kr:=kr) (e:= .normal) eW df⟩
   intro s x an
   simp only [bt,Fr.get] at an
   by_cases es:t=s
   · subst es
     rw [if_pos rfl] at an
     refine ⟨_,DN _ aU, .inl ?_⟩
     have:den (b0++e2) (.b (.raw e))=x:=by simpa using an
     rw [←this]
     simp only [den,bD.val,he]
   · rw [if_neg es] at an
     exact An _ 0 md ks bf s x an
  |exit id=>exact ⟨_,_,hr.refl _,fun _ _ h=>h,ik.kS (kn:=kn) (kx:=kx) (kr:=kr) (e:= .exit id) eW cN⟩
  |ret=>exact ⟨_,_,hr.refl _,fun _ _ h=>h,ik.kS (kn:=kn) (kx:=kx) (kr:=kr) (e:= .ret) eW cN⟩
  |_=>exact cN.elim
 have IM:∀p:Prop,(p→dS c.P n (.region id ops draw) (ik b0 kn kx kr) (bt (b0++new) fr) (b7 (b0++new) L m))→Told fr p→dS c.P n (.region id ops draw) (ik b0 kn kx kr) (bt (b0++new) fr) (b7 (b0++new) L m):=fun p aQ h=>by
  intro F lim w ca st
  refine aQ (h.h fun t=>?_) F lim w ca st
  clear aQ h DP key al
  cases bc:(bt (b0++new) fr).get t with
  |none=>
   have:eh fr t= .aI .aV:=IK bc
   rw [this]
   simp only [Dx,ab.plain,xD,qw]
  |some x=>
   have an:den (b0++new) (eh fr t)=x:=by rw [←ll,br,bc];rfl
   obtain ⟨os,cI,bW,aw⟩:=st
   have aA:=(aw.eL t x bc).2
   rw [←an] at aA
   cases bw:eh fr t with
   |aI y=>
    rw [bw] at aA
    cases y with
    |int dL z=>
     simp only [den,ab.plain] at aA
     exact (mm aA).2
    |slice o l=>
     simp only [den,ab.plain] at aA
     exact ⟨CW aA,HN aA⟩
    |_=>
     have ah:=CW aA
     simp only [den] at ah
     exact ah
   |own l=>
    rw [bw] at aA
    simp only [den] at aA
    exact ⟨CW aA,HN aA⟩
   |_=>simp only [Dx]
 cases aw:has c.st id with
 |false=>
  cases aD:has c.s5 id with
  |false=>rw [aw,aD] at h;exact key h
  |true=>rw [aw,aD] at h;exact DP h
 |true=>
  cases aD:has c.s5 id with
  |false=>rw [aw,aD] at h;exact IM _ key h
  |true=>rw [aw,aD] at h;exact IM _ DP h
set_option maxHeartbeats 2000000 in
theorem pP (aP:fO c.P c.T=true) (hm:c.P.follows .mixedOrders=true) (dK:c.bs=b0):∀(ij:Code) {kn:cY} {kx:Nat→cY} {kr:cY} {fr:ck} {L:List bT} {m:ae} {new:List Nat},Good (b0++new) L m→nB c.xs n ij=true→
 lR c ij kn kx kr fr L m→dS c.P n ij (ik b0 kn kx kr) (bt (b0++new) fr) (b7 (b0++new) L m)
 | .skip,kn,kx,kr,fr,L,m,new,g,_,h=>Gp (ik.kS g h)
 | .ret,kn,kx,kr,fr,L,m,new,g,_,h=>B3 (ik.kS g h)
 | .exit id,kn,kx,kr,fr,L,m,new,g,_,h=>Nz (ik.kS g h)
 | .region id ops draw,kn,kx,kr,fr,L,m,new,g,al,h=>by
   simp only [nB] at al
   rw [Qk] at h
   cases bw:has c.cv id with
   |false=>
    rw [bw] at h
    exact IL aP hm dK g al h
   |true=>
    rw [bw] at h
    subst dK
    rcases h.h with h|h
    · refine h.h new g n _ _ fun bf ch m' iY aQ eW cN=>?_
      obtain ⟨e2,rfl⟩:=aQ
      exact IL aP hm rfl eW al cN
    · simp only [yc,Bool.and_eq_true] at al
      refine h.h new g n _ al.1.1 fun bf ch m' iY aQ eW cN=>?_
      obtain ⟨e2,rfl⟩:=aQ
      exact ik.kS (kn:=kn) (kx:=kx) (kr:=kr) (e:= .normal) eW cN
 | .seq a b,kn,kx,kr,fr,L,m,new,g,al,h=>by
   simp only [nB,Bool.and_eq_true] at al
   rw [Ql] at h
   refine Gq ?_
   cases ad:DA a with
   |true=>
    rw [ad] at h
    refine dS.mono (pP aP hm dK a g al.1 h) fun e f ai aQ=>?_
    obtain ⟨bf,ch,m',e2,eW,rfl,rfl,cN⟩:=aQ
    cases e with
    |normal=>
     exact pP aP hm dK b eW al.2 cN
    |exit id=>exact ik.kS (kn:=kn) (kx:=kx) (kr:=kr) (e:= .exit id) eW cN
    |ret=>exact ik.kS (kn:=kn) (kx:=kx) (kr:=kr) (e:= .ret) eW cN
    |_=>exact cN.elim
   |false=>
    rw [ad] at h
    obtain ⟨rM,J,aa⟩:=h
    refine dS.mono (pP aP hm dK a g al.1 aa) fun e f ai aQ=>?_
    obtain ⟨bf,ch,m',e2,eW,rfl,rfl,cN⟩:=aQ
    cases e with
    |normal=>
     rcases J _ _ _ cN with aj|⟨md,ks,k,s,aj,aG⟩
     · exact pP aP hm dK b eW al.2 aj
     · obtain ⟨g1,hle,ql,_⟩:=yd dK eW aj
       exact dS.less hle (dS.IA ql (pP aP hm dK b g1 al.2 aG))
    |exit id=>exact ik.kS (kn:=kn) (kx:=kx) (kr:=kr) (e:= .exit id) eW cN
    |ret=>exact ik.kS (kn:=kn) (kx:=kx) (kr:=kr) (e:= .ret) eW cN
    |_=>exact cN.elim
 | .cond q x y,kn,kx,kr,fr,L,m,new,g,al,h=>by
   simp only [nB,Bool.and_eq_true] at al
   rw [Qm] at h
   obtain ⟨v,J,e⟩:=fF (b0++new) h
   split at J
   · rename_i s
     obtain ⟨cU,eP⟩:=s.xJ J
     simp only [den] at e
     exact B5 (b:=s.val) (by rw [←w4,←e]) al.1.1 (fun bw=>pP aP hm dK x g al.1.2 (cU bw)) (fun bw=>pP aP hm dK y g al.2 (eP bw))
   · exact J.elim
 | .block id body,kn,kx,kr,fr,L,m,new,g,al,h=>by
   simp only [nB] at al
   rw [Qn] at h
   refine NA ?_
   refine dS.mono (pP aP hm dK body g al h) fun e f ai aQ=>?_
   obtain ⟨bf,ch,m',e2,eW,rfl,rfl,cN⟩:=aQ
   cases e with
   |normal=>exact ik.kS (kn:=kn) (kx:=kx) (kr:=kr) (e:= .normal) eW cN
   |exit j=>
    simp only [B1]
    simp only at cN
    by_cases DQ:j=id
    · subst DQ
      rw [Nat.beq_refl] at cN
      rw [if_pos rfl]
      exact ik.kS (kn:=kn) (kx:=kx) (kr:=kr) (e:= .normal) eW cN
    · rw [if_neg DQ]
      have:Nat.beq j id=false:=by
       cases ah:Nat.beq j id with
       |false=>rfl
       |true=>exact absurd (Nat.eq_of_beq_eq_true ah) DQ
      rw [this] at cN
      exact ik.kS (kn:=kn) (kx:=kx) (kr:=kr) (e:= .exit j) eW cN
   |ret=>exact ik.kS (kn:=kn) (kx:=kx) (kr:=kr) (e:= .ret) eW cN
   |_=>exact cN.elim
 | .loop body,kn,kx,kr,fr,L,m,new,g,al,h=>by
   simp only [nB] at al
   rw [Qo] at h
   obtain ⟨σ,S,hg,nt,md,ks,k,lQ,aJ,aE,J⟩:=h
   obtain ⟨g1,hle,ql,hlen⟩:=yd dK g aJ
   refine dS.less hle (dS.IA ql ?_)
   · refine O9 (σ:=σ×List Nat) (fun x=>bt (b0++x.2) (S x.1).1) (fun x=>b7 (b0++x.2) (S x.1).2.1 (S x.1).2.2) (fun x=>hg x.1∧Good (b0++x.2) (S x.1).2.1 (S x.1).2.2) (fun x=>nt x.1) ⟨lQ,new.take (k lQ- b0.length)⟩ rfl rfl ⟨aE,g1⟩ fun x an=>?_
     have aa:=J x.1 an.1
     rw [hR,hR] at aa
     refine dS.ya (fun e f ai aQ=>?_) (pP aP hm dK body an.2 al aa)
     obtain ⟨bf,ch,m',e2,eW,rfl,rfl,cN⟩:=aQ
     cases e with
     |normal=>
      obtain ⟨bH,f1,f2,f3⟩:=cN
      obtain ⟨g2,QX,QY,HS⟩:=yd dK eW f1
      exact ⟨_,_,QX,QY,⟨bH,e2.take (k bH- b0.length)⟩,rfl,rfl,⟨f2,g2⟩,f3⟩
     |exit id=>exact ⟨_,_,hr.refl _,fun _ _ h=>h,ik.kS (kn:=kn) (kx:=kx) (kr:=kr) (e:= .exit id) eW cN⟩
     |ret=>exact ⟨_,_,hr.refl _,fun _ _ h=>h,ik.kS (kn:=kn) (kx:=kx) (kr:=kr) (e:= .ret) eW cN⟩
     |_=>exact cN.elim
 | .scope _,_,_,_,_,_,_,_,_,al,_=>by cases al
 | .label _,_,_,_,_,_,_,_,_,al,_=>by cases al
 | .goto _,_,_,_,_,_,_,_,_,al,_=>by cases al
 | .refuse _,_,_,_,_,_,_,_,_,al,_=>by cases al
 | .rangeFunc _ _ _ _,_,_,_,_,_,_,_,_,al,_=>by cases al
end
end Go.cz
end
section
namespace Go.cz
open Go Go.bg
section
variable {c:gW} {n:Nat} {b:List Nat} {fr:ck} {L:List bT} {m:ae}
theorem pQ (aP:fO c.P c.T=true) (g:Good b L m) {r:ResultVar} {k:a7→Prop} (h:Af c.T fr L r k):∃v side x,k v∧lf c.P (bt b fr) (b7 b L m) r=some (side,x)∧side∧x=den b v:=by
 cases r with
 |tmp t=>
  simp only [Af] at h
  rw [my] at h
  exact ⟨_,True,_,h,by simp only [lf,ll],trivial,rfl⟩
 |cell a t=>
  simp only [Af] at h
  rw [my] at h
  have aA:=ll b fr a
  cases bw:eh fr a with
  |loc i off=>
   rw [bw] at h aA
   simp only [den] at h aA
   cases aL:nth L i with
   |none=>rw [aL] at h;exact h.elim
   |some o=>
    rw [aL] at h
    cases o with
    |obj o=>exact h.elim
    |cells l=>
     obtain ⟨e8,ds,h⟩:=e1 aP h
     rw [jN] at aL
     have hm:=oY g aL
     have aU:lf c.P (bt b fr) (b7 b L m) (.cell a t)=some (jY c.P t (bE b l) off,(apart c.P t (bE b l) off).plain):=by simp only [lf,aA,hm,gz]
     cases b4:e8.k.iz with
     |true=>
      rw [b4] at h
      obtain ⟨ah,h⟩:=ec.1 h
      obtain ⟨u,h,hu⟩:=uV b h
      exact ⟨_,_,_,h,aU,u7 ds b4 (by rw [lO];exact Nat.le_of_ble_eq_true ah),by rw [u5 ds b4];simp only [den,ab.plain,hu,Dr,Dq]⟩
     |false=>
      rw [b4] at h
      simp only at h
      cases aM:nth l off with
      |none=>rw [aM] at h;exact h.elim
      |some v=>
       rw [aM] at h
       obtain ⟨u,h,hu⟩:=ob b h
       obtain ⟨az,cl⟩:=s4 (bs:=b) aM
       exact ⟨_,_,_,h,aU,u9 ds b4 cl,by rw [u6 ds b4,az,hu]⟩
  |_=>rw [bw] at h;exact h.elim
theorem DR (aP:fO c.P c.T=true) {b0 new:List Nat} (dK:c.bs=b0) (g:Good (b0++new) L m) {fn:Func} (aG:fn.results.toList.length≤4) {K:ab→ae→Prop} (h:Ag c.T fr L fn.results.toList fun vs=>x6 c K vs L m):uN c.P fn (bt (b0++new) fr) (b7 (b0++new) L m) K:=by
 subst dK
 unfold uN
 generalize fn.results.toList=rs at h aG ⊢
 match rs,h with
 |[],h=>
  obtain ⟨m',J,aa⟩:=h.h new g
  exact ⟨m',J,aa⟩
 |[r],h=>
  obtain ⟨v,zq,x,h,aF,s1,rfl⟩:=pQ aP g h
  obtain ⟨m',J,aa⟩:=h.h new g
  simp only [aF]
  exact ⟨s1,m',J,aa⟩
 |[r,s],h=>
  obtain ⟨v,zq,x,h,aF,s1,rfl⟩:=pQ aP g h
  obtain ⟨v2,IN,Ap,h,az,s2,rfl⟩:=pQ aP g h
  obtain ⟨m',J,aa⟩:=h.h new g
  simp only [aF,az]
  exact ⟨s1,s2,m',J,aa⟩
 |[r,s,t],h=>
  obtain ⟨v,zq,x,h,aF,s1,rfl⟩:=pQ aP g h
  obtain ⟨v2,IN,Ap,h,az,s2,rfl⟩:=pQ aP g h
  obtain ⟨v3,QZ,DS,h,cS,j5,rfl⟩:=pQ aP g h
  obtain ⟨m',J,aa⟩:=h.h new g
  simp only [aF,az,cS]
  exact ⟨s1,s2,j5,m',J,aa⟩
 |[r,s,t,u],h=>
  obtain ⟨v,zq,x,h,aF,s1,rfl⟩:=pQ aP g h
  obtain ⟨v2,IN,Ap,h,az,s2,rfl⟩:=pQ aP g h
  obtain ⟨v3,QZ,DS,h,cS,j5,rfl⟩:=pQ aP g h
  obtain ⟨v4,WZ,W0,h,eO,qN,rfl⟩:=pQ aP g h
  obtain ⟨m',J,aa⟩:=h.h new g
  simp only [aF,az,cS,eO]
  exact ⟨s1,s2,j5,qN,m',J,aa⟩
 |r::s::t::u::q::rest,h=>simp at aG
theorem IP:∀(l:List Nat) (t:Nat),has l t=l.contains t
 |[],t=>rfl
 |x::r,t=>by
  simp only [has,List.contains_cons]
  cases ah:Nat.beq x t with
  |true=>obtain rfl:=Nat.eq_of_beq_eq_true ah;simp
  |false=>
   have:¬t=x:=fun e=>by subst e;rw [Nat.beq_refl] at ah;cases ah
   simp [this,IP r t]
theorem IQ (E:Nat) (di:List Nat):∀(fr:ck),bt b (Ai E di fr)=Fr.toErr E di (bt b fr)
 |[]=>rfl
 |(t,v)::r=>by
  simp only [Ai,bt,Fr.toErr,List.map_cons,IP]
  have:=IQ E di r
  simp only [Fr.toErr] at this
  rw [this]
  cases ao:di.contains t<;>simp [ID]
theorem Q0 {P:Program} {ij:Code} {Q hX:Exit→Fr→ae→Prop} {f:Fr} {ai:ae} (E:Nat) (di:List Nat) (aU:∀e f m,Q e f m→hX e f m∨hX e (f.toErr E di) m) (h:dS P n ij Q f ai):dS P n ij hX f ai:=fun F lim w ca st=>
 wp_mono (h F lim w ca st) fun e _ _ ⟨l,f,ai,q,gE,fg⟩=>by
  rcases aU e f ai q with q|q
  · exact ⟨l,f,ai,q,gE,fg⟩
  · refine ⟨l,_,ai,q,gE.conv fun t bH an=>?_,fg⟩
    rw [Fr.Pk] at an
    cases ao:di.contains t with
    |false=>rw [ao] at an;exact ⟨bH,by simpa using an,fun _ _ h=>h⟩
    |true=>
     rw [ao] at an
     simp only [if_true] at an
     cases bc:f.get t with
     |none=>rw [bc] at an;cases an
     |some y=>
      rw [bc] at an
      simp only [Option.map_some,Option.some.injEq] at an
      subst an
      exact ⟨y,rfl,fun v os h=>toErr_rep E h⟩
def cO (c:List Nat) (fn:Func) (ij:Code) (k:Nat):Bool:=!(fn.name== "runtime.NumGoroutine")&&Nat.ble k fn.ntmps&&nB c fn.ntmps ij&&Nat.ble fn.results.size 4
theorem IS (b:List Nat):∀(i:Nat) (vs:List a7),bt b (x5 i vs)=Fr.init i (bE b vs)
 |_,[]=>by simp only [x5,bt,bE,Fr.init]
 |i,v::r=>by simp only [x5,bt,bE,Fr.init,IS b (i+1) r]
theorem enter {f:FuncId} {fn:Func} {ij:Code} {vs:List a7} {K:ab→ae→Prop} (e:Bool) (aP:fO c.P c.T=true) (hm:c.P.follows .mixedOrders=true) (aZ:c.P.funcs[f]?=some fn) (ah:fn.body=some ij) {k:Nat} (dc:cO c.xs fn ij k=true) (av:vs.length=k) (g:Good c.bs L m)
 (h:lR c ij (DE c false fn.results.toList K) (fun _ _ _ _=>False) (DE c e fn.results.toList K) (x5 0 vs) L m):bh c.P f (bE c.bs vs) (b7 c.bs L m) K:=by
 simp only [cO,Bool.and_eq_true,Bool.not_eq_true'] at dc
 obtain ⟨⟨⟨iZ,lT⟩,pR⟩,DT⟩:=dc
 refine G9 aZ ah iZ (by rw [lO,av];exact Nat.le_of_ble_eq_true lT) ?_
 have:=pP (b0:=c.bs) (new:=[]) aP hm rfl ij (by rw [List.append_nil];exact g) pR h
 rw [List.append_nil,IS] at this
 refine Q0 c.E (Ah fn.results.toList) (fun ex f ai aQ=>?_) this
 obtain ⟨bf,ch,m',e2,eW,rfl,rfl,cN⟩:=aQ
 cases ex with
 |normal=>exact .inl (DR aP rfl eW (by simpa using Nat.le_of_ble_eq_true DT) cN)
 |exit id=>exact cN.elim
 |ret=>
  simp only [DE] at cN
  cases e with
  |false=>exact .inl (DR aP rfl eW (by simpa using Nat.le_of_ble_eq_true DT) cN)
  |true=>
   simp only at cN
   rw [hR] at cN
   right
   rw [←IQ]
   exact DR aP rfl eW (by simpa using Nat.le_of_ble_eq_true DT) cN
 |_=>exact cN.elim
theorem rt {K:ab→ae→Prop} {vs:List a7} (aw:(nx c.bs.length (L.take c.bs.length)&&Nat.ble c.bs.length L.length)=true) (h:∀new,K (DD (c.bs++new) vs) (b7 c.bs (L.take c.bs.length) m)):x6 c K vs L m:=⟨fun new g=>by
 simp only [Bool.and_eq_true] at aw
 have:=yd (c:=c) (md:=[]) (ks:=[]) (k:=c.bs.length) (fr:=[]) (s:=([],og (L.take c.bs.length),m)) rfl g ⟨rfl,by simp only [qD,Bool.true_and,Bool.and_eq_true,Ao];exact ⟨⟨aw.1,aw.2⟩,Nat.ble_eq_true_of_le (Nat.le_refl _)⟩⟩
 simp only [Nat.sub_self,List.take_zero,List.append_nil] at this
 have iv:b7 c.bs (og (L.take c.bs.length)) m=b7 c.bs (L.take c.bs.length) m:=by simp only [b7,iy,DO]
 rw [iv] at this
 exact ⟨_,this.2.2.1,h new⟩⟩
theorem bn {K:ab→ae→Prop} {vs:List a7} (ah:c.bs=[]) (h:∀new,K (DD new vs) m):x6 c K vs L m:=⟨fun new g=>by
 rw [ah,List.nil_append] at g ⊢
 refine ⟨m,fun b o DU=>?_,h new⟩
 by_cases hm:b∈new
 · rw [g.fresh b hm] at DU;cases DU
 · rw [b7,pH (by rw [qC g.len];exact hm)]
   exact DU⟩
theorem cG {b0:List Nat} {P:Program} {f:FuncId} {vs:List a7} {x:ab} {Q:a7→List bT→ae→Prop} (h:∀bs (ai:ae) (K:ab→ae→Prop),K x ai→bh P f (bE bs vs) ai K) (aQ:x.plain=x) (h2:Q (qA x) L m):pN P b0 f vs fr L m Q:=
 .one (qA x) L m (fun new _ K U=>h _ _ K (by
   have:=U []
   simp only [List.append_nil,qB,aQ] at this
   exact this (by assumption))) (by rw [Nat.beq_refl];rfl) h2
theorem gN {b0:List Nat} {P:Program} {f:FuncId} {vs:List a7} {x:ab} {Q:a7→Prop} (h:∀bs (ai:ae) (K:ab→ae→Prop),K x ai→bh P f (bE bs vs) ai K) (h2:Q (qA x)):Ig P b0 f vs L m Q:=
 ⟨qA x,fun new _=>⟨x,fun K U=>h _ _ K U,by rw [qB]⟩,h2⟩
theorem ag {p q:Prop} (aQ:p) (aU:q):p∧q:=⟨aQ,aU⟩
theorem Good.nil (m:ae):Good [] [] m:=⟨List.nodup_nil,rfl,fun _ h=>by cases h⟩
structure eC (bs:List Nat) (m:ae):Prop where
 lP:bs.Nodup
 fresh:∀b∈bs,m b=none
theorem eC.gZ {bs:List Nat} (g:eC bs m) (h:bs.length=L.length):Good bs L m:=⟨g.lP,h,g.fresh⟩
theorem eC.nil (m:ae):eC [] m:=⟨List.nodup_nil,fun _ h=>by cases h⟩
def iL (bs:List Nat):List Nat→List Nat
 |[]=>[]
 |i::r=>bs.getD i 0::iL bs r
def nC (L:List bT):List Nat→List bT
 |[]=>[]
 |i::r=>
  match nth L i with
  |some o=>o::nC L r
  |none=> .obj (.cells [])::nC L r
def jP:List bT→List Nat→List bT→List bT
 |L,[],_=>L
 |L,_::_,[]=>L
 |L,i::r,o::os=>jP (L.set i o) r os
def lU (bs:List Nat) (is:List Nat) (os:List bT):List (Nat×gr):=(iL bs is).zip (os.map (gz bs))
def isOk (n:Nat):List Nat→Bool
 |[]=>true
 |i::r=>Nat.ble (i+1) n&&!(has r i)&&isOk n r
theorem IT:∀{l:List Nat} {t:Nat},has l t=true↔t∈l
 |[],t=>by simp [has]
 |x::r,t=>by
  simp only [has,List.mem_cons]
  cases ah:Nat.beq x t with
  |true=>obtain rfl:=Nat.eq_of_beq_eq_true ah;simp
  |false=>
   have:¬t=x:=fun e=>by subst e;rw [Nat.beq_refl] at ah;cases ah
   simp [this,IT (l:=r)]
theorem IU (bs:List Nat):∀(is:List Nat),(iL bs is).length=is.length
 |[]=>rfl
 |i::r=>by simp only [iL,List.length_cons,IU bs r]
theorem vl (L:List bT):∀(is:List Nat),(nC L is).length=is.length
 |[]=>rfl
 |i::r=>by
  simp only [nC]
  split<;>simp only [List.length_cons,vl L r]
theorem getD_inj {bs:List Nat} (h:bs.Nodup) {i j:Nat} (ad:i<bs.length) (aD:j<bs.length) (e:bs.getD i 0=bs.getD j 0):i=j:=by
 rw [List.getD_eq_getElem?_getD,List.getD_eq_getElem?_getD,List.getElem?_eq_getElem ad,List.getElem?_eq_getElem aD] at e
 exact (List.getElem_inj h).1 e
theorem vm {bs:List Nat}:∀{is:List Nat} {b:Nat},b∈iL bs is→∃i∈is,b=bs.getD i 0
 |[],_,h=>by cases h
 |i::r,b,h=>by
  simp only [iL,List.mem_cons] at h
  rcases h with rfl|h
  · exact ⟨i,List.mem_cons_self ..,rfl⟩
  · obtain ⟨j,aD,e⟩:=vm h
    exact ⟨j,List.mem_cons_of_mem _ aD,e⟩
theorem IV {bs:List Nat}:∀{is:List Nat} {i:Nat},i∈is→bs.getD i 0∈iL bs is
 |[],_,h=>by cases h
 |a::r,i,h=>by
  simp only [iL,List.mem_cons]
  rcases List.mem_cons.1 h with rfl|h
  · exact .inl rfl
  · exact .inr (IV h)
theorem vn {n:Nat}:∀{is:List Nat},isOk n is=true→(∀i∈is,i<n)∧is.Nodup
 |[],_=>⟨by simp,List.nodup_nil⟩
 |i::r,h=>by
  simp only [isOk,Bool.and_eq_true,Bool.not_eq_true'] at h
  obtain ⟨⟨J,aa⟩,aj⟩:=h
  obtain ⟨aG,aR⟩:=vn aj
  refine ⟨fun j aD=>?_,?_⟩
  · rcases List.mem_cons.1 aD with rfl|aD
    · exact Nat.le_of_ble_eq_true J
    · exact aG j aD
  · rw [List.nodup_cons]
    refine ⟨fun hm=>?_,aR⟩
    rw [IT.2 hm] at aa;cases aa
theorem ye {bs:List Nat} (aM:bs.Nodup):∀{is:List Nat},isOk bs.length is=true→(iL bs is).Nodup
 |[],_=>List.nodup_nil
 |i::r,h=>by
  have aJ:=vn h
  simp only [isOk,Bool.and_eq_true,Bool.not_eq_true'] at h
  obtain ⟨⟨J,aa⟩,aj⟩:=h
  simp only [iL,List.nodup_cons]
  refine ⟨fun hm=>?_,ye aM aj⟩
  obtain ⟨j,aD,e⟩:=vm hm
  have:=getD_inj aM (aJ.1 i (List.mem_cons_self ..)) (aJ.1 j (List.mem_cons_of_mem _ aD)) e
  subst this
  exact (List.nodup_cons.1 aJ.2).1 aD
theorem rO:∀{is:List Nat} {L os:List bT},(jP L is os).length=L.length
 |[],_,_=>by simp only [jP]
 |_::_,_,[]=>by simp only [jP]
 |i::r,L,o::os=>by rw [jP,rO,List.length_set]
def td (ai:ae) (S:List Nat):ae:=fun b=>if b∈S then none else ai b
theorem DV {bs:List Nat} {is:List Nat} {os:List bT} {ai:ae} (gT:(iL bs is).Nodup) (av:is.length=os.length) {j i:Nat} {o:bT} (aD:is[j]?=some i) (aL:os[j]?=some o):ai.aS (lU bs is os) (bs.getD i 0)=some (gz bs o):=by
 have ah:(iL bs is)[j]?=some (bs.getD i 0):=by
  clear gT av aL
  induction is generalizing j with
  |nil=>cases aD
  |cons a r aO=>
   cases j with
   |zero=>simp only [List.getElem?_cons_zero,Option.some.injEq] at aD;subst aD;rfl
   |succ j=>simp only [iL,List.getElem?_cons_succ] at aD ⊢;exact aO aD
 refine qu j ?_ ?_
 · rw [lU,List.map_fst_zip (by rw [IU,List.length_map];omega)];exact gT
 · simp only [lU,List.zip,List.getElem?_zipWith,ah,List.getElem?_map,aL,Option.map_some]
theorem DW {bs:List Nat} {is:List Nat} {os:List bT} {ai:ae} {b:Nat} (h:b∉iL bs is):ai.aS (lU bs is os) b=ai b:=by
 refine pH fun hm=>h ?_
 obtain ⟨p,aQ,rfl⟩:=List.mem_map.1 hm
 exact (List.of_mem_zip aQ).1
theorem DX:∀{is:List Nat} {L os:List bT},is.Nodup→(∀i∈is,i<L.length)→is.length=os.length→(∀(j i:Nat) (o:bT),is[j]?=some i→os[j]?=some o→(jP L is os)[i]?=some o)∧∀(i:Nat),i∉is→(jP L is os)[i]?=L[i]?
 |[],L,os,_,_,_=>⟨fun j i o h=>(by simp at h),fun _ _=>by simp only [jP]⟩
 |_::_,_,[],_,_,av=>by cases av
 |a::r,L,p::os,aM,cl,av=>by
  obtain ⟨J,aa⟩:=DX (is:=r) (L:=L.set a p) (os:=os) (List.nodup_cons.1 aM).2 (fun i ad=>by rw [List.length_set];exact cl i (List.mem_cons_of_mem _ ad)) (by simpa using av)
  refine ⟨fun j i o aD aL=>?_,fun i ad=>?_⟩
  · cases j with
    |zero=>
     simp only [List.getElem?_cons_zero,Option.some.injEq] at aD aL
     subst aD;subst aL
     rw [jP,aa a (List.nodup_cons.1 aM).1]
     simp [cl a (List.mem_cons_self ..)]
    |succ j=>exact J j i o aD aL
  · rw [jP,aa i (fun h=>ad (List.mem_cons_of_mem _ h))]
    have:a≠i:=fun e=>ad (e▸List.mem_cons_self ..)
    simp [this]
theorem IW (L:List bT):∀{is:List Nat} {j i:Nat},is[j]?=some i→i<L.length→(nC L is)[j]?=L[i]?
 |[],_,_,h,_=>by cases h
 |a::r,j,i,h,ad=>by
  have aM:nth L a=L[a]?:=jN L a
  cases j with
  |zero=>
   simp only [List.getElem?_cons_zero,Option.some.injEq] at h
   subst h
   simp only [nC,aM,List.getElem?_eq_getElem ad,List.getElem?_cons_zero]
  |succ j=>
   simp only [List.getElem?_cons_succ] at h
   have:=IW L h ad
   simp only [nC]
   split<;>simpa using this
theorem vo {bs:List Nat} {os:List bT} (g:Good bs L m) {is:List Nat} (ad:isOk L.length is=true) (av:is.length=os.length):b7 bs (jP L is os) m=(td (b7 bs L m) (iL bs is)).aS (lU bs is os):=by
 obtain ⟨J,aa⟩:=vn ad
 have gT:=ye g.lP (by rw [g.len];exact ad)
 obtain ⟨s1,s2⟩:=DX (L:=L) aa J av
 have g2:Good bs (jP L is os) m:=⟨g.lP,by rw [rO];exact g.len,g.fresh⟩
 funext b
 by_cases ah:b∈iL bs is
 · obtain ⟨i,DY,rfl⟩:=vm ah
   obtain ⟨j,aD⟩:=List.getElem?_of_mem DY
   have rE:j<os.length:=by
    rcases Nat.lt_or_ge j is.length with h|h
    · omega
    · rw [List.getElem?_eq_none h] at aD;cases aD
   rw [DV gT av aD (List.getElem?_eq_getElem rE),oY g2 (s1 j i _ aD (List.getElem?_eq_getElem rE))]
 · rw [DW ah,td,if_neg ah]
   by_cases DZ:b∈bs
   · obtain ⟨i,ig⟩:=List.getElem?_of_mem DZ
     have Q1:i<bs.length:=by
      rcases Nat.lt_or_ge i bs.length with h|h
      · exact h
      · rw [List.getElem?_eq_none h] at ig;cases ig
     have e:b=bs.getD i 0:=by rw [List.getD_eq_getElem?_getD,ig];rfl
     subst e
     have xX:i∉is:=fun h=>ah (IV h)
     have IX:i<L.length:=by rw [←g.len];exact Q1
     rw [oY g (List.getElem?_eq_getElem IX),oY g2 (by rw [s2 i xX];exact List.getElem?_eq_getElem IX)]
   · rw [b7,pH (by rw [qC g2.len];exact DZ),b7,pH (by rw [qC g.len];exact DZ)]
theorem D0:∀{is:List Nat} {L:List bT},isOk L.length is=true→jP L is (nC L is)=L:=fun {is L} ad=>by
 obtain ⟨J,aa⟩:=vn ad
 obtain ⟨s1,s2⟩:=DX (L:=L) aa J (vl L is).symm
 apply List.ext_getElem?
 intro i
 by_cases h:i∈is
 · obtain ⟨j,aD⟩:=List.getElem?_of_mem h
   have e:=IW L aD (J i h)
   rw [List.getElem?_eq_getElem (J i h)] at e
   rw [s1 j i _ aD e,List.getElem?_eq_getElem (J i h)]
 · exact s2 i h
theorem dw {b0:List Nat} {P:Program} {f:FuncId} {vs:List a7} {Q:a7→List bT→ae→Prop} (is:List Nat) (os:List bT) (y:a7) (ad:(isOk L.length is&&Nat.beq is.length os.length)=true)
 (h:∀bs (ai:ae),eC (iL bs is) ai→∀(K:ab→ae→Prop),K (den bs y) (ai.aS (lU bs is os))→bh P f (bE bs vs) (ai.aS (lU bs is (nC L is))) K) (h2:Q y (jP L is os) m):pN P b0 f vs fr L m Q:=by
 simp only [Bool.and_eq_true] at ad
 refine .one y (jP L is os) m (fun new g K U=>?_) (by rw [rO,Nat.beq_refl];rfl) h2
 have gT:=ye g.lP (by rw [g.len];exact ad.1)
 have aF:=vo g ad.1 (vl L is).symm
 rw [D0 ad.1] at aF
 rw [aF]
 refine h (b0++new) _ ⟨gT,fun b ah=>by simp [td,ah]⟩ K ?_
 have:=U [] (by rw [List.append_nil];exact ⟨g.lP,by rw [rO];exact g.len,g.fresh⟩)
 rw [List.append_nil,vo g ad.1 (Nat.eq_of_beq_eq_true ad.2)] at this
 exact this
abbrev ax (n:Int):a7:= .aI (.int .i64 n)
abbrev ay (s:List UInt8):a7:= .aI (.str s)
abbrev jx (b:Bool):a7:= .b (.raw b)
abbrev aH (l:List ab):a7:= .aI (.slice false l)
end
end Go.cz
end
section
namespace Go.bg
open Go
section
variable {P:Program} {F:Nat→Prop} {lim:Nat→Nat} {w:World} {n:Nat} {fr:Fr} {m:ae} {ca:Act} {bL:List Nat}
theorem Q2 (c:UInt8):(bC c).cells=[bC c]:=rfl
theorem IY (c:UInt8):aN w lim (.int .u8 c.toNat) (bC c) []:= .int _ _ (by show (0:Int)≤_;omega) (by have:=c.toNat_lt;show _≤(255:Int);omega)
def rP (w:World) (eb:TypeId) (v:Value) (os:List Nat) (ne:Prop):Prop:=v= .slice none 0 0∨∃g n c cur,v= .slice (some ⟨g,0,none⟩) n c∧g∈os∧ne∧w.heap[g]?=some (.cells cur eb (0,0))
set_option maxHeartbeats 1000000 in
theorem Q3 (st:bd F lim w n fr m ca bL) {t u e ty:TypeId} (aq:P.underlying t=some (.slice e)) (hu:P.underlying u=some .string) (ak:kJ P e=true) (x8:P.cellsOf e=1) (pO:P.bytesOf e=1) {ry:Value} {l:List UInt8} (s:ByteArray) (ah:aN w lim ry (.slice true (l.map bC)) bL)
 (dI:l.length+s.size≤140737488355328) (aP:rP w e ry bL (l.map bC≠[])):
 ∃hD w' lim' e0,rP w' e hD e0 ((l++s.data.toList).map bC≠[])∧(Builtin.append_ #[t,u] ty #[ry, .string s]).run P w= .ok hD w'∧bd F lim' w' n fr m ca e0∧aN w' lim' hD (.slice true ((l++s.data.toList).map bC)) e0∧dW F w lim w' lim':=by
 obtain ⟨i,z,ad,nn,GN,GO,zj⟩:=Cd ak
 obtain ⟨jL,pt⟩:=w5 ad
 have mz:i.size=1:=by rw [←jL,x8]
 have ig:i.bytes=1:=by rw [←pt,pO]
 have cF:s.data.toList.length=s.size:=by rw [Array.length_toList];rfl
 have w7:∀k:Nat,k≤140737488355328→k≤maxLen:=fun k al=>by simp only [maxLen];omega
 by_cases lL:s.size=0
 · have he:s.data.toList=[]:=List.eq_nil_of_length_eq_zero (by rw [cF,lL])
   refine ⟨ry,w,lim,bL,by simpa [he] using aP,?_,st,by simpa [he] using ah, .refl _ _ _⟩
   have aZ:=Lib.run_firstCells_string (P:=P) w i.size s
   rw [lL,show Lib.strCells s=[] from by simp [Lib.strCells,he]] at aZ
   generalize oi:l.map bC=qM at ah
   cases ah with
   |gb own=>simp [Builtin.append_,run_underlying aq,run_underlying hu,sizeOf,typeInfo,ad,Builtin.lenOf,lL,aZ]
   |own b iw cap sz l cv cur bR J aa aj aG aR bu cD cK cC eg fJ=>simp [Builtin.append_,run_underlying aq,run_underlying hu,sizeOf,typeInfo,ad,Builtin.lenOf,lL,aZ,aa,storeCells]
 have kj:0<s.size:=Nat.pos_of_ne_zero lL
 have fk:(l++s.data.toList).map bC≠[]:=fun aC=>by
  have:=congrArg List.length aC
  simp only [List.length_map,List.length_append,cF,List.length_nil] at this
  omega
 have ru:∀a,a<s.size→(Lib.strCells s)[a]?=some (.int .u8 (s.data.toList.getD a 0).toNat):=fun a aT=>by
  rw [←cF] at aT
  simp [Lib.strCells,List.getD_eq_getElem?_getD,List.getElem?_eq_getElem aT]
 have Aq:∀a,a<l.length+s.size→((l++s.data.toList).map bC).getD a .aV=bC ((l++s.data.toList).getD a 0):=fun a aT=>by
  have:a<(l++s.data.toList).length:=by rw [List.length_append,cF];exact aT
  rw [List.getD_eq_getElem?_getD,List.getD_eq_getElem?_getD,List.getElem?_map,List.getElem?_eq_getElem this];rfl
 have w8:∀(hZ:List Value) (ix:Nat),hZ.length=l.length→(∀a,a<l.length→∃v,hZ[a]?=some v∧aN w lim v (bC (l.getD a 0)) [])→l.length+s.size≤ix→ix≤maxLen→
  ∃lim' e0,e0=[w.heap.size]∧bd F lim' (w.drew.alloc (.cells (hZ.toArray++(Lib.strCells s).toArray++Builtin.zeroCells z.cells (ix- (l.length+s.size))) e)) n fr m ca e0∧
   aN (w.drew.alloc (.cells (hZ.toArray++(Lib.strCells s).toArray++Builtin.zeroCells z.cells (ix- (l.length+s.size))) e)) lim' (.slice (some ⟨w.heap.size,0,none⟩) (l.length+s.size) ix) (.slice true ((l++s.data.toList).map bC)) e0∧
   dW F w lim (w.drew.alloc (.cells (hZ.toArray++(Lib.strCells s).toArray++Builtin.zeroCells z.cells (ix- (l.length+s.size))) e)) lim':=by
  intro hZ ix aL Co fB hm
  have ft:=dW.zg (w':=w.drew) st rfl rfl rfl rfl (.cells (hZ.toArray++(Lib.strCells s).toArray++Builtin.zeroCells z.cells (ix- (l.length+s.size))) e) (l.length+s.size)
  refine ⟨_,_,rfl,st.zf (w':=w.drew) rfl _ (l.length+s.size),?_,ft⟩
  refine uH (sz:=1) (cv:=fun a _=> .int .u8 ((l++s.data.toList).getD a 0).toNat) (by simp [cF]) fB hm dI (.inl (by omega)) (oJ w.drew _) ?_ (fun a aT=>?_) (by rw [sI,Nat.mul_one]) (fun a b aT ah=>?_) (fun a b aT ah=>?_)
  · simp only [Array.size_append,List.size_toArray,size_zeroCells,zj,mz,aL,Lib.strCells_length];omega
  · rw [Aq a aT];rfl
  · obtain rfl:b=0:=by omega
    rw [←Array.getElem?_toList]
    simp only [Array.toList_append,Nat.mul_one,Nat.add_zero]
    by_cases h:a<l.length
    · obtain ⟨v,bw,aA⟩:=Co a h
      rw [List.append_assoc,List.getElem?_append_left (by simpa [aL] using h),bw]
      have:(l++s.data.toList).getD a 0=l.getD a 0:=by simp [List.getD_eq_getElem?_getD,List.getElem?_append_left h]
      rw [this]
      have jK:=aA
      unfold bC at jK
      cases jK
      rfl
    · rw [List.append_assoc,List.getElem?_append_right (by simp [aL];omega),List.getElem?_append_left (by simp [aL,Lib.strCells_length];omega)]
      rw [ru _ (by simp [aL];omega)]
      have:(l++s.data.toList).getD a 0=s.data.toList.getD (a- l.length) 0:=by simp only [List.getD_eq_getElem?_getD];rw [List.getElem?_append_right (by omega)]
      rw [this,aL]
  · obtain rfl:b=0:=by omega
    rw [Aq a aT]
    exact IY _
 generalize oi:l.map bC=qM at ah
 cases ah with
 |gb own=>
  obtain rfl:l=[]:=by simpa using oi
  have hq:=run_append_nil_string (P:=P) w t u ty e i z aq hu ad nn s kj (by have:s.size≤140737488355328:=by simpa using dI
                                                                            omega) (by rw [ig];have:s.size≤140737488355328:=by simpa using dI
                                                                                       omega)
  have fB:=grownCap_ge w s.size 0 e
  have sL:=grownCap_le_maxLen w s.size 0 e (w7 _ (by simpa using dI))
  have aF:(s.data.map fun b=>Value.int .u8 b.toNat)=(Lib.strCells s).toArray:=by
   apply Array.ext'
   simp [Lib.strCells]
  rw [aF] at hq
  obtain ⟨lim',e0,aJ,J,aa,aj⟩:=w8 [] (grownCap w s.size 0 e) rfl (fun a aT=>absurd aT (Nat.not_lt_zero _)) (by simpa using fB) sL
  simp only [List.length_nil,Nat.zero_add,List.nil_append,Array.empty_append] at J aa aj
  exact ⟨_,_,lim',e0, .inr ⟨_,_,_,_,rfl,by rw [aJ];simp,fk,oJ w.drew _⟩,hq,J,aa,aj⟩
 |own b iw cap sz l' cv cur bR J aa aj aG aR bu cD cK cC eg fJ=>
  subst oi
  have CI:l.length=iw:=by simpa using J
  subst CI
  have yf:∀a,a<l.length→(l.map bC).getD a .aV=bC (l.getD a 0):=fun a aT=>by simp [List.getD_eq_getElem?_getD,List.getElem?_eq_getElem aT]
  have rl:l.length=0∨sz=1:=by
   rcases Nat.eq_zero_or_pos l.length with h|h
   · exact .inl h
   · exact .inr (by rw [←cK 0 h,yf 0 h];rfl)
  have jV:∀a,a<l.length→∃v,w.cell? ⟨b,a,none⟩=some v∧aN w lim v (bC (l.getD a 0)) []:=fun a aT=>by
   rcases rl with h|h
   · omega
   · subst h
     have cq:=eg a 0 aT (by omega)
     have bl:=fJ a 0 aT (by omega)
     rw [yf a aT] at bl
     simp only [Nat.mul_one,Nat.add_zero] at cq
     exact ⟨_,cq,bl⟩
  by_cases rv:l.length+s.size≤cap
  · have sH:sz=1:=by
     rcases rl with h|h
     · rcases aR with aR|aR<;>omega
     · exact h
    subst sH
    simp only [Nat.mul_one] at cD cC
    obtain rfl:bR=e:=by
     rcases aP with aP|⟨g,_,_,_,bw,_,_,bc⟩
     · cases aP
     · cases bw
       rw [bu] at bc
       simp only [Option.some.injEq,Obj.cells.injEq] at bc
       exact bc.2.1
    have hq:(Builtin.append_ #[t,u] ty #[.slice (some ⟨b,0,none⟩) l.length cap, .string s]).run P w=
     .ok (.slice (some ⟨b,0,none⟩) (l.length+s.size) cap) (w.setRow b (cur.toList.take l.length++Lib.strCells s++cur.toList.drop (l.length+s.size)).toArray):=by
     have aZ:=Lib.run_firstCells_string (P:=P) w 1 s
     have b4:=run_storeCells_at P b l.length bR (Lib.strCells s) 0 cur w bu (by simpa [Lib.strCells_length] using (by omega:l.length+s.size≤cur.size)) (Lib.strCells_oneCell s)
     simp only [Nat.add_zero,Lib.strCells_length] at b4
     simp [Builtin.append_,run_underlying aq,run_underlying hu,sizeOf,typeInfo,ad,mz,Builtin.lenOf,rv,aZ,Addr.add_lit,b4]
    generalize dZ:(cur.toList.take l.length++Lib.strCells s++cur.toList.drop (l.length+s.size)).toArray=A at hq
    have pr:(w.setRow b A).heap[b]?=some (.cells A bR (0,0)):=setRow_heap w b cur A bR (0,0) bu
    have kD:∀k,k<l.length→A[k]?=cur[k]?:=fun k al=>by
     rw [←dZ]
     rw [List.getElem?_toArray,List.append_assoc,List.getElem?_append_left (by simp;omega),List.getElem?_take,if_pos al,Array.getElem?_toList]
    obtain ⟨s1,s2⟩:=st.GC (w':=w.setRow b A) (by simp) (fun c ao=>setRow_other w b c A ao) (l.length+s.size) (by omega) (fun o aL=>by
     rw [←cC] at aL
     simp [World.cell?,pr,bu,kD o aL]) rfl rfl rfl
    refine ⟨_,_,_,[b], .inr ⟨_,_,_,_,rfl,by simp,fk,pr⟩,hq,s1,?_,s2⟩
    refine uH (sz:=1) (cv:=fun a _=> .int .u8 ((l++s.data.toList).getD a 0).toNat) (by simp [cF]) rv aj dI (.inl (by omega)) pr (by rw [←dZ];simp [Lib.strCells_length];omega) (fun a aT=>?_) (by rw [sI,Nat.mul_one]) (fun a gL aT ah=>?_) (fun a gL aT ah=>?_)
    · rw [Aq a aT];rfl
    · obtain rfl:gL=0:=by omega
      simp only [Nat.mul_one,Nat.add_zero]
      by_cases h:a<l.length
      · rw [kD a h]
        obtain ⟨v,cq,bl⟩:=jV a h
        simp only [World.cell?,bu] at cq
        have:(l++s.data.toList).getD a 0=l.getD a 0:=by simp [List.getD_eq_getElem?_getD,List.getElem?_append_left h]
        rw [this]
        unfold bC at bl
        cases bl
        exact cq
      · rw [←dZ,List.getElem?_toArray,List.append_assoc,List.getElem?_append_right (by simp;omega),List.getElem?_append_left (by simp [Lib.strCells_length];omega)]
        have az:(cur.toList.take l.length).length=l.length:=by simp;omega
        rw [az,ru _ (by omega)]
        have:(l++s.data.toList).getD a 0=s.data.toList.getD (a- l.length) 0:=by simp only [List.getD_eq_getElem?_getD];rw [List.getElem?_append_right (by omega)]
        rw [this]
    · obtain rfl:gL=0:=by omega
      rw [Aq a aT]
      exact IY _
  · have Q4:∃hZ:List Value,hZ.length=l.length∧(∀a,a<l.length→∃v,hZ[a]?=some v∧w.cell? ⟨b,a,none⟩=some v∧aN w lim v (bC (l.getD a 0)) []):=by
     refine ⟨(List.range l.length).map fun a=>(w.cell? ⟨b,a,none⟩).getD undef,by simp,fun a aT=>?_⟩
     obtain ⟨v,cq,bl⟩:=jV a aT
     exact ⟨v,by simp [aT,cq],cq,bl⟩
    obtain ⟨hZ,aL,hold⟩:=Q4
    have Cp:=growslice_fits (need:=l.length+s.size) (old:=cap) (bytes:=i.bytes) (by omega) (by rw [ig];omega)
    have hq:=Lib.run_append_grow_string (P:=P) w t u ty e i z aq hu ad nn ⟨b,0,none⟩ l.length cap hZ (by rw [mz,aL,Nat.mul_one]) (fun j v aD=>by
     have cl:j<l.length:=by
      rw [←aL]
      rcases Nat.lt_or_ge j hZ.length with h|h
      · exact h
      · rw [List.getElem?_eq_none h] at aD;cases aD
     obtain ⟨hD,cq,bl,_⟩:=hold j cl
     rw [aD] at cq
     cases cq
     rw [addr_add,Nat.zero_add]
     exact bl) s (by omega) (by omega) Cp
    have fB:=grownCap_ge w (l.length+s.size) cap e
    have sL:=grownCap_le_maxLen w (l.length+s.size) cap e (w7 _ dI)
    obtain ⟨lim',e0,aJ,s1,s2,j5⟩:=w8 hZ (grownCap w (l.length+s.size) cap e) aL (fun a aT=>by obtain ⟨v,cq,_,gx⟩:=hold a aT;exact ⟨v,cq,gx⟩) fB sL
    exact ⟨_,_,lim',e0, .inr ⟨_,_,_,_,rfl,by rw [aJ];simp,fk,oJ w.drew _⟩,hq,s1,s2,j5⟩
end
end Go.bg
end
section
namespace Go.bg
open Go
section
variable {P:Program} {F:Nat→Prop} {lim:Nat→Nat} {w:World} {n:Nat} {fr:Fr} {m:ae} {ca:Act} {bL:List Nat}
theorem bd.IZ {nW:Nat→Prop} (st:bd nW lim w n fr m ca bL) (h:∀c,F c→nW c):bd F lim w n fr m ca bL:=by
 obtain ⟨os,cI,bW,s⟩:=st
 exact ⟨os,cI,bW,s.size,s.defers,s.eL,fun b o ah=>⟨(s.mem b o ah).1,(s.mem b o ah).2.1,fun ez=>(s.mem b o ah).2.2 (h b ez)⟩,s.fj,s.eF,s.gK,fun c ao=>⟨fun ez=>(s.free c ao).1 (h c ez),(s.free c ao).2⟩,
  fun b ah=>⟨(s.fresh b ah).1,fun ez=>(s.fresh b ah).2.1 (h b ez),(s.fresh b ah).2.2⟩⟩
theorem bd.D1 (st:bd F lim w n fr m ca []) {b:Nat} {e eb:TypeId} {l:List ab} (hm:m b=some (.bX e eb l)):
 ∃p v os,¬F b∧lim b=0∧w.heap[b]?=some (.cells #[p,v] e (0,0))∧(p= .pointer none∨p= .pointer (some ⟨b,0,none⟩))∧aN w lim v (.slice true l) os∧rP w eb v os (l≠[])∧
  (∀c∈os,¬F c∧m c=none∧c≠b)∧bd (fun c=>F c∨c=b) lim w n fr (m.cE b none) ca os∧bd (fun c=>F c∨c=b∨c∈os) lim w n fr (m.cE b none) ca []:=by
 obtain ⟨os,cI,bW,s⟩:=st
 obtain ⟨gu,av,ez⟩:=s.mem b _ hm
 have jG:=s.eF b _ hm 1
 generalize bc:cI b=hf at gu jG
 have cl:b<w.heap.size:=by
  rcases Nat.lt_or_ge b w.heap.size with h|h
  · exact h
  · rw [(s.fresh b h).2.2] at hm;cases hm
 have iv:∀(c:Nat) o,(m.cE b none) c=some o→c≠b∧m c=some o:=fun c o h=>by
  simp only [ae.cE] at h
  by_cases e:c=b
  · rw [if_pos e] at h;cases h
  · rw [if_neg e] at h;exact ⟨e,h⟩
 have Ar:∀(c:Nat),m c=none→(m.cE b none) c=none:=fun c h=>by
  simp only [ae.cE];split
  · rfl
  · exact h
 cases gu with
 |bX p v _ _ _ _ ah aQ aA Q5=>
  have jF:∀c∈hf 1,¬F c∧m c=none∧c<w.heap.size:=fun c ao=>s.free c (by rw [jG.2 c ao];simp)
  have fk:∀c∈hf 1,c≠b:=fun c ao e=>by
   have:=(jF c ao).2.1
   rw [e,hm] at this;cases this
  refine ⟨p,v,hf 1,ez,av,ah,aQ,aA,Q5,fun c ao=>⟨(jF c ao).1,(jF c ao).2.1,fk c ao⟩,?_,?_⟩
  · refine ⟨os,cI,fun c=>if bW c= .ph b 1 then .k4 else bW c,s.size,s.defers,s.eL,fun c o h=>?_,fun t x an=>⟨(s.fj t x an).1,fun c ao=>?_⟩,fun c o h i=>?_,⟨jG.1,fun c ao=>by rw [if_pos (jG.2 c ao)]⟩,fun c ao=>?_,fun c ao=>?_⟩
    · obtain ⟨aF,J⟩:=iv c o h
      have:=s.mem c o J
      exact ⟨this.1,this.2.1,fun aC=>aC.elim this.2.2 aF⟩
    · rw [(s.fj t x an).2 c ao,if_neg (by simp)]
    · obtain ⟨aF,J⟩:=iv c o h
      refine ⟨(s.eF c o J i).1,fun d aY=>?_⟩
      rw [(s.eF c o J i).2 d aY,if_neg (by simp [aF])]
    · have jV:bW c≠ .none:=fun h=>ao (by rw [h,if_neg (by simp)])
      have:=s.free c jV
      refine ⟨fun aC=>aC.elim this.1 fun e=>?_,Ar c this.2.1,this.2.2⟩
      have aa:=this.2.1
      rw [e,hm] at aa;cases aa
    · have:=s.fresh c ao
      exact ⟨this.1,fun aC=>aC.elim this.2.1 fun e=>by omega,Ar c this.2.2⟩
  · refine ⟨os,cI,fun c=>if bW c= .ph b 1 then .none else bW c,s.size,s.defers,s.eL,fun c o h=>?_,fun t x an=>⟨(s.fj t x an).1,fun c ao=>?_⟩,fun c o h i=>?_,⟨List.nodup_nil,fun c ao=>by cases ao⟩,fun c ao=>?_,fun c ao=>?_⟩
    · obtain ⟨aF,J⟩:=iv c o h
      have:=s.mem c o J
      refine ⟨this.1,this.2.1,fun aC=>aC.elim this.2.2 fun aC=>aC.elim aF fun ao=>?_⟩
      rw [(jF c ao).2.1] at J;cases J
    · rw [(s.fj t x an).2 c ao,if_neg (by simp)]
    · obtain ⟨aF,J⟩:=iv c o h
      refine ⟨(s.eF c o J i).1,fun d aY=>?_⟩
      rw [(s.eF c o J i).2 d aY,if_neg (by simp [aF])]
    · have D2:bW c≠ .ph b 1:=fun h=>ao (by rw [if_pos h])
      have jV:bW c≠ .none:=fun h=>ao (by rw [if_neg D2,h])
      have:=s.free c jV
      refine ⟨fun aC=>aC.elim this.1 fun aC=>aC.elim (fun e=>?_) (fun D3=>D2 (jG.2 c D3)),Ar c this.2.1,this.2.2⟩
      have aa:=this.2.1
      rw [e,hm] at aa;cases aa
    · have:=s.fresh c ao
      exact ⟨this.1,fun aC=>aC.elim this.2.1 fun aC=>aC.elim (fun e=>by omega) (fun D3=>by have:=(jF c D3).2.2;omega),Ar c this.2.2⟩
theorem bd.Q6 {b:Nat} {e eb:TypeId} {l:List ab} {p v:Value} {qc:List Nat} (st:bd (fun c=>F c∨c=b) lim w n fr (m.cE b none) ca qc) (ez:¬F b) (av:lim b=0) (ah:w.heap[b]?=some (.cells #[p,v] e (0,0)))
 (aQ:p= .pointer none∨p= .pointer (some ⟨b,0,none⟩)) (aA:aN w lim v (.slice true l) qc) (aP:rP w eb v qc (l≠[])):bd F lim w n fr (m.cE b (some (.bX e eb l))) ca []:=by
 obtain ⟨os,cI,bW,s⟩:=st
 have cl:b<w.heap.size:=by
  rcases Nat.lt_or_ge b w.heap.size with h|h
  · exact h
  · rw [Array.getElem?_eq_none h] at ah;cases ah
 have rq:∀c∈qc,bW c= .k4:=s.gK.2
 have il:∀(c:Nat) (x:Option gr),c≠b→(m.cE b x) c=m c:=fun c x h=>by simp only [ae.cE,if_neg h]
 refine ⟨os,fun c=>if c=b then (fun i=>if i=1 then qc else []) else cI c,fun c=>if c∈qc then .ph b 1 else bW c,s.size,s.defers,s.eL,fun c o h=>?_,fun t x an=>⟨(s.fj t x an).1,fun c ao=>?_⟩,fun c o h i=>?_,⟨List.nodup_nil,fun c ao=>by cases ao⟩,fun c ao=>?_,fun c ao=>?_⟩
 · by_cases aF:c=b
   · subst aF
     simp only [ae.cE,if_true] at h
     obtain rfl:=Option.some.inj h
     refine ⟨?_,av,ez⟩
     simp only [if_true]
     exact .bX p v _ _ _ _ ah aQ (by simpa using aA) (by simpa [rP] using aP)
   · rw [il c _ aF] at h
     simp only [if_neg aF]
     have:=s.mem c o (by rw [il c _ aF];exact h)
     exact ⟨this.1,this.2.1,fun aC=>this.2.2 (.inl aC)⟩
 · have J:=(s.fj t x an).2 c ao
   rw [if_neg (fun hm=>by rw [rq c hm] at J;cases J)]
   exact J
 · by_cases aF:c=b
   · subst aF
     simp only [if_true]
     by_cases ad:i=1
     · subst ad
       simp only [if_true]
       exact ⟨s.gK.1,fun d aY=>by rw [if_pos aY]⟩
     · simp [if_neg ad]
   · rw [il c _ aF] at h
     simp only [if_neg aF]
     have aa:=s.eF c o (by rw [il c _ aF];exact h) i
     refine ⟨aa.1,fun d aY=>?_⟩
     have J:=aa.2 d aY
     rw [if_neg (fun hm=>by rw [rq d hm] at J;cases J)]
     exact J
 · have jV:bW c≠ .none:=fun h=>by
    by_cases hm:c∈qc
    · rw [rq c hm] at h;cases h
    · exact ao (by rw [if_neg hm,h])
   have:=s.free c jV
   have aF:c≠b:=fun e=>this.1 (.inr e)
   refine ⟨fun aC=>this.1 (.inl aC),?_,this.2.2⟩
   rw [il c _ aF]
   have aa:=this.2.1
   rwa [il c _ aF] at aa
 · have:=s.fresh c ao
   refine ⟨this.1,fun aC=>this.2.1 (.inl aC),?_⟩
   have aF:c≠b:=by omega
   rw [il c _ aF]
   have aa:=this.2.2
   rwa [il c _ aF] at aa
theorem bd.I0 {b i:Nat} {x:Value} (st:bd F lim w n fr m ca bL) (ez:F b) (av:lim b=0):bd F lim (w.setCell ⟨b,i,none⟩ x) n fr m ca bL:=by
 have hm:m b=none:=by
  obtain ⟨os,cI,bW,s⟩:=st
  cases h:m b with
  |none=>rfl
  |some o=>exact ((s.mem b o h).2.2 ez).elim
 have aZ:∀c,w.heap.size≤c→lim c=0:=fun c ao=>by
  obtain ⟨os,cI,bW,s⟩:=st
  exact (s.fresh c ao).1
 refine st.world (by simp) (fun _=>Nat.le_refl _) (fun c o aL=>?_) (fun c ao=>?_) (fun c ao=>?_) (fun c ao=>aZ c (by simpa using ao))
 · have:c≠b:=fun e=>by subst e;omega
   simp [World.cell?,heap_setCell_other w ⟨b,i,none⟩ c x this]
 · by_cases e:c=b
   · subst e;exact .inl fun h=>h.1 ez
   · exact .inr ⟨heap_setCell_other w ⟨b,i,none⟩ c x e,rfl⟩
 · have:c≠b:=fun e=>ao (e▸hm)
   exact ⟨heap_setCell_other w ⟨b,i,none⟩ c x this,rfl⟩
theorem I1 {b i:Nat} {x:Value} (ez:¬F b) (av:lim b=0):dW F w lim (w.setCell ⟨b,i,none⟩ x) lim:=by
 refine ⟨rfl,rfl,rfl,by simp,fun c ao=>⟨heap_setCell_other w ⟨b,i,none⟩ c x (fun e=>by have az:c=b:=e;subst az;exact ez ao),rfl⟩,fun _=>Nat.le_refl _,fun c o aL=>?_⟩
 have:c≠b:=fun e=>by subst e;omega
 simp [World.cell?,heap_setCell_other w ⟨b,i,none⟩ c x this]
theorem I2 {b i:Nat} {x v:Value} {y:ab} {os:List Nat} (aA:aN w lim v y os) (av:lim b=0) (jF:∀c∈os,c≠b):aN (w.setCell ⟨b,i,none⟩ x) lim v y os:=
 aA.ho (fun _=>Nat.le_refl _) (fun c o aL=>by
  have:c≠b:=fun e=>by subst e;omega
  simp [World.cell?,heap_setCell_other w ⟨b,i,none⟩ c x this]) (fun c ao=>⟨heap_setCell_other w ⟨b,i,none⟩ c x (jF c ao),rfl⟩)
theorem I3 {b i:Nat} {x v:Value} {eb:TypeId} {os:List Nat} {ne:Prop} (h:rP w eb v os ne) (jF:∀c∈os,c≠b):rP (w.setCell ⟨b,i,none⟩ x) eb v os ne:=by
 rcases h with h|⟨g,k,c,cur,J,aa,aj,aG⟩
 · exact .inl h
 · exact .inr ⟨g,k,c,cur,J,aa,aj,(heap_setCell_other w ⟨b,i,none⟩ g x (jF g aa)).trans aG⟩
theorem Q7 {cargs:Array Value} (h:cargs.size=2):∃x y,cargs=#[x,y]:=by
 match cargs,h with
 |⟨[x,y]⟩,_=>exact ⟨x,y,rfl⟩
theorem As {cargs:Array Value} (h:cargs.size=1):∃x,cargs=#[x]:=by
 match cargs,h with
 |⟨[x]⟩,_=>exact ⟨x,rfl⟩
set_option maxHeartbeats 1000000 in
theorem Q8 {f:FuncId} {e eb t u:TypeId} (aZ:∃fn,P.funcs[f]?=some fn∧fn.body.isSome=true∧(fn.name== "runtime.NumGoroutine")=false)
 (aq:P.underlying t=some (.slice eb)) (hu:P.underlying u=some .string) (ak:kJ P eb=true) (x8:P.cellsOf eb=1) (pO:P.bytesOf eb=1)
 (hq:∀(b:Nat) (s:ByteArray) (w cU eP:World) (p:Value) (a:Option Addr) (n c:Nat) (bZ:Option Addr) (rQ pS:Nat),w.heap[b]?=some (.cells #[p, .slice a n c] e (0,0))→
   ((p= .pointer none∧cU=w.setCell ⟨b,0,none⟩ (.pointer (some ⟨b,0,none⟩)))∨(p= .pointer (some ⟨b,0,none⟩)∧cU=w))→
   (Builtin.append_ #[t,u] t #[.slice a n c, .string s]).run P cU= .ok (.slice bZ rQ pS) eP→eP.heap[b]?=some (.cells #[.pointer (some ⟨b,0,none⟩), .slice a n c] e (0,0))→
   Calls P f #[.pointer (some ⟨b,0,none⟩), .string s] w fun e w'=>e= .returned (.tuple #[.int .i64 s.size, .nilIface])∧w'=eP.setCell ⟨b,1,none⟩ (.slice bZ rQ pS))
 {b:Nat} {l s:List UInt8} {K:ab→ae→Prop} (hm:m b=some (.bX e eb (l.map bC))) (hlen:l.length+s.length≤140737488355328)
 (U:K (.tuple [.int .i64 s.length, .nilIface]) (m.cE b (some (.bX e eb ((l++s).map bC))))):bh P f [.ptr ⟨b,0,none⟩, .str s] m K:=by
 refine ⟨aZ,fun F lim w cargs aw aA st=>?_⟩
 obtain ⟨x,y,rfl⟩:=Q7 aw
 have o4:aN w lim x (.ptr ⟨b,0,none⟩) []:=aA 0 (by simp)
 have jf:aN w lim y (.str s) []:=aA 1 (by simp)
 cases o4
 obtain ⟨kc,rfl,rfl⟩:∃kc:ByteArray,y= .string kc∧kc.data.toList=s:=by
  cases jf with
  |str kc h=>exact ⟨kc,rfl,rfl⟩
 have cF:kc.data.toList.length=kc.size:=by rw [Array.length_toList];rfl
 obtain ⟨p,v,os,ez,av,ah,aQ,mr,aP,jF,tf,_⟩:=st.D1 hm
 have fk:∀c∈os,c≠b:=fun c ao=>(jF c ao).2.2
 obtain ⟨cU,D4,D5,D6,I4,DI,Q9⟩:∃cU,((p= .pointer none∧cU=w.setCell ⟨b,0,none⟩ (.pointer (some ⟨b,0,none⟩)))∨(p= .pointer (some ⟨b,0,none⟩)∧cU=w))∧
  bd (fun c=>F c∨c=b) lim cU 0 [] (m.cE b none) nZ os∧aN cU lim v (.slice true (l.map bC)) os∧rP cU eb v os (l.map bC≠[])∧cU.heap[b]?=some (.cells #[.pointer (some ⟨b,0,none⟩),v] e (0,0))∧dW F w lim cU lim:=by
  rcases aQ with rfl|rfl
  · exact ⟨_, .inl ⟨rfl,rfl⟩,tf.I0 (.inr rfl) av,I2 mr av fk,I3 aP fk,by rw [heap_setCell_same _ b 0 _ e _ ah];rfl,I1 ez av⟩
  · exact ⟨w, .inr ⟨rfl,rfl⟩,tf,mr,aP,ah, .refl _ _ _⟩
 obtain ⟨hD,eP,lim',e0,Au,dZ,Av,vp,I5⟩:=Q3 (ty:=t) D5 aq hu ak x8 pO kc D6 (by rw [cF] at hlen;exact hlen) I4
 obtain ⟨a,k,c,rfl⟩:∃a k c,v= .slice a k c:=by
  rcases I4 with h|⟨g,k,c,_,h,_⟩
  · exact ⟨_,_,_,h⟩
  · exact ⟨_,_,_,h⟩
 obtain ⟨bZ,en,pS,rfl⟩:∃a k c,hD= .slice a k c:=by
  rcases Au with h|⟨g,k,c,_,h,_⟩
  · exact ⟨_,_,_,h⟩
  · exact ⟨_,_,_,h⟩
 obtain ⟨nw,j9⟩:=I5.res b (.inr rfl)
 rw [DI] at nw
 rw [av] at j9
 have I6:∀c∈e0,c≠b:=fun c ao aF=>by
  obtain ⟨os,cI,bW,s⟩:=Av
  have:=(s.free c (by rw [s.gK.2 c ao];simp)).1
  exact this (.inr aF)
 refine (hq b kc w cU eP p a k c bZ en pS ah D4 dZ nw).mono fun aF eN ⟨he,qO⟩=>?_
 subst he;subst qO
 have Ra:(eP.setCell ⟨b,1,none⟩ (.slice bZ en pS)).heap[b]?=some (.cells #[.pointer (some ⟨b,0,none⟩), .slice bZ en pS] e (0,0)):=by rw [heap_setCell_same _ b 1 _ e _ nw];rfl
 refine ⟨_,_,lim',_,[],rfl,U,?_,(Av.I0 (.inr rfl) j9).Q6 ez j9 Ra (.inr rfl) (I2 vp j9 I6) (I3 Au I6),(Q9.trans (I5.weaken fun c ao=> .inl ao)).trans (I1 ez j9)⟩
 have:=aN.tuple (w:=eP.setCell ⟨b,1,none⟩ (.slice bZ en pS)) (lim:=lim') #[.int .i64 kc.size, .nilIface] [.int .i64 (kc.data.toList.length:Int), .nilIface] (fun _=>[]) rfl (fun i ad=>by
  match i,ad with
  |0,_=>
   rw [cF]
   exact .int _ _ (by show (-9223372036854775808:Int)≤_;omega) (by show _≤(9223372036854775807:Int);omega)
  |1,_=>exact .nilIface)
 exact this
end
end Go.bg
end
section
namespace Go.bg
open Go
section
variable {P:Program} {F:Nat→Prop} {lim:Nat→Nat} {w:World} {n:Nat} {fr:Fr} {m:ae} {ca:Act} {bL:List Nat}
theorem I7 (w:World) (a:Addr) (k c:Nat) (h:c≠a.block):(w.freeze a k).heap[c]?=w.heap[c]?:=by
 unfold World.freeze
 split
 · rfl
 · simp only [Array.getElem?_modify]
   rw [if_neg (fun e=>h e.symm)]
theorem Rb (w:World) (a:Addr) (k b o:Nat):(w.freeze a k).cell? ⟨b,o,none⟩=w.cell? ⟨b,o,none⟩:=by
 by_cases h:b=a.block
 · subst h
   unfold World.freeze
   split
   · rfl
   · simp only [World.cell?,Array.getElem?_modify,if_true]
     cases w.heap[a.block]? with
     |none=>rfl
     |some hf=>cases hf<;>rfl
 · simp [World.cell?,I7 w a k b h]
theorem I8 {g k c:Nat} {l:List UInt8} {os:List Nat} (aA:aN w lim (.slice (some ⟨g,0,none⟩) k c) (.slice true (l.map bC)) os) (aJ:l≠[]):
 k=l.length∧c≠0∧(∃cur e,w.heap[g]?=some (.cells cur e (0,0))∧l.length≤cur.size)∧(∀j x,l[j]?=some x→w.cell? ⟨g,j,none⟩=some (.int .u8 x.toNat))∧l.length≤140737488355328:=by
 have kj:0<l.length:=List.length_pos_iff.2 aJ
 have yf:∀a,a<l.length→(l.map bC).getD a .aV=bC (l.getD a 0):=fun a aT=>by simp [List.getD_eq_getElem?_getD,List.getElem?_eq_getElem aT]
 generalize oi:l.map bC=qM at aA
 cases aA with
 |own b iw cap sz l' cv cur bR J aa aj aG aR bu cD cK cC eg fJ=>
  subst oi
  obtain rfl:l.length=k:=by simpa using J
  have cF:sz=1:=by rw [←cK 0 kj,yf 0 kj];rfl
  subst cF
  refine ⟨rfl,by omega,⟨cur,bR,bu,by omega⟩,fun j x an=>?_,aG⟩
  have aD:j<l.length:=by
   rcases Nat.lt_or_ge j l.length with h|h
   · exact h
   · rw [List.getElem?_eq_none h] at an;cases an
  have cq:=eg j 0 aD (by omega)
  have bl:=fJ j 0 aD (by omega)
  rw [yf j aD,Q2] at bl
  simp only [Nat.mul_one,Nat.add_zero] at cq
  have Rc:l.getD j 0=x:=by simp [List.getD_eq_getElem?_getD,an]
  rw [Rc] at bl
  have gx:aN w lim (cv j 0) (.int .u8 x.toNat) []:=bl
  generalize cv j 0=lK at cq gx
  cases gx
  exact cq
theorem bd.I9 {b:Nat} {e:TypeId} {p v:Value} (st:bd (fun c=>F c∨c=b) lim w n fr (m.cE b none) ca []) (ez:¬F b) (av:lim b=0) (ah:w.heap[b]?=some (.cells #[p,v] e (0,0))):bd F lim w n fr (m.cE b (some (.cells [.aV, .aV]))) ca []:=by
 obtain ⟨os,cI,bW,s⟩:=st
 have cl:b<w.heap.size:=by
  rcases Nat.lt_or_ge b w.heap.size with h|h
  · exact h
  · rw [Array.getElem?_eq_none h] at ah;cases ah
 have il:∀(c:Nat) (x:Option gr),c≠b→(m.cE b x) c=m c:=fun c x h=>by simp only [ae.cE,if_neg h]
 refine ⟨os,fun c=>if c=b then (fun _=>[]) else cI c,bW,s.size,s.defers,s.eL,fun c o h=>?_,s.fj,fun c o h i=>?_,s.gK,fun c ao=>?_,fun c ao=>?_⟩
 · by_cases aF:c=b
   · subst aF
     simp only [ae.cE,if_true] at h
     obtain rfl:=Option.some.inj h
     refine ⟨?_,av,ez⟩
     simp only [if_true]
     refine .cells _ e _ _ ah rfl fun i ad=>?_
     match i,ad with
     |0,_=>exact .aV _
     |1,_=>exact .aV _
   · rw [il c _ aF] at h
     simp only [if_neg aF]
     have:=s.mem c o (by rw [il c _ aF];exact h)
     exact ⟨this.1,this.2.1,fun aC=>this.2.2 (.inl aC)⟩
 · by_cases aF:c=b
   · simp [aF]
   · rw [il c _ aF] at h
     simp only [if_neg aF]
     exact s.eF c o (by rw [il c _ aF];exact h) i
 · have:=s.free c ao
   have aF:c≠b:=fun e=>this.1 (.inr e)
   refine ⟨fun aC=>this.1 (.inl aC),?_,this.2.2⟩
   rw [il c _ aF]
   have aa:=this.2.1
   rwa [il c _ aF] at aa
 · have:=s.fresh c ao
   refine ⟨this.1,fun aC=>this.2.1 (.inl aC),?_⟩
   have aF:c≠b:=by omega
   rw [il c _ aF]
   have aa:=this.2.2
   rwa [il c _ aF] at aa
theorem bd.drew (st:bd F lim w n fr m ca bL):bd F lim w.drew n fr m ca bL:=st.heap rfl
set_option maxHeartbeats 1000000 in
theorem Re {f:FuncId} {e eb:TypeId} (aZ:∃fn,P.funcs[f]?=some fn∧fn.body.isSome=true∧(fn.name== "runtime.NumGoroutine")=false)
 (hq:∀(b g c:Nat) (p:Value) (cur:Array Value) (l:List UInt8) (w:World),l≠[]→c≠0→l.length≤9223372036854775807→w.heap[b]?=some (.cells #[p, .slice (some ⟨g,0,none⟩) l.length c] e (0,0))→
   w.heap[g]?=some (.cells cur eb (0,0))→l.length≤cur.size→(∀j x,l[j]?=some x→w.cell? ⟨g,j,none⟩=some (.int .u8 x.toNat))→
   Calls P f #[.pointer (some ⟨b,0,none⟩)] w fun e w'=>e= .returned (.string ⟨l.toArray⟩)∧w'=w.drew.freeze ⟨g,0,none⟩ l.length)
 (lL:∀(b:Nat) (p:Value) (w:World),w.heap[b]?=some (.cells #[p, .slice none 0 0] e (0,0))→Calls P f #[.pointer (some ⟨b,0,none⟩)] w fun e w'=>e= .returned (.string ⟨#[]⟩)∧w'=w.drew)
 {b:Nat} {l:List UInt8} {K:ab→ae→Prop} (hm:m b=some (.bX e eb (l.map bC))) (U:K (.str l) (m.cE b (some (.cells [.aV, .aV])))):bh P f [.ptr ⟨b,0,none⟩] m K:=by
 refine ⟨aZ,fun F lim w cargs aw aA st=>?_⟩
 obtain ⟨x,rfl⟩:=As aw
 have o4:aN w lim x (.ptr ⟨b,0,none⟩) []:=aA 0 (by simp)
 cases o4
 obtain ⟨p,v,os,ez,av,ah,aQ,mr,aP,jF,_,tf⟩:=st.D1 hm
 rcases aP with rfl|⟨g,k,c,cur,rfl,bc,fk,D7⟩
 · have hv:l=[]:=by
    generalize oi:l.map bC=qM at mr
    cases mr
    simpa using oi
   subst hv
   refine (lL b p w ah).mono fun aF eN ⟨he,qO⟩=>?_
   subst he;subst qO
   exact ⟨_,_,lim,_,[],rfl,U, .str ⟨#[]⟩ (Nat.zero_le _),((tf.drew).IZ fun c ao=>ao.elim .inl fun h=> .inr (.inl h)).I9 ez av ah, .drew _ _ _⟩
 · have aJ:l≠[]:=fun h=>fk (by rw [h];rfl)
   obtain ⟨rfl,uB,⟨Ja,bR,D8,hle⟩,iT,hlen⟩:=I8 mr aJ
   have kD:Ja=cur:=by
    rw [D7] at D8
    simp only [Option.some.injEq,Obj.cells.injEq] at D8
    exact D8.1.symm
   subst kD
   obtain ⟨Rf,Rg,Jb⟩:=jF g bc
   refine (hq b g c p Ja l w aJ uB (by omega) ah D7 hle iT).mono fun aF eN ⟨he,qO⟩=>?_
   subst he;subst qO
   have aZ:∀c,w.heap.size≤c→lim c=0:=fun c ao=>by
    obtain ⟨os,cI,bW,s⟩:=tf
    exact (s.fresh c ao).1
   have cF:(w.drew.freeze ⟨g,0,none⟩ l.length).heap.size=w.heap.size:=by
    unfold World.freeze
    split
    · rfl
    · simp [heap_drew]
   have Aw:∀c,c≠g→(w.drew.freeze ⟨g,0,none⟩ l.length).heap[c]?=w.heap[c]?:=fun c ao=>by rw [I7 _ _ _ _ ao,heap_drew]
   have la:∀b o,(w.drew.freeze ⟨g,0,none⟩ l.length).cell? ⟨b,o,none⟩=w.cell? ⟨b,o,none⟩:=fun b o=>by rw [Rb];simp [World.cell?,heap_drew]
   have Av:bd (fun c=>F c∨c=b∨c∈os) lim (w.drew.freeze ⟨g,0,none⟩ l.length) 0 [] (m.cE b none) nZ []:=by
    refine tf.world (by rw [cF];exact Nat.le_refl _) (fun _=>Nat.le_refl _) (fun b o _=>la b o) (fun c ao=>?_) (fun c ao=>?_) (fun c ao=>aZ c (by rw [←cF];exact ao))
    · by_cases aF:c=g
      · subst aF;exact .inl fun h=>h.1 (.inr (.inr bc))
      · exact .inr ⟨Aw c aF,rfl⟩
    · have aF:c≠g:=fun aF=>by
       subst aF
       apply ao
       simp only [ae.cE,if_neg Jb]
       exact Rg
      exact ⟨Aw c aF,rfl⟩
   refine ⟨_,_,lim,_,[],rfl,U,?_,(Av.IZ fun c ao=>ao.elim .inl fun h=> .inr (.inl h)).I9 ez av (by rw [Aw b (Ne.symm Jb)];exact ah),?_⟩
   · have:=aN.str (w:=w.drew.freeze ⟨g,0,none⟩ l.length) (lim:=lim) ⟨l.toArray⟩ (by rw [show (⟨l.toArray⟩:ByteArray).size=l.length from rfl];exact hlen)
     exact this
   · refine ⟨?_,?_,?_,by rw [cF];exact Nat.le_refl _,fun c ao=>⟨Aw c (fun aF=>Rf (aF▸ao)),rfl⟩,fun _=>Nat.le_refl _,fun b o _=>la b o⟩
     all_goals (unfold World.freeze;split<;>rfl)
theorem Rh {ops:Array Oper} {l:List Oper} {K:Fr→ae→Prop} {d:Nat} {t eb:TypeId} {ty:TypeId} {pos:String} {af:Array Edge} {i:TypeInfo} (ad:P.info? t=some i) (ak:i.zero=some (.agg #[.pointer none, .slice none 0 0]))
 (al:fp n ⟨some d, .alloc t,ty,pos,af,none⟩=true) (h:∀b,m b=none→b6 P n ops l K (fr.put d (.ptr ⟨b,0,none⟩)) (m.cE b (some (.bX t eb [])))):b6 P n ops (⟨some d, .alloc t,ty,pos,af,none⟩::l) K fr m:=by
 refine b6.step rfl fun F lim w ca st next Q aM=>?_
 have hq:(execOp ca.eval ⟨some d, .alloc t,ty,pos,af,none⟩).run P w= .ok (.value (.pointer (some ⟨w.heap.size,0,none⟩))) (w.alloc (.cells #[.pointer none, .slice none 0 0] t)):=by
  simp [execOp,Instr.alloc,newVar,newRow,zeroValue,typeInfo,ad,ak,Value.cells]
 obtain ⟨J,aa⟩:=st.BJ #[.pointer none, .slice none 0 0] t [.fT, .slice true []] rfl (fun i ad=>by
  match i,ad with
  |0,_=>exact .fT
  |1,_=>exact .gb true)
 have D2:w.heap[w.heap.size]?=none:=by simp
 have D5:bd F lim (w.alloc (.cells #[.pointer none, .slice none 0 0] t)) n fr (m.cE w.heap.size (some (.bX t eb []))) ca []:=by
  obtain ⟨os,cI,bW,s⟩:=aa
  have il:∀(c:Nat) (x:Option gr),c≠w.heap.size→(m.cE w.heap.size x) c=m c:=fun c x h=>by simp only [ae.cE,if_neg h]
  refine ⟨os,fun c=>if c=w.heap.size then (fun _=>[]) else cI c,bW,s.size,s.defers,s.eL,fun c o h=>?_,s.fj,fun c o h i=>?_,s.gK,fun c ao=>?_,fun c ao=>?_⟩
  · by_cases aF:c=w.heap.size
    · subst aF
      simp only [ae.cE,if_true] at h
      obtain rfl:=Option.some.inj h
      have:=s.mem w.heap.size (.cells [.fT, .slice true []]) (by simp only [ae.cE,if_true])
      refine ⟨?_,this.2⟩
      simp only [if_true]
      exact .bX _ _ _ _ _ _ (oJ w _) (.inl rfl) (.gb true) (.inl rfl)
    · rw [il c _ aF] at h
      simp only [if_neg aF]
      exact s.mem c o (by rw [il c _ aF];exact h)
  · by_cases aF:c=w.heap.size
    · simp [aF]
    · rw [il c _ aF] at h
      simp only [if_neg aF]
      exact s.eF c o (by rw [il c _ aF];exact h) i
  · have:=s.free c ao
    refine ⟨this.1,?_,this.2.2⟩
    have aF:c≠w.heap.size:=fun aF=>by
     have aa:=this.2.1
     rw [aF] at aa
     simp [ae.cE] at aa
    rw [il c _ aF]
    have aa:=this.2.1
    rwa [il c _ aF] at aa
  · have:=s.fresh c ao
    refine ⟨this.1,this.2.1,?_⟩
    have aF:c≠w.heap.size:=fun aF=>by
     have aa:=this.2.2
     rw [aF] at aa
     simp [ae.cE] at aa
    rw [il c _ aF]
    have aa:=this.2.2
    rwa [il c _ aF] at aa
 have ft:=uL st (.cells #[.pointer none, .slice none 0 0] t)
 exact n0 hq (aM lim _ _ _ _ (h _ J) (D5.set (j4 al rfl) (.ptr _)) ft)
end
end Go.bg
end
