/-
  The executor, part 7: an operation, a region.
-/
import Derived.Test.YtnahenbiipdlkaaDoorWyF
import Derived.Lib.AppendStr
import Derived.Lib.LaidTab
section
namespace Go.b4
open Go Go.bb
section
variable {c:fF} {n:Nat} {bs:List Nat} {fr:bM} {L:List br} {m:ae} {K:Fr→ae→Prop} {ops:Array Oper} {l:List Oper} {ty:TypeId} {pos:String} {af:Array Edge}
def jv (P:Program) (n:Nat) (ops:Array Oper) (l:List Oper) (K:Fr→ae→Prop) (b0 bs:List Nat) (k:cg):Prop:=
 b0 <+: bs∧∀aY bK m' hX,b0 <+: hX→Good hX bK m'→k aY bK m'→bB P n ops l K (bf hX aY) (bC hX bK m')
theorem jv.same {P:Program} {b0:List Nat} {k:cg} (h:jv P n ops l K b0 bs k) {aY:bM} {bK:List br} {m':ae} (g:Good bs bK m') (ai:k aY bK m'):bB P n ops l K (bf bs aY) (bC bs bK m'):=h.2 aY bK m' bs h.1 g ai
theorem jv.more {P:Program} {b0:List Nat} {k:cg} (h:jv P n ops l K b0 bs k) (dz:List Nat) {aY:bM} {bK:List br} {m':ae} (g:Good (bs++dz) bK m') (ai:k aY bK m'):bB P n ops l K (bf (bs++dz) aY) (bC (bs++dz) bK m'):=h.2 aY bK m' _ (h.1.trans (List.prefix_append _ _)) g ai
theorem mF {d:Option Nat} {v:aT} {fr:bM} {k:bM→Prop} (h:jF d v fr k):∃aY,k aY∧bf bs aY=dX (bf bs fr) d (den bs v):=by
 cases d with
 |some d=>exact ⟨_,h,rfl⟩
 |none=>exact ⟨_,h,rfl⟩
theorem gb.put {eI f:Fr} (h:gb eI f) (d:Option Nat) {bD x:aa} (ao:kN bD x):gb (dX eI d bD) (dX f d x):=by
 cases d with
 |some d=>exact h.cons d ao
 |none=>exact h
theorem Eb (d:Nat):((some d).map ([]:List Nat).contains).getD false=false:=rfl
theorem zP (d:Nat):((some d).map ([d]:List Nat).contains).getD false=true:=by simp
theorem Ec (aC:eO c.P c.T=true) (g:Good bs L m) {d:Nat} {op:Op} {k:cg} (ai:ef n ⟨some d,op,ty,pos,af,none⟩=true) (ad:jv c.P n ops l K c.bs bs k) {w:Bool} (h:r2 c.T w fr L op fun u=>k ((d,u)::fr) L m):
 bB c.P n ops (⟨some d,op,ty,pos,af,none⟩::l) K (bf bs fr) (bC bs L m):=by
 obtain ⟨side,z,u,aS,aj,rfl,h⟩:=D3 (P:=c.P) (bs:=bs) (m:=m) aC g h
 exact bB.bq ai aS aj (ad.same g h)
theorem Ed (g:Good bs L m) {d:Nat} {op:Op} {k:cg} (ai:ef n ⟨some d,op,ty,pos,af,none⟩=true) (ad:jv c.P n ops l K c.bs bs k) (h:c6 (bq c.P (bC bs L m) (bR (bc (bf bs fr))) op) bs fun u=>k ((d,u)::fr) L m):
 bB c.P n ops (⟨some d,op,ty,pos,af,none⟩::l) K (bf bs fr) (bC bs L m):=by
 obtain ⟨side,z,u,aS,aj,rfl,h⟩:=h
 exact bB.bq ai aS aj (ad.same g h)
theorem LP (g:Good bs L m) {dst:Option Nat} {t:Nat} {k:cg} (ai:ef n ⟨dst, .assign (.tmp t),ty,pos,af,none⟩=true) (aJ:fy n ⟨dst, .assign (.tmp t),ty,pos,af,none⟩=true) (ad:jv c.P n ops l K c.bs bs k) {bL:List Nat} (h:hd c bL dst (.assign (.tmp t)) fr L m k):
 bB c.P n ops (⟨dst, .assign (.tmp t),ty,pos,af,none⟩::l) K (bf bs fr) (bC bs L m):=by
 simp only [hd] at h
 rw [lh] at h
 obtain ⟨zQ,h⟩:=cY.1 h
 obtain ⟨u,h,hu⟩:=rV bs zQ h
 obtain ⟨aY,h,hle,_⟩:=zN (bs:=bs) h (fun t e=>by cases e;rfl)
 refine bB.val (stl:=[]) ai aJ (by simp only [ec];rfl) trivial ?_
 have aw:=kp bs fr t
 split at h
 · rename_i q ba
   obtain ⟨o4,h,az⟩:=mF (bs:=bs) h
   refine bB.less ?_ (ad.same g h)
   rw [az]
   exact hle.put dst (.inl (by rw [aw,ba]))
 · obtain ⟨o4,h,az⟩:=mF (bs:=bs) h
   refine bB.less ?_ (ad.same g h)
   rw [az]
   exact hle.put dst (.pl (by rw [aw,hu]))
theorem LQ (g:Good bs L m) {dst:Option Nat} {t:Nat} {k:cg} (ai:ef n ⟨dst, .move (.tmp t),ty,pos,af,none⟩=true) (aJ:fy n ⟨dst, .move (.tmp t),ty,pos,af,none⟩=true) (ad:jv c.P n ops l K c.bs bs k) {bL:List Nat} (h:hd c bL dst (.move (.tmp t)) fr L m k):
 bB c.P n ops (⟨dst, .move (.tmp t),ty,pos,af,none⟩::l) K (bf bs fr) (bC bs L m):=by
 simp only [hd] at h
 rw [lh] at h
 obtain ⟨u,J,hu⟩:=LN (bs:=bs) h
 clear h
 have aw:=kp bs fr t
 have gen:jF dst u fr (fun fr=>k fr L m)→bB c.P n ops (⟨dst, .move (.tmp t),ty,pos,af,none⟩::l) K (bf bs fr) (bC bs L m):=fun aA=>by
  obtain ⟨o4,I,az⟩:=mF (bs:=bs) aA
  cases dst with
  |none=>
   refine bB.val (stl:=[]) ai aJ (by simp only [ec];rfl) trivial ?_
   have:=ad.same g I
   rw [az] at this
   exact this
  |some d=>
   refine bB.val (stl:=[]) ai aJ (by simp only [ec,Eb];rfl) trivial ?_
   have:=ad.same g I
   rw [az,hu] at this
   simp only [Fr.strip,Fr.put,dX,aw] at this ⊢
   exact this
 cases dst with
 |none=>
  refine gen ?_
  split at J
  · rename_i e;cases e
  · exact J
 |some d=>
  cases ba:dU fr t with
  |own q=>
   rw [ba] at J
   simp only at J
   cases aj:sa c bL d with
   |true=>
    rw [aj] at J
    refine bB.val (stl:=[d]) ai aJ (by simp only [ec,zP,if_true];rfl) trivial ?_
    have:=ad.same g J
    simp only [bf,hu] at this
    simp only [Fr.strip,Fr.put,dX,aw]
    rw [←ba] at this
    exact this
   |false=>
    rw [aj] at J
    exact gen J
  |_=>rw [ba] at J;exact gen J
theorem LR (g:Good bs L m) {dst:Option Nat} {t i:Nat} {k:cg} (ai:ef n ⟨dst, .extract (.tmp t) i,ty,pos,af,none⟩=true) (aJ:fy n ⟨dst, .extract (.tmp t) i,ty,pos,af,none⟩=true) (ad:jv c.P n ops l K c.bs bs k) {bL:List Nat} (h:hd c bL dst (.extract (.tmp t) i) fr L m k):
 bB c.P n ops (⟨dst, .extract (.tmp t) i,ty,pos,af,none⟩::l) K (bf bs fr) (bC bs L m):=by
 simp only [hd] at h
 rw [lh] at h
 have aw:=kp bs fr t
 cases dst with
 |none=>cases ba:dU fr t<;>rw [ba] at h<;>exact h.elim
 |some d=>
  have gen:r1 (dU fr t) i (fun u=>k ((d,u)::fr) L m)→bB c.P n ops (⟨some d, .extract (.tmp t) i,ty,pos,af,none⟩::l) K (bf bs fr) (bC bs L m):=fun h=>
   Ed g ai ad (D1 (P:=c.P) h (by rw [bR,aw]))
  cases ba:dU fr t with
  |cM q=>
   rw [ba] at h aw gen
   simp only [den] at h aw
   cases ao:nth q i with
   |none=>rw [ao] at h;exact h.elim
   |some x=>
    rw [ao] at h
    obtain ⟨az,bN⟩:=qM (bs:=bs) ao
    cases x with
    |own y=>
     simp only at h
     obtain ⟨l',I,lD⟩:=zO (bs:=bs) h
     cases aj:sa c bL d with
     |true=>
      rw [aj] at I
      refine bB.val (stl:=[d]) (ss:=[t]) (side:=i<(bl bs q).length) (m':=bC bs L m) (x:=(bl bs q).getD i .aP) ai aJ (by simp only [ec,aw,zP,if_true]) bN ?_
      have:=ad.same g I
      simp only [bf,den,lD] at this
      simp only [Fr.strip,Fr.put,dX,aw,aa.plain,az,den]
      exact this
     |false=>
      rw [aj] at I
      refine bB.val (stl:=[]) (ss:=[]) (side:=i<(bl bs q).length) (m':=bC bs L m) (x:=((bl bs q).getD i .aP).plain) ai aJ (by simp only [ec,aw,Eb];rfl) bN ?_
      have:=ad.same g I
      simp only [bf,den,aa.plain] at this
      simp only [Fr.strip,Fr.put,dX,az,den,aa.plain]
      exact this
    |_=>exact gen (by simp only [r1,ao];exact h)
  |_=>rw [ba] at h gen;exact gen h
theorem s4 (aC:eO c.P c.T=true) {b0:List Nat} {new:List Nat} (ag:bs=b0++new) (cK:c.bs=b0) (g:Good bs L m) {dst:Option Nat} {t:Nat} {x:Operand} {k:cg} (ai:ef n ⟨dst, .load t x,ty,pos,af,none⟩=true) (aJ:fy n ⟨dst, .load t x,ty,pos,af,none⟩=true) (ad:jv c.P n ops l K c.bs bs k) {bL:List Nat} (h:hd c bL dst (.load t x) fr L m k):
 bB c.P n ops (⟨dst, .load t x,ty,pos,af,none⟩::l) K (bf bs fr) (bC bs L m):=by
 simp only [hd] at h
 obtain ⟨v,h,e⟩:=eA bs h
 obtain ⟨i,cx,h⟩:=dJ aC h
 cases dst with
 |none=>exact h.elim
 |some d=>
  have key:oZ L i v (fun u=>k ((d,u)::fr) L m)→bB c.P n ops (⟨some d, .load t x,ty,pos,af,none⟩::l) K (bf bs fr) (bC bs L m):=fun h=>
   Ed g ai ad (DY cx g h e)
  have jG:hy c.P c.bs (some d) (.load t x) fr L m k→bB c.P n ops (⟨some d, .load t x,ty,pos,af,none⟩::l) K (bf bs fr) (bC bs L m):=fun h=>by
   subst cK
   subst ag
   exact h.h new g n ops ty pos af l K ai aJ ad.2
  cases v with
  |loc b off=>
   simp only at h
   cases kh:nth L b with
   |none=>rw [kh] at h;exact key h
   |some o=>
    rw [kh] at h
    cases o with
    |obj o=>exact key h
    |cells eW=>
     simp only at h
     cases aS:nth eW off with
     |none=>rw [aS] at h;exact key h
     |some y=>
      rw [aS] at h
      cases y with
      |own q=>
       simp only at h
       cases aj:sa c bL d with
       |false=>rw [aj] at h;exact key h
       |true=>
        cases bU:i.k.hx with
        |true=>rw [aj,bU] at h;exact key h
        |false=>
         rw [aj,bU] at h
         rw [iV] at kh
         have hm:=nn g kh
         obtain ⟨az,bN⟩:=qM (bs:=bs) aS
         refine bB.val (stl:=[d]) (ss:=[]) (side:=dG c.P t=true∧jM c.P t=false∧off<(bl bs eW).length) (m':=(bC bs L m).bX (bs.getD b 0) (some (.cells ((bl bs eW).set off ((bl bs eW).getD off .aP).plain)))) (x:=(bl bs eW).getD off .aP) ai aJ ?_ ⟨cx.is,cx.ue.trans bU,bN⟩ ?_
         · have cB:bR (bc (bf bs fr)) x= .ptr ⟨bs.getD b 0,off,none⟩:=by rw [←e];simp only [den]
           simp only [ec,zP,if_true,cB,hm,fb]
         · have:=ad.same (g.set b (.cells (eW.set off (.aI (.slice false q))))) h
           rw [←mem_set g kh] at this
           have fv:bl bs (eW.set off (.aI (.slice false q)))=(bl bs eW).set off (.slice false q):=by simp only [lg,List.map_set,den,aa.plain]
           simp only [bf,fb,fv] at this
           simp only [Fr.strip,Fr.put,dX,az,den,aa.plain]
           exact this
      |_=>exact key h
  |aI y=>exact key h
  |iB b q w j=>
   cases ns:pN c (some d) with
   |true=>simp only [ns] at h;exact jG h
   |false=>simp only [ns] at h;exact key h
  |_=>exact jG h
theorem LS {bs:List Nat} {u:List aT} {x:aa} (h:bl bs u=x.cells):u.length=x.cells.length:=by rw [←h,kK]
theorem LU (aC:eO c.P c.T=true) {b0:List Nat} {new:List Nat} (ag:bs=b0++new) (cK:c.bs=b0) (g:Good bs L m) {dst:Option Nat} {t:Nat} {a x:Operand} {k:cg} (a7:dst=none) (ai:ef n ⟨dst, .store t a x,ty,pos,af,none⟩=true) (aJ:fy n ⟨dst, .store t a x,ty,pos,af,none⟩=true) (ad:jv c.P n ops l K c.bs bs k) {bL:List Nat} (h:hd c bL dst (.store t a x) fr L m k):
 bB c.P n ops (⟨dst, .store t a x,ty,pos,af,none⟩::l) K (bf bs fr) (bC bs L m):=by
 have jG:hy c.P c.bs dst (.store t a x) fr L m k→bB c.P n ops (⟨dst, .store t a x,ty,pos,af,none⟩::l) K (bf bs fr) (bC bs L m):=fun h=>by
  subst cK;subst ag
  exact h.h new g n ops ty pos af l K ai aJ ad.2
 subst a7
 simp only [hd] at h
 obtain ⟨p,h,e⟩:=eA bs h
 split at h
 · rename_i b off
   obtain ⟨v,h,az,lN⟩:=D7 (bs:=bs) h
   obtain ⟨i,cx,h⟩:=dJ aC h
   split at h
   · rename_i eW kh
     obtain ⟨cs,h,iS,sf,jN⟩:=D9 (bs:=bs) h
     obtain ⟨n3,h⟩:=cY.1 h
     obtain ⟨nj,h⟩:=cY.1 h
     obtain ⟨aY,h,hle,_⟩:=zN (bs:=bs) h lN
     rw [gJ,gJ] at h
     rw [iV] at kh
     have hm:=nn g kh
     have hlen:=LS iS
     rw [az] at iS sf jN hlen
     have zR:=Nat.eq_of_beq_eq_true n3
     have LV:=Nat.le_of_ble_eq_true nj
     refine bB.nK (stl:=[]) (ss:=mq x) (side:=(fl (bc (bf bs fr)) x).ds=true∧((fl (bc (bf bs fr)) x).cells.all aa.one)=true∧(fl (bc (bf bs fr)) x).cells.length=c.P.cellsOf t∧dG c.P t=true∧off+c.P.cellsOf t≤(bl bs eW).length)
      (m':=(bC bs L m).bX (bs.getD b 0) (some (.cells ((bl bs eW).take off++(fl (bc (bf bs fr)) x).cells++(bl bs eW).drop (off+c.P.cellsOf t))))) ai aJ ?_ ⟨sf,jN,by rw [←hlen,zR,cx.cells],cx.is,by rw [cx.cells,kK];exact LV⟩ ?_
     · have cB:bR (bc (bf bs fr)) a= .ptr ⟨bs.getD b 0,off,none⟩:=by rw [←e];simp only [den]
       simp only [ec,cB,hm,fb]
     · have:=ad.same (g.set b (.cells (uu eW cs off i.n))) h
       rw [←mem_set g kh] at this
       simp only [fb,Ea,iS] at this
       rw [cx.cells]
       exact bB.less hle this
   · exact jG h
 · exact jG h
theorem wI {o:br} (g:Good bs L m) {k:Nat→List br→Prop} (h:uv fr L o k) {b:Nat} (ag:bC bs L m b=none):k L.length (L++[o])∧Good (bs++[b]) (L++[o]) m∧bC (bs++[b]) (L++[o]) m=(bC bs L m).bX b (some (fb (bs++[b]) o))∧bf (bs++[b]) fr=bf bs fr∧(bs++[b]).getD L.length 0=b∧lU bs.length L=true:=by
 obtain ⟨I,h⟩:=cY.1 h
 obtain ⟨J,h⟩:=cY.1 h
 rw [←g.len] at I J
 obtain ⟨dH,e⟩:=Le g J ag o
 exact ⟨h,dH,e,we I,by rw [←g.len,List.getD_eq_getElem?_getD,List.getElem?_append_right (Nat.le_refl _)];simp,J⟩
theorem LW (bs hX:List Nat) (z:List Z):bl bs (ju z)=bl hX (ju z):=by
 induction z with
 |nil=>simp only [ju,bl]
 |cons a r aO=>
  simp only [ju,bl,aO]
  cases a<;>simp only [Z.qJ,den]
theorem LX (aC:eO c.P c.T=true) {b0:List Nat} {new:List Nat} (ag:bs=b0++new) (cK:c.bs=b0) (g:Good bs L m) {dst:Option Nat} {t:Nat} {k:cg} (ai:ef n ⟨dst, .alloc t,ty,pos,af,none⟩=true) (aJ:fy n ⟨dst, .alloc t,ty,pos,af,none⟩=true) (ad:jv c.P n ops l K c.bs bs k) {bL:List Nat} (h:hd c bL dst (.alloc t) fr L m k):
 bB c.P n ops (⟨dst, .alloc t,ty,pos,af,none⟩::l) K (bf bs fr) (bC bs L m):=by
 simp only [hd] at h
 obtain ⟨i,cx,h⟩:=dJ aC h
 split at h
 · subst cK;subst ag
   exact h.h new g n ops ty pos af l K ai aJ ad.2
 · rename_i ek
   rw [gJ] at h
   obtain ⟨z,pC,CJ,nc,_⟩:=cx.gQ (fun e=>ek e)
   refine bB.new (stl:=[]) (ss:=[]) (side:=z.ds=true) (mk:=fun b=> .ptr ⟨b,0,none⟩) (o:= .cells z.cells) ai aJ (by simp only [ec,pC]) nc fun b ag=>?_
   obtain ⟨h,dH,ay,az,cB,_⟩:=wI g h ag
   rw [gJ] at h
   obtain ⟨aY,h,fv⟩:=mF (bs:=bs++[b]) h
   have:=ad.more _ dH h
   rw [ay,fv,az] at this
   simp only [fb,den,cB] at this
   rw [LW (bs++[b]) bs,←CJ] at this
   exact this
theorem LY (g:Good bs L m) {dst:Option Nat} {t:Nat} {x:Operand} {k:cg} (ai:ef n ⟨dst, .box t x,ty,pos,af,none⟩=true) (aJ:fy n ⟨dst, .box t x,ty,pos,af,none⟩=true) (ad:jv c.P n ops l K c.bs bs k) {bL:List Nat} (h:hd c bL dst (.box t x) fr L m k):
 bB c.P n ops (⟨dst, .box t x,ty,pos,af,none⟩::l) K (bf bs fr) (bC bs L m):=by
 simp only [hd] at h
 obtain ⟨v,I,az,lN⟩:=D7 (bs:=bs) h
 obtain ⟨cs,J,iS,sf,jN⟩:=D9 (bs:=bs) I
 obtain ⟨aY,ak,hle,_⟩:=zN (bs:=bs) J lN
 obtain ⟨py,aH⟩:=cY.1 ak
 refine qz (stl:=[]) ai aJ ?_
 simp only [jE,ha]
 refine ⟨by rw [←az];exact sf,fun b ag=>?_⟩
 obtain ⟨aQ,dH,ay,cB,fv,_⟩:=wI g aH ag
 rw [gJ] at aQ
 obtain ⟨o4,bw,qS⟩:=mF (bs:=bs++[b]) aQ
 have:=ad.more _ dH bw
 rw [←g.len] at py
 rw [ay,qS,cB] at this
 simp only [fb,den,fv,qH (x:=[b]) py,iS,az] at this
 exact bB.less (hle.put dst (.inl rfl)) this
theorem LZ (aC:eO c.P c.T=true) (g:Good bs L m) {dst:Option Nat} {t:Nat} {k:cg} (ai:ef n ⟨dst, .makeMap t none,ty,pos,af,none⟩=true) (aJ:fy n ⟨dst, .makeMap t none,ty,pos,af,none⟩=true) (ad:jv c.P n ops l K c.bs bs k) {bL:List Nat} (h:hd c bL dst (.makeMap t none) fr L m k):
 bB c.P n ops (⟨dst, .makeMap t none,ty,pos,af,none⟩::l) K (bf bs fr) (bC bs L m):=by
 simp only [hd] at h
 obtain ⟨i,cx,I⟩:=dJ aC h
 obtain ⟨au,J⟩:=cY.1 I
 obtain ⟨ke,fA,eS⟩:∃ke fA,i.k= .mp ke fA:=by cases aG:i.k<;>rw [aG] at au<;>first|exact ⟨_,_,rfl⟩|cases au
 refine bB.new (stl:=[]) (ss:=[]) (side:=True) (mk:=fun b=> .map b) (o:= .map []) ai aJ (by simp only [ec,cx.mp eS];rfl) trivial fun b ag=>?_
 obtain ⟨aQ,dH,ay,cB,fv,_⟩:=wI g J ag
 rw [gJ] at aQ
 obtain ⟨o4,bw,qS⟩:=mF (bs:=bs++[b]) aQ
 have:=ad.more _ dH bw
 rw [ay,qS,cB] at this
 simp only [fb,den,fv] at this
 exact this
theorem toK_go:∀{l:List aT} {k:List aa→Prop},toK.go l k→k (bl bs l)
 |[],_,h=>by simp only [bl];exact h
 | .aI x::r,k,h=>by
   obtain ⟨cD,I⟩:=n1 (k:=fun bD=>toK.go r fun fz=>k (bD::fz)) h
   have:=toK_go (l:=r) I
   simp only [bl,den,cD]
   exact this
 | .b q::r,k,h=>by
   have:=toK_go (l:=r) (k:=fun fz=>k (.bool q.val::fz)) h
   simp only [bl,den]
   exact this
 | .own _::_,_,h| .loc _ _::_,_,h| .ms _ _ _::_,_,h| .mp _::_,_,h| .iB _ _ _ _::_,_,h| .bL _ _ _ _::_,_,h| .agg _::_,_,h| .cM _::_,_,h| .fn _ _ _::_,_,h| .off::_,_,h=>h.elim
theorem L0 {x:aa} {k:aa→Prop} (h:rW x k):x.ds=true:=by
 cases x with
 |tuple l=>exact h.elim
 |lazy g x=>exact h.elim
 |aP=>exact h.elim
 |_=>rfl
theorem toK_sound {v:aT} {k:aa→Prop} (h:toK v k):k (den bs v)∧(den bs v).ds=true:=by
 cases v with
 |aI x=>
  have an:=L0 h
  obtain ⟨e,h⟩:=vZ h
  simp only [den,e]
  exact ⟨h,an⟩
 |b q=>simp only [den];exact ⟨h,rfl⟩
 |agg l=>
  have I:=toK_go (bs:=bs) (l:=l) (k:=fun l'=>k (.agg l')) h
  simp only [den]
  exact ⟨I,rfl⟩
 |_=>exact h.elim
theorem toLK_sound:∀{l:List aT} {k:List aa→Prop},toLK l k→k (bl bs l)∧∀x∈bl bs l,x.ds=true
 |[],_,h=>⟨by simp only [bl];exact h,by simp only [bl];simp⟩
 |v::r,k,h=>by
  obtain ⟨I,an⟩:=toK_sound (bs:=bs) h
  obtain ⟨J,aw⟩:=toLK_sound I
  refine ⟨by simp only [bl];exact J,fun x ao=>?_⟩
  simp only [bl,List.mem_cons] at ao
  rcases ao with rfl|ao
  · exact an
  · exact aw x ao
theorem wJ:∀{ps:List (Nat×Operand)} {k:List (Nat×aT)→Prop},qO fr ps k→∃us,k us∧us.map (fun p=>(p.1,den bs p.2))=ps.map (fun p=>(p.1,bR (bc (bf bs fr)) p.2))
 |[],_,h=>⟨_,h,rfl⟩
 |(i,x)::r,k,h=>by
  obtain ⟨v,I,e⟩:=eA bs h
  obtain ⟨us,J,az⟩:=wJ I
  exact ⟨_,J,by simp only [List.map_cons,e,az]⟩
theorem Ee:∀{ps:List (Nat×aT)} {n:Nat},idxFrom n ps=true→ps.map (·.1)=(List.range ps.length).map (n+·)
 |[],_,_=>rfl
 |(i,v)::r,n,h=>by
  simp only [idxFrom] at h
  cases ag:Nat.beq n i with
  |false=>rw [ag] at h;cases h
  |true=>
   rw [ag] at h
   have:=Ee (ps:=r) (n:=n+1) h
   simp only [List.map_cons,List.length_cons,List.range_succ_eq_map,List.map_map,this,Nat.eq_of_beq_eq_true ag,Nat.add_zero]
   congr 1
   apply List.map_congr_left
   intro a _
   simp only [Function.comp]
   omega
theorem Ef:∀(ps:List (Nat×aT)),nq ps=ps.map (·.2)
 |[]=>rfl
 |(_,v)::r=>by simp only [nq,List.map_cons,Ef r]
theorem Eg (aC:eO c.P c.T=true) {t e:Nat} {i j:gl} (dp:fu c.P t i) (ab:i.k= .bL e) (e5:fu c.P e j) {bW:Nat} {parts:Array (Nat×Operand)} {us:List (Nat×aT)} (he:us.map (fun p=>(p.1,den bs p.2))=parts.toList.map (fun p=>(p.1,bR (bc (bf bs fr)) p.2)))
 (I:idxFrom 0 us=true) (J:Nat.beq us.length bW=true) (ak:Nat.ble (bW*j.n) 16777216=true) (aH:∀x∈bl bs (nq us),x.ds=true) (aQ:((bl bs (nq us)).all fun x=>Nat.beq x.cells.length j.n)=true) {d:Option Nat} {stl:List Nat} (aj:(d.map stl.contains).getD false=false):
 ec c.P m (bc (bf bs fr)) stl d (.buildSlice t bW parts)= .val (dG c.P e=true∧0<c.P.cellsOf e∧jP c.P e=true∧bW*c.P.cellsOf e≤16777216∧parts.toList.map (·.1)=List.range bW∧∀p∈parts.toList,(bR (bc (bf bs fr)) p.2).ds=true∧(bR (bc (bf bs fr)) p.2).cells.length=c.P.cellsOf e) [] m (.slice true (bl bs (nq us)))∧
 (dG c.P e=true∧0<c.P.cellsOf e∧jP c.P e=true∧bW*c.P.cellsOf e≤16777216∧parts.toList.map (·.1)=List.range bW∧∀p∈parts.toList,(bR (bc (bf bs fr)) p.2).ds=true∧(bR (bc (bf bs fr)) p.2).cells.length=c.P.cellsOf e):=by
 obtain ⟨h5,hT,mD,o1⟩:=dp.bL ab
 have ba:bl bs (nq us)=parts.toList.map fun p=>bR (bc (bf bs fr)) p.2:=by
  have:=congrArg (List.map Prod.snd) he
  simp only [List.map_map] at this
  rw [lg,Ef,List.map_map]
  exact this
 have L1:parts.toList.map (·.1)=us.map (·.1):=by
  have:=congrArg (List.map Prod.fst) he
  simp only [List.map_map] at this
  exact this.symm
 refine ⟨by simp only [ec,aj,h5,ba];rfl,hT,mD,o1,by rw [e5.cells];exact Nat.le_of_ble_eq_true ak,?_,fun p aB=>?_⟩
 · rw [L1,Ee I,←Nat.eq_of_beq_eq_true J]
   simp
 · have hm:bR (bc (bf bs fr)) p.2∈bl bs (nq us):=by rw [ba];exact List.mem_map_of_mem (f:=fun p=>bR (bc (bf bs fr)) p.2) aB
   refine ⟨aH _ hm,?_⟩
   rw [List.all_eq_true] at aQ
   rw [e5.cells]
   exact Nat.eq_of_beq_eq_true (aQ _ hm)
theorem L2 {v:aT} {k:List aT→Prop} (h:pM.zD v k):∃u,k u∧bl bs u=(den bs v).cells∧(den bs v).ds=true:=by
 cases v with
 |agg l=>exact ⟨_,h,by simp only [den,aa.cells],rfl⟩
 |aI x=>
  cases x with
  |agg l=>
   simp only [pM.zD] at h
   rw [gJ] at h
   exact ⟨_,h,by simp only [den,aa.plain,aa.cells,wH],by simp only [den,aa.plain,aa.ds]⟩
  |tuple l=>exact h.elim
  |lazy g x=>exact h.elim
  |aP=>exact h.elim
  |slice o l=>
   obtain ⟨e,h⟩:=n1 (k:=fun bD=>k [.aI bD]) h
   exact ⟨_,h,by simp only [den,bl,aa.plain,aa.cells],by simp only [den,aa.plain,aa.ds]⟩
  |_=>exact ⟨_,h,by simp only [den,bl,aa.plain,aa.cells],by simp only [den,aa.plain,aa.ds]⟩
 |cM l=>exact h.elim
 |off=>exact h.elim
 |_=>exact ⟨_,h,by simp only [den,bl,aa.cells],by simp only [den,aa.ds]⟩
theorem Eh (aC:eO c.P c.T=true) {cj:List (Nat×Nat)} {dr:Array Field} (iR:dr.toList.map (fun f=>(f.offset,f.type))=cj):∀{us:List (Nat×aT)} {cs:List aT} {k:List aT→Prop},pM c.T cj us cs k→
 ∃cells,k cells∧k8 (fun i=>(dr[i]?).map fun f=>(f.offset,c.P.cellsOf f.type)) (bl bs cs) (us.map fun p=>(p.1,den bs p.2))=some (bl bs cells)∧∀p∈us,(den bs p.2).ds=true
 |[],cs,k,h=>⟨_,h,rfl,by simp⟩
 |(i,v)::r,cs,k,h=>by
  simp only [pM] at h
  cases aJ:nth cj i with
  |none=>rw [aJ] at h;exact h.elim
  |some q=>
   obtain ⟨off,t⟩:=q
   rw [aJ] at h
   obtain ⟨j,e5,I⟩:=dJ aC h
   obtain ⟨vs,J,nO,sf⟩:=L2 (bs:=bs) I
   obtain ⟨n3,ak⟩:=cY.1 J
   obtain ⟨nj,aH⟩:=cY.1 ak
   rw [gJ] at aH
   obtain ⟨cells,aQ,e,an⟩:=Eh aC iR aH
   have aM:(dr[i]?).map (fun f=>(f.offset,c.P.cellsOf f.type))=some (off,j.n):=by
    rw [iV,←iR,List.getElem?_map] at aJ
    cases aS:dr.toList[i]? with
    |none=>rw [aS] at aJ;cases aJ
    |some fd=>
     rw [aS] at aJ
     simp only [Option.map_some,Option.some.injEq,Prod.mk.injEq] at aJ
     obtain ⟨rfl,rfl⟩:=aJ
     have:dr[i]?=some fd:=by simpa using aS
     rw [this]
     simp only [Option.map_some,e5.cells]
   refine ⟨cells,aQ,?_,fun p aB=>?_⟩
   · simp only [List.map_cons,k8,aM]
     have av:(den bs v).cells.length=j.n:=by rw [←nO,kK];exact Nat.eq_of_beq_eq_true n3
     rw [if_pos ⟨av,by rw [kK];exact Nat.le_of_ble_eq_true nj⟩,←nO,←Ea]
     exact e
   · rcases List.mem_cons.1 aB with rfl|aB
     · exact sf
     · exact an p aB
theorem Ei (aC:eO c.P c.T=true) {t:Nat} {i:gl} (dp:fu c.P t i) {cj:List (Nat×Nat)} (ab:i.k= .st cj) (au:i.z≠[]) {parts:Array (Nat×Operand)} {k:List aT→Prop} (h:qO fr parts.toList fun ps=>pM c.T cj ps (ju i.z) k) {d:Option Nat} {stl:List Nat} (aj:(d.map stl.contains).getD false=false):
 ∃cells side,k cells∧ec c.P m (bc (bf bs fr)) stl d (.build t parts)= .val side [] m (.agg (bl bs cells))∧side:=by
 obtain ⟨dr,h5,hT,mD⟩:=dp.st ab
 obtain ⟨z,jX,z2,z3,_⟩:=dp.gQ (bs:=bs) au
 obtain ⟨us,I,e⟩:=wJ (bs:=bs) h
 obtain ⟨cells,J,az,an⟩:=Eh (bs:=bs) aC hT I
 refine ⟨cells,z.ds=true∧(∀f∈dr.toList,dG c.P f.type=true)∧∀p∈parts.toList,(bR (bc (bf bs fr)) p.2).ds=true,J,?_,?_⟩
 · rw [e,←z2] at az
   simp only [ec,aj,h5,jX,az]
   rfl
 · refine ⟨z3,fun f aM=>(mD f aM).1,fun p aB=>?_⟩
   have hm:(p.1,bR (bc (bf bs fr)) p.2)∈us.map (fun p=>(p.1,den bs p.2)):=by rw [e];exact List.mem_map_of_mem (f:=fun p=>(p.1,bR (bc (bf bs fr)) p.2)) aB
   obtain ⟨q,aS,Ej⟩:=List.mem_map.1 hm
   have:=an q aS
   simp only [Prod.mk.injEq] at Ej
   rw [←Ej.2];exact this
end
end Go.b4
end
section
namespace Go.b4
open Go Go.bb
section
variable {c:fF} {n:Nat} {fr:bM} {L:List br} {m:ae} {K:Fr→ae→Prop} {ops:Array Oper} {l:List Oper} {ty:TypeId} {pos:String} {af:Array Edge}
theorem L3 {bs:List Nat} (aC:eO c.P c.T=true) (g:Good bs L m) {dst:Option Nat} {t:Nat} {parts:Array (Nat×Operand)} {k:cg} (ai:ef n ⟨dst, .build t parts,ty,pos,af,none⟩=true) (aJ:fy n ⟨dst, .build t parts,ty,pos,af,none⟩=true) (ad:jv c.P n ops l K c.bs bs k) {bL:List Nat} (jG:hy c.P c.bs dst (.build t parts) fr L m k→bB c.P n ops (⟨dst, .build t parts,ty,pos,af,none⟩::l) K (bf bs fr) (bC bs L m)) (h:hd c bL dst (.build t parts) fr L m k):
 bB c.P n ops (⟨dst, .build t parts,ty,pos,af,none⟩::l) K (bf bs fr) (bC bs L m):=by
 simp only [hd] at h
 cases ns:pN c dst with
 |true=>rw [ns] at h;exact jG h
 |false=>
 rw [ns] at h
 obtain ⟨i,dp,I⟩:=dJ aC h
 cases ab:i.k with
 |st cj=>
  rw [ab] at I
  obtain ⟨au,J⟩:=cY.1 I
  rw [gJ] at J
  obtain ⟨cells,side,ak,aN,aj⟩:=Ei (bs:=bs) (m:=bC bs L m) (stl:=[]) (d:=dst) aC dp ab (by intro e;rw [e] at au;cases au) J (by cases dst<;>rfl)
  obtain ⟨aY,aH,e⟩:=mF (bs:=bs) ak
  refine bB.val (stl:=[]) ai aJ aN aj ?_
  have:=ad.same g aH
  rw [e] at this
  simp only [den] at this
  exact this
 |_=>rw [ab] at I;exact I.elim
theorem L4 {b0 new:List Nat} (aC:eO c.P c.T=true) (cK:c.bs=b0) (g:Good (b0++new) L m) {dst:Option Nat} {t bW:Nat} {parts:Array (Nat×Operand)} {k:cg} (ai:ef n ⟨dst, .buildSlice t bW parts,ty,pos,af,none⟩=true) (aJ:fy n ⟨dst, .buildSlice t bW parts,ty,pos,af,none⟩=true) (ad:jv c.P n ops l K c.bs (b0++new) k) {bL:List Nat} (h:hd c bL dst (.buildSlice t bW parts) fr L m k):
 bB c.P n ops (⟨dst, .buildSlice t bW parts,ty,pos,af,none⟩::l) K (bf (b0++new) fr) (bC (b0++new) L m):=by
 simp only [hd] at h
 cases dst with
 |none=>exact h.elim
 |some d=>
  simp only at h
  cases aj:has bL d with
  |true=>
   rw [aj] at h
   subst cK
   exact h.h new g n ops ty pos af l K ai aJ ad.2
  |false=>
   rw [aj] at h
   obtain ⟨i,dp,I⟩:=dJ aC h
   unfold iW at I
   cases ab:i.k with
   |bL e=>
    rw [ab] at I
    obtain ⟨j,e5,J⟩:=dJ aC I
    obtain ⟨us,ak,he⟩:=wJ (bs:=b0++new) J
    obtain ⟨h7,aH⟩:=cY.1 ak
    obtain ⟨c2,aQ⟩:=cY.1 aH
    obtain ⟨c3,bw⟩:=cY.1 aQ
    obtain ⟨db,an⟩:=toLK_sound (bs:=b0++new) bw
    obtain ⟨c4,cA⟩:=cY.1 db
    obtain ⟨aN,tK⟩:=Eg (bs:=b0++new) (m:=bC (b0++new) L m) (stl:=[]) (d:=some d) aC dp ab e5 he h7 c2 c3 an c4 rfl
    refine bB.val (stl:=[]) ai aJ aN tK ?_
    have:=ad.same g cA
    simp only [bf,den] at this
    exact this
   |_=>rw [ab] at I;exact I.elim
theorem Ek {b0 new:List Nat} (cK:c.bs=b0) (g:Good (b0++new) L m) {dst:Option Nat} {op:Op} {f:FuncId} {vs:List aT} {k:cg} (ai:ef n ⟨dst,op,ty,pos,af,none⟩=true) (aJ:fy n ⟨dst,op,ty,pos,af,none⟩=true) (ad:jv c.P n ops l K c.bs (b0++new) k)
 (aN:ec c.P (bC (b0++new) L m) (bc (bf (b0++new) fr)) [] dst op= .call f (bl (b0++new) vs)) (h:n2 c.P c.bs f vs fr L m fun y bK m'=>jF dst y fr fun fr=>k fr bK m'):
 bB c.P n ops (⟨dst,op,ty,pos,af,none⟩::l) K (bf (b0++new) fr) (bC (b0++new) L m):=by
 subst cK
 obtain ⟨σ,fP,L5,L6,L7,I,CS,tt⟩:=h
 refine tw (stl:=[]) ai aJ ?_
 simp only [mr,aN]
 refine I new g _ fun x ao dz dH=>?_
 have J:=CS x
 have ak:=tt x ao
 generalize L5 x=y at ak ⊢
 generalize L6 x=bK at J ak dH ⊢
 generalize L7 x=aq at ak dH ⊢
 obtain ⟨aY,aH,e⟩:=mF (bs:=c.bs++new++dz) ak
 have:=ad.more dz dH aH
 rw [e] at this
 have az:bf (c.bs++new++dz) fr=bf (c.bs++new) fr:=by
  cases ag:Nat.beq bK.length L.length with
  |true=>
   have av:bK.length=L.length:=Nat.eq_of_beq_eq_true ag
   have aQ:=dH.len
   have bw:=g.len
   have:dz=[]:=by
    apply List.eq_nil_of_length_eq_zero
    simp only [List.length_append] at aQ bw
    omega
   rw [this,List.append_nil]
  |false=>
   rw [ag] at J
   rw [←g.len] at J
   exact we J
 rw [az] at this
 cases dst with
 |none=>exact this
 |some d=>exact this
theorem L8 {b0 new:List Nat} (aC:eO c.P c.T=true) (cK:c.bs=b0) (g:Good (b0++new) L m) {dst:Option Nat} {args:Array Operand} {bd:Array TypeId} {k:cg} (ai:ef n ⟨dst, .call ⟨.builtin .append,args,bd⟩,ty,pos,af,none⟩=true) (aJ:fy n ⟨dst, .call ⟨.builtin .append,args,bd⟩,ty,pos,af,none⟩=true) (ad:jv c.P n ops l K c.bs (b0++new) k) {bL:List Nat} (h:hd c bL dst (.call ⟨.builtin .append,args,bd⟩) fr L m k):
 bB c.P n ops (⟨dst, .call ⟨.builtin .append,args,bd⟩,ty,pos,af,none⟩::l) K (bf (b0++new) fr) (bC (b0++new) L m):=by
 have jG:hy c.P c.bs dst (.call ⟨.builtin .append,args,bd⟩) fr L m k→bB c.P n ops (⟨dst, .call ⟨.builtin .append,args,bd⟩,ty,pos,af,none⟩::l) K (bf (b0++new) fr) (bC (b0++new) L m):=fun h=>by
  subst cK
  exact h.h new g n ops ty pos af l K ai aJ ad.2
 simp only [hd] at h
 split at h
 · rename_i s y t u d aN an
   rw [lh] at h
   obtain ⟨w,I,e⟩:=eA (b0++new) h
   split at I
   · rename_i o5 o l' ba
     obtain ⟨i,dp,J⟩:=dJ aC I
     unfold iW at J
     cases ab:i.k with
     |bL fA=>
      rw [ab] at J
      obtain ⟨j,e5,ak⟩:=dJ aC J
      obtain ⟨h7,aH⟩:=cY.1 ak
      refine aH.h.elim (fun aH=>?_) jG
      clear ak
      obtain ⟨⟨bZ,bo,gK,iT⟩,aQ⟩:=aH
      obtain rfl:=Nat.eq_of_beq_eq_true h7
      obtain ⟨h5,hT,mD,o1⟩:=dp.bL ab
      have aw:=kp (b0++new) fr s
      rw [ba] at aw
      simp only [den,aa.plain] at aw e
      refine bB.val (stl:=[]) (ss:=[s]) (side:=t=t∧dG c.P fA=true∧0<c.P.cellsOf fA∧jP c.P fA=true∧(o5.length+l'.length)*c.P.bytesOf fA≤140737488355328∧o5.length+l'.length≤140737488355328∧(∀x∈o5,x.cells.length=c.P.cellsOf fA)∧∀x∈l',x.cells.length=c.P.cellsOf fA∧x.cells.all aa.one=true) (m':=bC (b0++new) L m) (x:= .slice true (o5++l')) ai aJ ?_ ?_ ?_
      · simp only [ec,aN,an,h5,aw,←e]
      · rw [e5.bytes,e5.cells]
        exact ⟨rfl,hT,e5.cells▸mD,o1,bZ,bo,gK,iT⟩
      · have:=ad.same g aQ
        simp only [bf,den,aa.plain] at this
        simp only [Fr.strip,Fr.put,dX,aw,aa.plain]
        exact this
     |_=>rw [ab] at J;exact J.elim
   · exact jG I
 · rename_i y t u d aN an
   obtain ⟨w,I,e⟩:=eA (b0++new) h
   split at I
   · rename_i o l'
     obtain ⟨i,dp,J⟩:=dJ aC I
     unfold iW at J
     cases ab:i.k with
     |bL fA=>
      rw [ab] at J
      obtain ⟨j,e5,ak⟩:=dJ aC J
      obtain ⟨h7,aH⟩:=cY.1 ak
      refine aH.h.elim (fun aH=>?_) jG
      clear ak
      obtain ⟨⟨bZ,bo,gK,iT⟩,aQ⟩:=aH
      obtain rfl:=Nat.eq_of_beq_eq_true h7
      obtain ⟨h5,hT,mD,o1⟩:=dp.bL ab
      simp only [den,aa.plain] at e
      refine bB.val (stl:=[]) (ss:=[]) (side:=t=t∧dG c.P fA=true∧0<c.P.cellsOf fA∧jP c.P fA=true∧l'.length*c.P.bytesOf fA≤140737488355328∧∀x∈l',x.cells.length=c.P.cellsOf fA∧x.cells.all aa.one=true) (m':=bC (b0++new) L m) (x:= .slice true l') ai aJ ?_ ?_ ?_
      · simp only [ec,aN,an,h5,←e]
      · rw [e5.bytes,e5.cells]
        simp only [List.length_nil,Nat.zero_add] at bZ
        exact ⟨rfl,hT,e5.cells▸mD,o1,bZ,iT⟩
      · have:=ad.same g aQ
        simp only [bf,den,List.nil_append] at this
        exact this
     |_=>rw [ab] at J;exact J.elim
   · exact jG I
 · exact h.elim
set_option maxHeartbeats 4000000 in
theorem L9 {b0 new:List Nat} (aC:eO c.P c.T=true) (cK:c.bs=b0) (g:Good (b0++new) L m) {dst:Option Nat} {op:Op} {k:cg} (a7:∀t a x,op= .store t a x→dst=none) (ai:ef n ⟨dst,op,ty,pos,af,none⟩=true) (aJ:fy n ⟨dst,op,ty,pos,af,none⟩=true) (ad:jv c.P n ops l K c.bs (b0++new) k) {bL:List Nat} (h:hd c bL dst op fr L m k):
 bB c.P n ops (⟨dst,op,ty,pos,af,none⟩::l) K (bf (b0++new) fr) (bC (b0++new) L m):=by
 have jG:hy c.P c.bs dst op fr L m k→bB c.P n ops (⟨dst,op,ty,pos,af,none⟩::l) K (bf (b0++new) fr) (bC (b0++new) L m):=fun h=>by
  subst cK
  exact h.h new g n ops ty pos af l K ai aJ ad.2
 have aL:=h
 unfold hd at h
 split at h
 · exact LP g ai aJ ad aL
 · exact LQ g ai aJ ad aL
 · exact LR g ai aJ ad aL
 · exact s4 aC rfl cK g ai aJ ad aL
 · exact LU aC rfl cK g (a7 _ _ _ rfl) ai aJ ad aL
 · exact LX aC rfl cK g ai aJ ad aL
 · exact LY g ai aJ ad aL
 · exact LZ aC g ai aJ ad aL
 · exact L3 aC g ai aJ ad jG aL
 · exact L4 aC cK g ai aJ ad aL
 ·
  obtain ⟨us,I,ay⟩:=rX (b0++new) h
  obtain ⟨vs,J,az⟩:=rX (b0++new) I
  cases dst with
  |none=>exact J.elim
  |some d=>
   have aS:=ad.same g J
   simp only [bf,den,ay,az] at aS
   have:=KO (P:=c.P) (ops:=ops) (stl:=[]) (r:=[]) (K:=bB c.P n ops l K) (fr:=bf (b0++new) fr) (m:=bC (b0++new) L m) (d:=d) (ty:=ty) (pos:=pos) (af:=af) (gd:=none) rfl rfl rfl aS
   exact qz ai aJ this
 · obtain ⟨q,I,ay⟩:=eA (b0++new) h
   refine qz (stl:=[]) ai aJ ?_
   split at I
   · obtain ⟨u,J,az⟩:=eA (b0++new) I
     obtain ⟨aY,ak,cB⟩:=mF (bs:=b0++new) J
     have aS:=ad.same g ak
     rw [cB,az] at aS
     simp only [den,bT.val] at ay
     simp only [jE,ha,←ay]
     exact aS
   · obtain ⟨u,J,az⟩:=eA (b0++new) I
     obtain ⟨aY,ak,cB⟩:=mF (bs:=b0++new) J
     have aS:=ad.same g ak
     rw [cB,az] at aS
     simp only [den,bT.val] at ay
     simp only [jE,ha,←ay]
     exact aS
   · exact I.elim
 · exact L8 aC cK g ai aJ ad aL
 · cases ns:pN c dst with
   |true=>simp only [ns] at h;exact jG h
   |false=>
    simp only [ns] at h
    obtain ⟨us,I,ay⟩:=rX (b0++new) h
    exact Ek cK g ai aJ ad (by simp only [ec,ay]) I
 · rw [lh] at h
   split at h
   · rename_i t args _ _ f a wv ba
     obtain ⟨us,I,ay⟩:=rX (b0++new) h
     rw [gJ] at I
     refine Ek cK g ai aJ ad ?_ I
     have aw:=kp (b0++new) fr t
     rw [ba] at aw
     simp only [den] at aw
     simp only [ec,aw,lg,List.map_append]
     rw [lg] at ay
     rw [ay]
   · exact jG h
 all_goals first|exact jG h|skip
 · cases ns:pN c dst with
   |true=>simp only [ns] at h;exact jG h
   |false=>
    simp only [ns] at h
    cases dst with
    |none=>exact h.elim
    |some d=>exact Ec aC g ai ad h
 cases dst with
 |none=>exact h.elim
 |some d=>exact Ec aC g ai ad h
end
end Go.b4
end
section
namespace Go.b4
open Go Go.bb
section
variable {c:fF} {n:Nat} {L:List br} {m:ae} {K:Fr→ae→Prop} {ops:Array Oper} {l:List Oper} {bs:List Nat}
theorem uE {t:Nat} {v:aT}:∀{fr:bM} {k:bM→Prop},nr fr t v k→den bs v=den bs (dU fr t)→∃aY,k aY∧bf bs aY=bf bs fr
 |[],_,h,_=>⟨_,h,rfl⟩
 |(s,x)::r,k,h,e=>by
  simp only [nr] at h
  simp only [dU] at e
  cases ag:Nat.beq s t with
  |true=>
   rw [ag] at h e
   exact ⟨_,h,by simp only [bf];rw [show den bs v=den bs x from e]⟩
  |false=>
   rw [ag] at h e
   obtain ⟨aY,cm,bY⟩:=uE (fr:=r) h e
   exact ⟨_,cm,by simp only [bf,bY]⟩
theorem El {gd:Option (Nat×Bool)} {fr:bM} {on off:bM→Prop} (h:sb ops.toList gd fr on off):
 (ha ops (bf bs fr) gd=some true∧∃aY,on aY∧bf bs aY=bf bs fr)∨(ha ops (bf bs fr) gd=some false∧∃aY,off aY∧bf bs aY=bf bs fr):=by
 cases gd with
 |none=>exact .inl ⟨rfl,_,h,rfl⟩
 |some yM=>
  obtain ⟨j,b⟩:=yM
  simp only [sb] at h
  rw [iV,Array.getElem?_toList] at h
  cases a8:(ops[j]?).bind (·.dst) with
  |none=>rw [a8] at h;exact h.elim
  |some g=>
   rw [a8] at h
   simp only at h
   rw [lh] at h
   have aw:=kp bs fr g
   have zS:∀x,bc (bf bs fr) g=x→ha ops (bf bs fr) (some (j,b))=pF x b:=fun x e=>by simp only [ha,a8,e]
   have key:∀(q:bT),dU fr g= .b q→(b=true→q.ways (nr fr g (.b (.lit true)) on) (nr fr g (.b (.lit false)) off))→(b=false→q.ways (nr fr g (.b (.lit true)) off) (nr fr g (.b (.lit false)) on))→
    (ha ops (bf bs fr) (some (j,b))=some true∧∃aY,on aY∧bf bs aY=bf bs fr)∨(ha ops (bf bs fr) (some (j,b))=some false∧∃aY,off aY∧bf bs aY=bf bs fr):=fun q aS fa eg=>by
    have a7:den bs (dU fr g)= .bool q.val:=by rw [aS];simp only [den]
    rw [zS (.bool q.val) (aw.trans a7)]
    cases ag:b with
    |true=>
     obtain ⟨cf,dQ⟩:=q.tX (fa ag)
     cases ba:q.val with
     |true=>exact .inl ⟨rfl,uE (cf ba) (by rw [a7,ba];simp only [den,bT.val])⟩
     |false=>exact .inr ⟨rfl,uE (dQ ba) (by rw [a7,ba];simp only [den,bT.val])⟩
    |false=>
     obtain ⟨cf,dQ⟩:=q.tX (eg ag)
     cases ba:q.val with
     |true=>exact .inr ⟨rfl,uE (cf ba) (by rw [a7,ba];simp only [den,bT.val])⟩
     |false=>exact .inl ⟨rfl,uE (dQ ba) (by rw [a7,ba];simp only [den,bT.val])⟩
   cases aj:dU fr g with
   |b q=>
    rw [aj] at h
    cases q with
    |lit z=>
     have a7:bc (bf bs fr) g= .bool z:=by rw [aw,aj];simp only [den,bT.val]
     rw [zS _ a7]
     cases z<;>cases b<;>first|exact .inl ⟨rfl,_,h,rfl⟩|exact .inr ⟨rfl,_,h,rfl⟩
    |_=>exact key _ aj (fun e=>by subst e;exact h) (fun e=>by subst e;exact h)
   |off=>
    rw [aj] at h
    have a7:bc (bf bs fr) g= .lazy false .aP:=by rw [aw,aj];simp only [den]
    rw [zS _ a7]
    refine .inr ⟨?_,_,h,rfl⟩
    cases b<;>rfl
   |_=>rw [aj] at h;exact h.elim
def qT (o:Oper):Bool:=
 match o.op,o.dst with
 | .store _ _ _,some _=>false
 |_,_=>true
theorem Ma {o:Oper} (h:qT o=true):∀t a x,o.op= .store t a x→o.dst=none:=by
 intro t a x e
 unfold qT at h
 rw [e] at h
 cases a7:o.dst with
 |none=>rfl
 |some d=>rw [a7] at h;cases h
theorem sg {b0:List Nat} (aC:eO c.P c.T=true) (cK:c.bs=b0) {bL:List Nat}:∀(l:List Oper) {fr:bM} {L:List br} {m:ae} {new:List Nat} {k:cg},(∀o∈l,ef n o=true∧fy n o=true∧qT o=true)→Good (b0++new) L m→
 pO c ops.toList bL l fr L m k→(∀aY bK m' dz,Good (b0++dz) bK m'→k aY bK m'→K (bf (b0++dz) aY) (bC (b0++dz) bK m'))→bB c.P n ops l K (bf (b0++new) fr) (bC (b0++new) L m)
 |[],fr,L,m,new,k,_,g,h,ad=>bB.nil (ad fr L m new g h)
 |o::r,fr,L,m,new,k,dh,g,h,ad=>by
  obtain ⟨dst,op,ty,pos,af,gd⟩:=o
  obtain ⟨I,J,ak⟩:=dh _ (List.mem_cons_self ..)
  rw [Ly] at h
  rcases El (bs:=b0++new) h with ⟨a8,aY,h,e⟩|⟨a8,aY,h,e⟩
  · refine bB.LJ a8 ?_
    rw [←e]
    refine L9 aC cK g (Ma (o:=⟨dst,op,ty,pos,af,gd⟩) ak) I J ⟨by rw [cK];exact List.prefix_append _ _,fun o4 yW m2 SD aB g2 h=>?_⟩ h
    obtain ⟨dz,rfl⟩:=aB
    rw [cK] at g2 ⊢
    exact sg aC cK r (new:=dz) (fun o aD=>dh o (List.mem_cons_of_mem _ aD)) g2 h ad
  · refine bB.LK a8 I ?_
    rw [←e]
    obtain ⟨o4,h,az⟩:=mF (bs:=b0++new) h
    have:=sg aC cK r (new:=new) (fun o aD=>dh o (List.mem_cons_of_mem _ aD)) g h ad
    rw [az] at this
    simp only [den] at this
    exact this
theorem Mb {b0 new:List Nat} (aC:eO c.P c.T=true) (cK:c.bs=b0) (g:Good (b0++new) L m) {o:Oper} {fr:bM} {k:bM→Prop} (h:wx c o.dst o.op fr L m k):
 ∃cv side x,jD c.P (bC (b0++new) L m) cv (bc (bf (b0++new) fr)) o=some (side,x)∧side∧∃aY,k aY∧bf (b0++new) aY=dX (bf (b0++new) fr) o.dst x:=by
 obtain ⟨dst,op,ty,pos,af,gd⟩:=o
 cases dst with
 |none=>exact h.elim
 |some d=>
  simp only [wx] at h
  split at h
  · subst cK
    obtain ⟨us,I,e⟩:=rX (c.bs++new) h
    obtain ⟨y,J,ak⟩:=I
    obtain ⟨cv,aH,aQ⟩:=J new g
    refine ⟨cv,_,_,by simp only [jD];rfl,?_,_,ak,?_⟩
    · rw [←e];exact aH
    · simp only [bf,dX,Fr.put,aQ]
  · rename_i t parts
    obtain ⟨i,dp,I⟩:=dJ aC h
    cases ab:i.k with
    |st cj=>
     rw [ab] at I
     obtain ⟨au,J⟩:=cY.1 I
     rw [gJ] at J
     obtain ⟨cells,side,ak,aN,aj⟩:=Ei (bs:=b0++new) (m:=bC (b0++new) L m) (stl:=[]) (d:=some d) aC dp ab (by intro e;rw [e] at au;cases au) J rfl
     obtain ⟨u,aH,e⟩:=rU (b0++new) ak
     refine ⟨.aP,side,(aa.agg (bl (b0++new) cells)).plain,by simp only [jD,aN],aj,_,aH,?_⟩
     simp only [bf,den,dX,Fr.put,aa.plain,e]
    |_=>rw [ab] at I;exact I.elim
  · rename_i t bW parts
    obtain ⟨i,dp,I⟩:=dJ aC h
    unfold iW at I
    cases ab:i.k with
    |bL e=>
     rw [ab] at I
     obtain ⟨j,e5,J⟩:=dJ aC I
     obtain ⟨us,ak,he⟩:=wJ (bs:=b0++new) J
     obtain ⟨h7,aH⟩:=cY.1 ak
     obtain ⟨c2,aQ⟩:=cY.1 aH
     obtain ⟨c3,bw⟩:=cY.1 aQ
     obtain ⟨db,an⟩:=toLK_sound (bs:=b0++new) bw
     obtain ⟨c4,cA⟩:=cY.1 db
     obtain ⟨aN,tK⟩:=Eg (bs:=b0++new) (m:=bC (b0++new) L m) (stl:=[]) (d:=some d) aC dp ab e5 he h7 c2 c3 an c4 rfl
     refine ⟨.aP,_,(aa.slice true (bl (b0++new) (nq us))).plain,by simp only [jD,aN],tK,_,cA,?_⟩
     simp only [bf,den,dX,Fr.put,aa.plain]
    |_=>rw [ab] at I;exact I.elim
  · obtain ⟨q,I,ay⟩:=eA (b0++new) h
    split at I
    · obtain ⟨u,J,az⟩:=eA (b0++new) I
      simp only [den,bT.val] at ay
      exact ⟨.aP,True,_,by simp only [jD,←ay];rfl,trivial,_,J,by simp only [bf,dX,Fr.put,az]⟩
    · obtain ⟨u,J,az⟩:=eA (b0++new) I
      simp only [den,bT.val] at ay
      exact ⟨.aP,True,_,by simp only [jD,←ay];rfl,trivial,_,J,by simp only [bf,dX,Fr.put,az]⟩
    · exact I.elim
  · rename_i jn e3 mG mH
    obtain ⟨side,z,u,aS,aj,rfl,I⟩:=D3 (P:=c.P) (bs:=b0++new) (m:=m) aC g h
    refine ⟨.aP,side,_,?_,aj,_,I,rfl⟩
    rw [←aS]
    unfold jD
    split
    · rename_i e;exact (jn _ _ _ e).elim
    · rename_i e;exact (mG _ _ _ e).elim
    · rename_i e;exact (e3 _ _ e).elim
    · rename_i e;exact (mH _ _ _ e).elim
    · rfl
theorem zT {b0 new:List Nat} (aC:eO c.P c.T=true) (cK:c.bs=b0) (g:Good (b0++new) L m):∀(l:List Oper) {fr:bM} {k:bM→Prop},uw c ops.toList l fr L m k→
 ∃cs,lP c.P ops (bC (b0++new) L m) cs l (bf (b0++new) fr) (fun f=>∃aY,f=bf (b0++new) aY∧k aY)
 |[],fr,k,h=>⟨[],_,rfl,h⟩
 |o::r,fr,k,h=>by
  rw [Lz] at h
  rcases El (bs:=b0++new) h with ⟨a8,aY,h,e⟩|⟨a8,aY,h,e⟩
  · obtain ⟨cv,side,x,I,J,o4,ak,az⟩:=Mb aC cK g h
    obtain ⟨cs,aH⟩:=zT aC cK g r ak
    rw [az,e] at aH
    rw [e] at I
    by_cases ah:∃f args bd,o.op= .call ⟨.value (.func f),args,bd⟩
    · obtain ⟨f,args,bd,cB⟩:=ah
      refine ⟨cv::cs,?_⟩
      simp only [lP,List.headD_cons]
      rw [Dl a8,I]
      simp only [cB,List.tail_cons]
      exact ⟨J,aH⟩
    · have y7:jD c.P (bC (b0++new) L m) (cs.headD .aP) (bc (bf (b0++new) fr)) o=some (side,x):=by
       rw [←I]
       unfold jD
       split
       · rename_i cB;exact absurd ⟨_,_,_,cB⟩ ah
       all_goals rfl
      refine ⟨cs,?_⟩
      simp only [lP]
      rw [Dl a8,y7]
      refine ⟨J,?_⟩
      split
      · rename_i cB;exact absurd ⟨_,_,_,cB⟩ ah
      · exact aH
  · obtain ⟨o4,ak,az⟩:=mF (bs:=b0++new) h
    obtain ⟨cs,aH⟩:=zT aC cK g r ak
    rw [az,e] at aH
    simp only [den] at aH
    by_cases ah:∃f args bd,o.op= .call ⟨.value (.func f),args,bd⟩
    · obtain ⟨f,args,bd,cB⟩:=ah
      refine ⟨.aP::cs,?_⟩
      simp only [lP]
      rw [Dm a8]
      simp only [cB,List.tail_cons]
      exact ⟨trivial,aH⟩
    · refine ⟨cs,?_⟩
      simp only [lP]
      rw [Dm a8]
      refine ⟨trivial,?_⟩
      split
      · rename_i cB;exact absurd ⟨_,_,_,cB⟩ ah
      · exact aH
theorem Em:∀{hU:List (Nat×Nat)} {fr:bM} {k:bM→Prop},wy hU fr k→∃aY,k aY∧bf bs aY=(bf bs fr).alias hU
 |[],_,_,h=>⟨_,h,rfl⟩
 |(d,s)::r,fr,k,h=>by
  simp only [wy] at h
  rw [lh] at h
  obtain ⟨aJ,I⟩:=cY.1 h
  obtain ⟨u,J,e⟩:=rV bs aJ I
  obtain ⟨aY,ak,az⟩:=Em J
  refine ⟨aY,ak,?_⟩
  rw [az]
  simp only [bf,Fr.alias,Fr.put,kp,e]
section
variable {P:Program} {fr:Fr} {Q gP:Exit→Fr→ae→Prop} {hf:Code}
theorem cV.kO (aS:∀e fr m,Q e fr m→∃aY m',gb aY fr∧(∀b o,m' b=some o→m b=some o)∧gP e aY m') (h:cV P n hf Q fr m):cV P n hf gP fr m:=fun F lim w ca st=>
 wp_mono (h F lim w ca st) fun e _ _ ⟨l,f,aq,q,fk,cN⟩=>by
  obtain ⟨eI,m',I,J,ak⟩:=aS e f aq q
  exact ⟨l,eI,m',ak,(aV.less fk I).qd J,cN⟩
theorem cV.En {m':ae} (aj:∀b o,m' b=some o→m b=some o) (h:cV P n hf Q fr m'):cV P n hf Q fr m:=fun F lim w ca st=>h F lim w ca (st.qd aj)
theorem bB.dv (h:bB P n ops l K fr m):bB P n ops l (fun f m=>(∀t x,f.get t=some x→t<n)∧K f m) fr m:=fun F lim w ca uF st aS=>
 h F lim w ca uF st fun lim' w' f m' dw ai fk cN=>aS lim' w' f m' dw ⟨fun t x ao=>by obtain ⟨_,_,_,s⟩:=fk;exact (s.dv t x ao).1,ai⟩ fk cN
theorem Eo {f:Fr} {t:Nat}:∀{ks:List Nat},t∈ks→(Fr.keep ks f).get t=some ((f.get t).getD .aP)
 |s::r,h=>by
  simp only [Fr.keep,List.map_cons,Fr.get]
  by_cases e:s=t
  · subst e;rw [if_pos rfl]
  · rw [if_neg e]
    rcases List.mem_cons.1 h with rfl|h
    · exact absurd rfl e
    · exact Eo (f:=f) h
theorem zU {f:Fr} (aM:∀t x,f.get t=some x→t<n):gb f (f.keep (List.range n)):=fun t x ao=>by
 refine ⟨x,?_, .inl rfl⟩
 rw [Eo (List.mem_range.2 (aM t x ao)),ao];rfl
theorem zV (h:jS n ops []=true):jS n ops (List.range n)=true:=by
 simp only [jS,Bool.and_eq_true,List.all_eq_true] at h ⊢
 exact ⟨h.1,fun t an=>by simpa using an⟩
theorem Mc {id:Nat} (ai:jS n ops []=true) (h:bB P n ops ops.toList (fun fr m=>Q .normal fr m) fr m):cV P n (.region id ops false) Q fr m:=by
 have:=zV ai
 simp only [jS,Bool.and_eq_true] at this
 refine cV.kO (Q:=fun e f m=>∃eI,gb eI f∧Q e eI m) (fun e f m ⟨eI,I,J⟩=>⟨eI,m,I,fun _ _ h=>h,J⟩) (Ch (List.range n) this.2 ?_)
 intro F lim w ca uF st aS
 exact (bB.dv h) F lim w ca uF st fun lim' w' f m' dw ai fk cN=>aS lim' w' f m' dw ⟨f,zU ai.1,ai.2⟩ fk cN
theorem Md {id:Nat} (hm:P.follows .mixedOrders=true) (p:Nat) (hU:List (Nat×Nat)) (ai:jS n ops []=true) (a7:qw ops p hU=true)
 (h:∃cs,lP P ops m cs (ops.toList.take p) fr (fun aY=>bB P n ops (ops.toList.drop p) (fun fr m=>Q .normal fr m) (aY.alias hU) m)):cV P n (.region id ops true) Q fr m:=by
 obtain ⟨cs,h⟩:=h
 refine cV.kO (Q:=fun e f m=>∃eI,gb eI f∧Q e eI m) (fun e f m ⟨eI,I,J⟩=>⟨eI,m,I,fun _ _ h=>h,J⟩) (Ki hm p hU cs (List.range n) (zV ai) a7 (Dj _ (fun f h=>?_) h))
 intro F lim w ca uF st aS
 exact (bB.dv h) F lim w ca uF st fun lim' w' f m' dw ai fk cN=>aS lim' w' f m' dw ⟨f,zU ai.1,ai.2⟩ fk cN
end
def uG (xs:List Nat) (n id:Nat) (ops:Array Oper) (draw:Bool):Bool:=
 jS n ops []&&(ops.toList.all qT)&&(!draw||has xs (id*1000+999)||qw ops (qP xs id ops.toList 0) (sc (o3 ops.toList) (ops.toList.take (qP xs id ops.toList 0))))
theorem Ep {b0 new:List Nat} (aC:eO c.P c.T=true) (hm:c.P.follows .mixedOrders=true) (cK:c.bs=b0) (g:Good (b0++new) L m) {id:Nat} {draw:Bool} (aw:uG c.xs n id ops draw=true) {fr:bM} {k:cg} {Q:Exit→Fr→ae→Prop}
 (h:pP c id ops.toList draw k fr L m) (ad:∀aY bK m' dz,Good (b0++dz) bK m'→k aY bK m'→Q .normal (bf (b0++dz) aY) (bC (b0++dz) bK m')):cV c.P n (.region id ops draw) Q (bf (b0++new) fr) (bC (b0++new) L m):=by
 simp only [uG,Bool.and_eq_true] at aw
 obtain ⟨⟨I,J⟩,ak⟩:=aw
 have dh:∀o∈ops.toList,ef n o=true∧fy n o=true∧qT o=true:=fun o aD=>by
  simp only [jS,Bool.and_eq_true,List.all_eq_true] at I
  rw [List.all_eq_true] at J
  exact ⟨(I.1 o aD).1,(I.1 o aD).2,J o aD⟩
 cases draw with
 |false=>exact Mc I (sg aC cK _ dh g h ad)
 |true=>
  simp only [pP] at h
  cases ao:has c.xs (id*1000+999) with
  |true=>rw [ao] at h;exact h.elim
  |false=>
  rw [ao] at h ak
  simp only [gJ] at h
  refine Md hm (qP c.xs id ops.toList 0) (sc (o3 ops.toList) (ops.toList.take (qP c.xs id ops.toList 0))) I (by simpa using ak) ?_
  obtain ⟨cs,aH⟩:=zT aC cK g _ h
  refine ⟨cs,Dj _ (fun f aM=>?_) aH⟩
  obtain ⟨aY,rfl,aQ⟩:=aM
  obtain ⟨o4,bw,e⟩:=Em (bs:=b0++new) aQ
  rw [←e]
  exact sg aC cK _ (fun o aD=>dh o (List.mem_of_mem_drop aD)) g bw ad
end
end Go.b4
end
section
namespace Go.b4
open Go Go.bb
def lW (c:List Nat) (n:Nat):Code→Bool
 | .region id ops draw=>uG c n id ops draw
 | .seq a b=>lW c n a&&lW c n b
 | .cond q x y=>kc q&&lW c n x&&lW c n y
 | .block _ b=>lW c n b
 | .loop b=>lW c n b
 | .skip| .ret| .exit _=>true
 |_=>false
def hg (bs:List Nat) (kn:cg) (kx:Nat→cg) (kr:cg) (e:Exit) (f:Fr) (aq:ae):Prop:=
 ∃fr L m dz,Good (bs++dz) L m∧f=bf (bs++dz) fr∧aq=bC (bs++dz) L m∧
  match e with
  | .normal=>kn fr L m
  | .exit id=>kx id fr L m
  | .ret=>kr fr L m
  |_=>False
section
variable {c:fF} {n:Nat} {b0:List Nat}
theorem hg.jY {b0 new:List Nat} {kn:cg} {kx:Nat→cg} {kr:cg} {e:Exit} {fr:bM} {L:List br} {m:ae} (g:Good (b0++new) L m) (h:match e with| .normal=>kn fr L m| .exit id=>kx id fr L m| .ret=>kr fr L m|_=>False):hg b0 kn kx kr e (bf (b0++new) fr) (bC (b0++new) L m):=
 ⟨fr,L,m,new,g,rfl,rfl,h⟩
theorem take_split {b0 new:List Nat} {n:Nat} (h:b0.length≤n):(b0++new).take n=b0++new.take (n- b0.length):=by
 rw [List.take_append,List.take_of_length_le h]
theorem zW (bs:List Nat):∀{fr:bM} {t:Nat} {v:aT},qQ fr t=some v→(bf bs fr).get t=some (den bs v)
 |[],_,_,h=>by cases h
 |(s,x)::r,t,v,h=>by
  simp only [qQ] at h
  simp only [bf,Fr.get]
  cases ag:Nat.beq s t with
  |true=>
   rw [ag] at h
   rw [if_pos (Nat.eq_of_beq_eq_true ag)]
   simp only [cond_true,Option.some.injEq] at h
   rw [h]
  |false=>
   rw [ag] at h
   have:¬s=t:=by
    intro e
    subst e
    have:Nat.beq s s=true:=Nat.beq_refl s
    rw [this] at ag
    cases ag
   rw [if_neg this]
   exact zW bs h
theorem Er (bs:List Nat) (E:Nat) (v:aT):den bs (ir E v)=(den bs v).toErr E:=by
 unfold ir
 split
 · simp only [den,aa.plain,aa.toErr]
 · rename_i u e
   simp only [den,aa.plain,aa.toErr]
   cases ag:Nat.beq u E with
   |true=>
    obtain rfl:=Nat.eq_of_beq_eq_true ag
    by_cases he:e=0
    · subst he;simp [den,aa.plain]
    · simp [he,den,aa.plain]
   |false=>
    have:¬u=E:=fun e=>by subst e;rw [Nat.beq_refl] at ag;cases ag
    simp [this,den,aa.plain]
 · rename_i I J
   cases v with
   |aI x=>
    cases x with
    |nilIface=>exact absurd rfl I
    |iface u y=>
     simp only [den,aa.plain]
     cases y with
     |int k z=>cases k<;>first|exact absurd rfl (J _ _)|simp only [aa.toErr]
     |_=>simp only [aa.toErr]
    |_=>simp only [den,aa.plain,aa.toErr]
   |_=>simp only [den,aa.toErr]
theorem Es (bs:List Nat) (E:Nat) (v:aT):kN (den bs (ir E v)) (den bs v):=by
 rw [Er]
 by_cases h:(den bs v).toErr E=den bs v
 · exact .inl h
 · right
   intro w lim u os aw
   have J:=toErr_rep E aw
   have ak:=J.plain
   have aH:((den bs v).toErr E).plain=(den bs v).toErr E:=by
    generalize den bs v=x at h ⊢
    cases x with
    |nilIface=>simp only [aa.toErr,aa.plain]
    |iface u y=>
     cases y with
     |int k z=>
      cases k<;>simp only [aa.toErr] at h ⊢<;>first|(split<;>simp only [aa.plain])|(simp only [aa.plain];done)|exact absurd rfl h
     |_=>exact absurd rfl h
    |_=>exact absurd rfl h
   rw [aH] at ak
   exact ak
theorem Me (bs:List Nat) (E:Nat) (md:List (Nat×Nat)) (t:Nat) (v:aT):kN (den bs (wz E md t v)) (den bs v):=by
 unfold wz
 split
 · cases md.any (fun p=>Nat.beq p.1 t) with
   |true=>exact .inl (by simp only [cond_true,den,bT.val])
   |false=>exact .inl rfl
 · exact .inl (by simp only [den,bT.val])
 · cases md.any (fun p=>Nat.beq p.1 t) with
   |true=>exact .pl (by simp only [cond_true,den,aa.plain])
   |false=>exact .inl rfl
 · exact .inl (by simp only [den,aa.plain,wH])
 · cases md.any (fun p=>Nat.beq p.1 t) with
   |true=>exact Es bs E _
   |false=>exact .inl rfl
theorem wK (bs:List Nat) (E:Nat) (md:List (Nat×Nat)):∀(ks:List Nat) (fr:bM),gb (bf bs (lV E md ks fr)) (bf bs fr)
 |[],fr,t,x,h=>by simp only [lV,bf,Fr.get] at h;cases h
 |s::r,fr,t,x,h=>by
  simp only [lV] at h
  cases aj:qQ fr s with
  |none=>rw [aj] at h;exact wK bs E md r fr t x h
  |some v=>
   rw [aj] at h
   simp only [bf,Fr.get] at h
   by_cases e:s=t
   · subst e
     rw [if_pos rfl] at h
     refine ⟨_,zW bs aj,?_⟩
     have:den bs (wz E md s v)=x:=by simpa using h
     rw [←this]
     exact Me bs E md s v
   · rw [if_neg e] at h
     exact wK bs E md r fr t x h
theorem Et (bs:List Nat):∀(l:List aT),bl bs (qR l)=bl bs l
 |[]=>rfl
 |v::r=>by cases v<;>simp only [qR,bl,den,bT.val,Et bs r]
theorem Mf (bs:List Nat) (o:br):fb bs (ux o)=fb bs o:=by
 cases o with
 |cells l=>simp only [ux,fb,Et]
 |obj o=>rfl
theorem zX (bs:List Nat):∀(L:List br),(mE L).map (fb bs)=L.map (fb bs)
 |[]=>rfl
 |o::r=>by simp only [mE,List.map_cons,Mf,zX bs r]
theorem Eu (n:Nat):∀(l:List aT),mC n (qR l)=mC n l
 |[]=>rfl
 |v::r=>by cases v<;>simp only [qR,mC,uc,Eu n r]
theorem wL (n:Nat):∀(L:List br),lU n (mE L)=lU n L
 |[]=>rfl
 | .cells l::r=>by simp only [mE,ux,lU,wc,Eu,wL n r]
 | .obj o::r=>by simp only [mE,ux,lU,wc,wL n r]
theorem Ev:∀(L:List br),(mE L).length=L.length
 |[]=>rfl
 |o::r=>by simp only [mE,List.length_cons,Ev r]
theorem uH {md:List (Nat×Nat)} {ks:List Nat} {k:Nat} {fr:bM} {L:List br} {m:ae} {s:sd} {new:List Nat} (cK:c.bs=b0) (g:Good (b0++new) L m) (h:fits c md ks k fr L m s):
 Good (b0++new.take (k- b0.length)) s.2.1 s.2.2∧gb (bf (b0++new.take (k- b0.length)) s.1) (bf (b0++new) fr)∧(∀b o,bC (b0++new.take (k- b0.length)) s.2.1 s.2.2 b=some o→bC (b0++new) L m b=some o)∧(b0++new.take (k- b0.length)).length=k:=by
 obtain ⟨I,J⟩:=h
 subst I
 subst cK
 simp only [Bool.and_eq_true] at J
 obtain ⟨⟨⟨bZ,bo⟩,gK⟩,iT⟩:=J
 have h3:=Nat.le_of_ble_eq_true gK
 have jo:=Nat.le_of_ble_eq_true iT
 have av:=g.len
 have Mg:=take_split (new:=new) jo
 have hlen:((c.bs++new).take k).length=k:=by rw [List.length_take];omega
 rw [←Mg]
 have Ew:(c.bs++new)=(c.bs++new).take k++(c.bs++new).drop k:=(List.take_append_drop _ _).symm
 have hp:bC ((c.bs++new).take k) (mE (L.take k)) m=bC ((c.bs++new).take k) (L.take k) m:=by simp only [bC,hv,zX]
 rw [wL] at bo
 refine ⟨⟨?_,by rw [hlen,Ev,List.length_take];omega,fun b ag=>g.fresh b (List.mem_of_mem_take ag)⟩,?_,fun b o ag=>?_,hlen⟩
 · exact g.kL.sublist (List.take_sublist _ _)
 · have e:bf (c.bs++new) (lV c.E md ks fr)=bf ((c.bs++new).take k) (lV c.E md ks fr):=by
    conv=>lhs;rw [Ew]
    exact we (by rw [hlen];exact bZ)
   rw [←e]
   exact wK _ _ _ ks fr
 · simp only at ag
   rw [hp] at ag
   have oH:∀(A:List (Nat×e2)) (aq:ae),(A.map Prod.fst).Nodup→∀b o,aq.a1 A b=some o→(∃i,A[i]?=some (b,o))∨(b∉A.map Prod.fst∧aq b=some o):=fun A aq di b o ag=>by
    by_cases hm:b∈A.map Prod.fst
    · left
      obtain ⟨i,ab⟩:=List.getElem?_of_mem hm
      rw [List.getElem?_map] at ab
      cases cW:A[i]? with
      |none=>rw [cW] at ab;cases ab
      |some p=>
       rw [cW] at ab
       obtain ⟨ft,ez⟩:=p
       simp only [Option.map_some,Option.some.injEq] at ab
       subst ab
       have:=oO (m:=aq) i di cW
       rw [this] at ag
       simp only [Option.some.injEq] at ag
       subst ag
       exact ⟨i,cW⟩
    · right
      rw [nY hm] at ag
      exact ⟨hm,ag⟩
   have Mh:((hv ((c.bs++new).take k) (L.take k)).map Prod.fst).Nodup:=by
    rw [oV (by rw [hlen,List.length_take];omega)]
    exact g.kL.sublist (List.take_sublist _ _)
   rcases oH _ m Mh b o ag with ⟨i,ab⟩|⟨ak,aH⟩
   · have yP:i<k:=by
      rcases Nat.lt_or_ge i k with h|h
      · exact h
      · rw [List.getElem?_eq_none] at ab
        · cases ab
        · simp only [hv,List.length_zip,hlen,List.length_map,List.length_take];omega
     refine oO i g.nodup ?_
     have e:(L.take k).map (fb (c.bs++new))=(L.take k).map (fb ((c.bs++new).take k)):=by
      conv=>lhs;rw [Ew]
      exact zh (by rw [hlen];exact bo)
     have au:hv ((c.bs++new).take k) (L.take k)=(hv (c.bs++new) L).take k:=by
      simp only [hv,←e,List.map_take,List.zip,List.take_zipWith]
     rw [au,List.getElem?_take_of_lt yP] at ab
     exact ab
   · by_cases hm:b∈(c.bs++new)
     · rw [g.fresh b hm] at aH;cases aH
     · rw [bC,nY (by rw [oV g.len];exact hm)]
       exact aH
theorem Ex {bs:List Nat} {t:Nat}:∀{fr:bM},(bf bs fr).get t=none→dU fr t= .aI .aP
 |[],_=>rfl
 |(s,x)::r,a8=>by
  simp only [bf,Fr.get] at a8
  by_cases e:s=t
  · rw [if_pos e] at a8;cases a8
  · rw [if_neg e] at a8
    have ag:Nat.beq s t=false:=by
     cases ag:Nat.beq s t with
     |false=>rfl
     |true=>exact absurd (Nat.eq_of_beq_eq_true ag) e
    simp only [dU,ag,cond_false]
    exact Ex a8
set_option maxHeartbeats 2000000 in
theorem Ey (aC:eO c.P c.T=true) (hm:c.P.follows .mixedOrders=true) (cK:c.bs=b0) {id:Nat} {ops:Array Oper} {draw:Bool} {kn:cg} {kx:Nat→cg} {kr:cg} {fr:bM} {L:List br} {m:ae} {new:List Nat} (g:Good (b0++new) L m) (ai:uG c.xs n id ops draw=true)
 (h:se c id ops.toList draw kn fr L m):cV c.P n (.region id ops draw) (hg b0 kn kx kr) (bf (b0++new) fr) (bC (b0++new) L m):=by
 simp only [se] at h
 have key:pP c id ops.toList draw kn fr L m→cV c.P n (.region id ops draw) (hg b0 kn kx kr) (bf (b0++new) fr) (bC (b0++new) L m):=fun h=>
  Ep aC hm cK g ai h fun aY bK m' dz dH ai=>⟨aY,bK,m',dz,dH,rfl,rfl,ai⟩
 have zY:wB (fun kn fr L m=>pP c id ops.toList draw kn fr L m) kn fr L m→cV c.P n (.region id ops draw) (hg b0 kn kx kr) (bf (b0++new) fr) (bC (b0++new) L m):=fun h=>by
  obtain ⟨pQ,I,J⟩:=h
  refine cV.kO (fun e f aq aB=>?_) (Ep (Q:=hg b0 pQ kx kr) aC hm cK g ai J fun aY bK m' dz dH ai=>⟨aY,bK,m',dz,dH,rfl,rfl,ai⟩)
  obtain ⟨aY,bK,m',dz,dH,rfl,rfl,cm⟩:=aB
  cases e with
  |normal=>
   obtain ⟨md,t,e,ks,⟨q,aS,he⟩,nM⟩:=I _ _ _ cm
   refine ⟨bf (b0++dz) ((t, .b (.raw e))::lV 0 md ks aY),_,?_,fun _ _ h=>h,hg.jY (kn:=kn) (kx:=kx) (kr:=kr) (e:= .normal) dH nM⟩
   intro s x ao
   simp only [bf,Fr.get] at ao
   by_cases es:t=s
   · subst es
     rw [if_pos rfl] at ao
     refine ⟨_,zW _ aS, .inl ?_⟩
     have:den (b0++dz) (.b (.raw e))=x:=by simpa using ao
     rw [←this]
     simp only [den,bT.val,he]
   · rw [if_neg es] at ao
     exact wK _ 0 md ks aY s x ao
  |exit id=>exact ⟨_,_,gb.refl _,fun _ _ h=>h,hg.jY (kn:=kn) (kx:=kx) (kr:=kr) (e:= .exit id) dH cm⟩
  |ret=>exact ⟨_,_,gb.refl _,fun _ _ h=>h,hg.jY (kn:=kn) (kx:=kx) (kr:=kr) (e:= .ret) dH cm⟩
  |_=>exact cm.elim
 have Ez:∀p:Prop,(p→cV c.P n (.region id ops draw) (hg b0 kn kx kr) (bf (b0++new) fr) (bC (b0++new) L m))→Told fr p→cV c.P n (.region id ops draw) (hg b0 kn kx kr) (bf (b0++new) fr) (bC (b0++new) L m):=fun p aB h=>by
  intro F lim w ca st
  refine aB (h.h fun t=>?_) F lim w ca st
  clear aB h zY key ai
  cases a8:(bf (b0++new) fr).get t with
  |none=>
   have:dU fr t= .aI .aP:=Ex a8
   rw [this]
   simp only [zF,aa.plain,tR,oR]
  |some x=>
   have ao:den (b0++new) (dU fr t)=x:=by rw [←kp,bc,a8];rfl
   obtain ⟨os,b3,bu,aj⟩:=st
   have aw:=(aj.dv t x a8).2
   rw [←ao] at aw
   cases ba:dU fr t with
   |aI y=>
    rw [ba] at aw
    cases y with
    |int cu z=>
     simp only [den,aa.plain] at aw
     exact (k6 aw).2
    |slice o l=>
     simp only [den,aa.plain] at aw
     exact ⟨y4 aw,DH aw⟩
    |_=>
     have ag:=y4 aw
     simp only [den] at ag
     exact ag
   |own l=>
    rw [ba] at aw
    simp only [den] at aw
    exact ⟨y4 aw,DH aw⟩
   |_=>simp only [zF]
 cases aj:has c.st id with
 |false=>
  cases aG:has c.uq id with
  |false=>rw [aj,aG] at h;exact key h
  |true=>rw [aj,aG] at h;exact zY h
 |true=>
  cases aG:has c.uq id with
  |false=>rw [aj,aG] at h;exact Ez _ key h
  |true=>rw [aj,aG] at h;exact Ez _ zY h
set_option maxHeartbeats 2000000 in
theorem n4 (aC:eO c.P c.T=true) (hm:c.P.follows .mixedOrders=true) (cK:c.bs=b0):∀(hf:Code) {kn:cg} {kx:Nat→cg} {kr:cg} {fr:bM} {L:List br} {m:ae} {new:List Nat},Good (b0++new) L m→lW c.xs n hf=true→
 kM c hf kn kx kr fr L m→cV c.P n hf (hg b0 kn kx kr) (bf (b0++new) fr) (bC (b0++new) L m)
 | .skip,kn,kx,kr,fr,L,m,new,g,_,h=>IV (hg.jY g h)
 | .ret,kn,kx,kr,fr,L,m,new,g,_,h=>IW (hg.jY g h)
 | .exit id,kn,kx,kr,fr,L,m,new,g,_,h=>IX (hg.jY g h)
 | .region id ops draw,kn,kx,kr,fr,L,m,new,g,ai,h=>by
   simp only [lW] at ai
   rw [LD] at h
   cases ba:has c.cv id with
   |false=>
    rw [ba] at h
    exact Ey aC hm cK g ai h
   |true=>
    rw [ba] at h
    subst cK
    rcases h.h with h|h
    · refine h.h new g n _ _ fun aY bK m' hX aB dH cm=>?_
      obtain ⟨dz,rfl⟩:=aB
      exact Ey aC hm rfl dH ai cm
    · simp only [uG,Bool.and_eq_true] at ai
      refine h.h new g n _ ai.1.1 fun aY bK m' hX aB dH cm=>?_
      obtain ⟨dz,rfl⟩:=aB
      exact hg.jY (kn:=kn) (kx:=kx) (kr:=kr) (e:= .normal) dH cm
 | .seq a b,kn,kx,kr,fr,L,m,new,g,ai,h=>by
   simp only [lW,Bool.and_eq_true] at ai
   rw [LF] at h
   refine Ce ?_
   cases ab:zI a with
   |true=>
    rw [ab] at h
    refine cV.mono (n4 aC hm cK a g ai.1 h) fun e f aq aB=>?_
    obtain ⟨aY,bK,m',dz,dH,rfl,rfl,cm⟩:=aB
    cases e with
    |normal=>
     exact n4 aC hm cK b dH ai.2 cm
    |exit id=>exact hg.jY (kn:=kn) (kx:=kx) (kr:=kr) (e:= .exit id) dH cm
    |ret=>exact hg.jY (kn:=kn) (kx:=kx) (kr:=kr) (e:= .ret) dH cm
    |_=>exact cm.elim
   |false=>
    rw [ab] at h
    obtain ⟨pQ,I,J⟩:=h
    refine cV.mono (n4 aC hm cK a g ai.1 J) fun e f aq aB=>?_
    obtain ⟨aY,bK,m',dz,dH,rfl,rfl,cm⟩:=aB
    cases e with
    |normal=>
     rcases I _ _ _ cm with ak|⟨md,ks,k,s,ak,aH⟩
     · exact n4 aC hm cK b dH ai.2 ak
     · obtain ⟨g1,hle,oH,_⟩:=uH cK dH ak
       exact cV.less hle (cV.En oH (n4 aC hm cK b g1 ai.2 aH))
    |exit id=>exact hg.jY (kn:=kn) (kx:=kx) (kr:=kr) (e:= .exit id) dH cm
    |ret=>exact hg.jY (kn:=kn) (kx:=kx) (kr:=kr) (e:= .ret) dH cm
    |_=>exact cm.elim
 | .cond q x y,kn,kx,kr,fr,L,m,new,g,ai,h=>by
   simp only [lW,Bool.and_eq_true] at ai
   rw [LG] at h
   obtain ⟨v,I,e⟩:=eA (b0++new) h
   split at I
   · rename_i s
     obtain ⟨cf,dQ⟩:=s.tX I
     simp only [den] at e
     exact Cg (b:=s.val) (by rw [←td,←e]) ai.1.1 (fun ba=>n4 aC hm cK x g ai.1.2 (cf ba)) (fun ba=>n4 aC hm cK y g ai.2 (dQ ba))
   · exact I.elim
 | .block id body,kn,kx,kr,fr,L,m,new,g,ai,h=>by
   simp only [lW] at ai
   rw [LH] at h
   refine IY ?_
   refine cV.mono (n4 aC hm cK body g ai h) fun e f aq aB=>?_
   obtain ⟨aY,bK,m',dz,dH,rfl,rfl,cm⟩:=aB
   cases e with
   |normal=>exact hg.jY (kn:=kn) (kx:=kx) (kr:=kr) (e:= .normal) dH cm
   |exit j=>
    simp only [ya]
    simp only at cm
    by_cases zZ:j=id
    · subst zZ
      rw [Nat.beq_refl] at cm
      rw [if_pos rfl]
      exact hg.jY (kn:=kn) (kx:=kx) (kr:=kr) (e:= .normal) dH cm
    · rw [if_neg zZ]
      have:Nat.beq j id=false:=by
       cases ag:Nat.beq j id with
       |false=>rfl
       |true=>exact absurd (Nat.eq_of_beq_eq_true ag) zZ
      rw [this] at cm
      exact hg.jY (kn:=kn) (kx:=kx) (kr:=kr) (e:= .exit j) dH cm
   |ret=>exact hg.jY (kn:=kn) (kx:=kx) (kr:=kr) (e:= .ret) dH cm
   |_=>exact cm.elim
 | .loop body,kn,kx,kr,fr,L,m,new,g,ai,h=>by
   simp only [lW] at ai
   rw [LI] at h
   obtain ⟨σ,S,fP,lR,md,ks,k,lj,aA,aW,I⟩:=h
   obtain ⟨g1,hle,oH,hlen⟩:=uH cK g aA
   refine cV.less hle (cV.En oH ?_)
   · refine Kt (σ:=σ×List Nat) (fun x=>bf (b0++x.2) (S x.1).1) (fun x=>bC (b0++x.2) (S x.1).2.1 (S x.1).2.2) (fun x=>fP x.1∧Good (b0++x.2) (S x.1).2.1 (S x.1).2.2) (fun x=>lR x.1) ⟨lj,new.take (k lj- b0.length)⟩ rfl rfl ⟨aW,g1⟩ fun x ao=>?_
     have J:=I x.1 ao.1
     rw [gJ,gJ] at J
     refine cV.kO (fun e f aq aB=>?_) (n4 aC hm cK body ao.2 ai J)
     obtain ⟨aY,bK,m',dz,dH,rfl,rfl,cm⟩:=aB
     cases e with
     |normal=>
      obtain ⟨bD,f1,f2,f3⟩:=cm
      obtain ⟨g2,Mi,Mj,Dw⟩:=uH cK dH f1
      exact ⟨_,_,Mi,Mj,⟨bD,dz.take (k bD- b0.length)⟩,rfl,rfl,⟨f2,g2⟩,f3⟩
     |exit id=>exact ⟨_,_,gb.refl _,fun _ _ h=>h,hg.jY (kn:=kn) (kx:=kx) (kr:=kr) (e:= .exit id) dH cm⟩
     |ret=>exact ⟨_,_,gb.refl _,fun _ _ h=>h,hg.jY (kn:=kn) (kx:=kx) (kr:=kr) (e:= .ret) dH cm⟩
     |_=>exact cm.elim
 | .scope _,_,_,_,_,_,_,_,_,ai,_=>by cases ai
 | .label _,_,_,_,_,_,_,_,_,ai,_=>by cases ai
 | .goto _,_,_,_,_,_,_,_,_,ai,_=>by cases ai
 | .refuse _,_,_,_,_,_,_,_,_,ai,_=>by cases ai
 | .rangeFunc _ _ _ _,_,_,_,_,_,_,_,_,ai,_=>by cases ai
end
end Go.b4
end
section
namespace Go.b4
open Go Go.bb
section
variable {c:fF} {n:Nat} {b:List Nat} {fr:bM} {L:List br} {m:ae}
theorem n5 (aC:eO c.P c.T=true) (g:Good b L m) {r:ResultVar} {k:aT→Prop} (h:wC c.T fr L r k):∃v side x,k v∧kk c.P (bf b fr) (bC b L m) r=some (side,x)∧side∧x=den b v:=by
 cases r with
 |tmp t=>
  simp only [wC] at h
  rw [lh] at h
  exact ⟨_,True,_,h,by simp only [kk,kp],trivial,rfl⟩
 |cell a t=>
  simp only [wC] at h
  rw [lh] at h
  have aw:=kp b fr a
  cases ba:dU fr a with
  |loc i off=>
   rw [ba] at h aw
   simp only [den] at h aw
   cases aD:nth L i with
   |none=>rw [aD] at h;exact h.elim
   |some o=>
    rw [aD] at h
    cases o with
    |obj o=>exact h.elim
    |cells l=>
     obtain ⟨dp,cx,h⟩:=dJ aC h
     rw [iV] at aD
     have hm:=nn g aD
     have aS:kk c.P (bf b fr) (bC b L m) (.cell a t)=some (jk c.P t (bl b l) off,(apart c.P t (bl b l) off).plain):=by simp only [kk,aw,hm,fb]
     cases bU:dp.k.hx with
     |true=>
      rw [bU] at h
      obtain ⟨ag,h⟩:=cY.1 h
      obtain ⟨u,h,hu⟩:=rU b h
      exact ⟨_,_,_,h,aS,r6 cx bU (by rw [kK];exact Nat.le_of_ble_eq_true ag),by rw [r4 cx bU];simp only [den,aa.plain,hu,zz,zy]⟩
     |false=>
      rw [bU] at h
      simp only at h
      cases aJ:nth l off with
      |none=>rw [aJ] at h;exact h.elim
      |some v=>
       rw [aJ] at h
       obtain ⟨u,h,hu⟩:=mA b h
       obtain ⟨az,bN⟩:=qM (bs:=b) aJ
       exact ⟨_,_,_,h,aS,r7 cx bU bN,by rw [r5 cx bU,az,hu]⟩
  |_=>rw [ba] at h;exact h.elim
theorem z1 (aC:eO c.P c.T=true) {b0 new:List Nat} (cK:c.bs=b0) (g:Good (b0++new) L m) {fn:Func} (aH:fn.results.toList.length≤4) {K:aa→ae→Prop} (h:wD c.T fr L fn.results.toList fun vs=>uB c K vs L m):rK c.P fn (bf (b0++new) fr) (bC (b0++new) L m) K:=by
 subst cK
 unfold rK
 generalize fn.results.toList=rs at h aH ⊢
 match rs,h with
 |[],h=>
  obtain ⟨m',I,J⟩:=h.h new g
  exact ⟨m',I,J⟩
 |[r],h=>
  obtain ⟨v,vE,x,h,ay,s1,rfl⟩:=n5 aC g h
  obtain ⟨m',I,J⟩:=h.h new g
  simp only [ay]
  exact ⟨s1,m',I,J⟩
 |[r,s],h=>
  obtain ⟨v,vE,x,h,ay,s1,rfl⟩:=n5 aC g h
  obtain ⟨v2,EA,sh,h,az,s2,rfl⟩:=n5 aC g h
  obtain ⟨m',I,J⟩:=h.h new g
  simp only [ay,az]
  exact ⟨s1,s2,m',I,J⟩
 |[r,s,t],h=>
  obtain ⟨v,vE,x,h,ay,s1,rfl⟩:=n5 aC g h
  obtain ⟨v2,EA,sh,h,az,s2,rfl⟩:=n5 aC g h
  obtain ⟨v3,Mk,uI,h,cB,ht,rfl⟩:=n5 aC g h
  obtain ⟨m',I,J⟩:=h.h new g
  simp only [ay,az,cB]
  exact ⟨s1,s2,ht,m',I,J⟩
 |[r,s,t,u],h=>
  obtain ⟨v,vE,x,h,ay,s1,rfl⟩:=n5 aC g h
  obtain ⟨v2,EA,sh,h,az,s2,rfl⟩:=n5 aC g h
  obtain ⟨v3,Mk,uI,h,cB,ht,rfl⟩:=n5 aC g h
  obtain ⟨v4,SE,SF,h,fv,mI,rfl⟩:=n5 aC g h
  obtain ⟨m',I,J⟩:=h.h new g
  simp only [ay,az,cB,fv]
  exact ⟨s1,s2,ht,mI,m',I,J⟩
 |r::s::t::u::q::rest,h=>simp at aH
theorem EB:∀(l:List Nat) (t:Nat),has l t=l.contains t
 |[],t=>rfl
 |x::r,t=>by
  simp only [has,List.contains_cons]
  cases ag:Nat.beq x t with
  |true=>obtain rfl:=Nat.eq_of_beq_eq_true ag;simp
  |false=>
   have:¬t=x:=fun e=>by subst e;rw [Nat.beq_refl] at ag;cases ag
   simp [this,EB r t]
theorem EC (E:Nat) (bd:List Nat):∀(fr:bM),bf b (wF E bd fr)=Fr.toErr E bd (bf b fr)
 |[]=>rfl
 |(t,v)::r=>by
  simp only [wF,bf,Fr.toErr,List.map_cons,EB]
  have:=EC E bd r
  simp only [Fr.toErr] at this
  rw [this]
  cases ah:bd.contains t<;>simp [Er]
theorem Ml {P:Program} {hf:Code} {Q gP:Exit→Fr→ae→Prop} {f:Fr} {aq:ae} (E:Nat) (bd:List Nat) (aS:∀e f m,Q e f m→gP e f m∨gP e (f.toErr E bd) m) (h:cV P n hf Q f aq):cV P n hf gP f aq:=fun F lim w ca st=>
 wp_mono (h F lim w ca st) fun e _ _ ⟨l,f,aq,q,fk,cN⟩=>by
  rcases aS e f aq q with q|q
  · exact ⟨l,f,aq,q,fk,cN⟩
  · refine ⟨l,_,aq,q,fk.conv fun t bD ao=>?_,cN⟩
    rw [Fr.KE] at ao
    cases ah:bd.contains t with
    |false=>rw [ah] at ao;exact ⟨bD,by simpa using ao,fun _ _ h=>h⟩
    |true=>
     rw [ah] at ao
     simp only [if_true] at ao
     cases a8:f.get t with
     |none=>rw [a8] at ao;cases ao
     |some y=>
      rw [a8] at ao
      simp only [Option.map_some,Option.some.injEq] at ao
      subst ao
      exact ⟨y,rfl,fun v os h=>toErr_rep E h⟩
def du (c:List Nat) (fn:Func) (hf:Code) (k:Nat):Bool:=!(fn.name== "runtime.NumGoroutine")&&Nat.ble k fn.ntmps&&lW c fn.ntmps hf&&Nat.ble fn.results.size 4
theorem ED (b:List Nat):∀(i:Nat) (vs:List aT),bf b (uA i vs)=Fr.init i (bl b vs)
 |_,[]=>by simp only [uA,bf,bl,Fr.init]
 |i,v::r=>by simp only [uA,bf,bl,Fr.init,ED b (i+1) r]
theorem enter {f:FuncId} {fn:Func} {hf:Code} {vs:List aT} {K:aa→ae→Prop} (e:Bool) (aC:eO c.P c.T=true) (hm:c.P.follows .mixedOrders=true) (aM:c.P.funcs[f]?=some fn) (ag:fn.body=some hf) {k:Nat} (dh:du c.xs fn hf k=true) (av:vs.length=k) (g:Good c.bs L m)
 (h:kM c hf (zM c false fn.results.toList K) (fun _ _ _ _=>False) (zM c e fn.results.toList K) (uA 0 vs) L m):bp c.P f (bl c.bs vs) (bC c.bs L m) K:=by
 simp only [du,Bool.and_eq_true,Bool.not_eq_true'] at dh
 obtain ⟨⟨⟨hY,kP⟩,n6⟩,z6⟩:=dh
 refine JV aM ag hY (by rw [kK,av];exact Nat.le_of_ble_eq_true kP) ?_
 have:=n4 (b0:=c.bs) (new:=[]) aC hm rfl hf (by rw [List.append_nil];exact g) n6 h
 rw [List.append_nil,ED] at this
 refine Ml c.E (wE fn.results.toList) (fun ex f aq aB=>?_) this
 obtain ⟨aY,bK,m',dz,dH,rfl,rfl,cm⟩:=aB
 cases ex with
 |normal=>exact .inl (z1 aC rfl dH (by simpa using Nat.le_of_ble_eq_true z6) cm)
 |exit id=>exact cm.elim
 |ret=>
  simp only [zM] at cm
  cases e with
  |false=>exact .inl (z1 aC rfl dH (by simpa using Nat.le_of_ble_eq_true z6) cm)
  |true=>
   simp only at cm
   rw [gJ] at cm
   right
   rw [←EC]
   exact z1 aC rfl dH (by simpa using Nat.le_of_ble_eq_true z6) cm
 |_=>exact cm.elim
theorem rt {K:aa→ae→Prop} {vs:List aT} (aj:(lU c.bs.length (L.take c.bs.length)&&Nat.ble c.bs.length L.length)=true) (h:∀new,K (zL (c.bs++new) vs) (bC c.bs (L.take c.bs.length) m)):uB c K vs L m:=⟨fun new g=>by
 simp only [Bool.and_eq_true] at aj
 have:=uH (c:=c) (md:=[]) (ks:=[]) (k:=c.bs.length) (fr:=[]) (s:=([],mE (L.take c.bs.length),m)) rfl g ⟨rfl,by simp only [oW,Bool.true_and,Bool.and_eq_true,wL];exact ⟨⟨aj.1,aj.2⟩,Nat.ble_eq_true_of_le (Nat.le_refl _)⟩⟩
 simp only [Nat.sub_self,List.take_zero,List.append_nil] at this
 have hp:bC c.bs (mE (L.take c.bs.length)) m=bC c.bs (L.take c.bs.length) m:=by simp only [bC,hv,zX]
 rw [hp] at this
 exact ⟨_,this.2.2.1,h new⟩⟩
theorem b7 {K:aa→ae→Prop} {vs:List aT} (ag:c.bs=[]) (h:∀new,K (zL new vs) m):uB c K vs L m:=⟨fun new g=>by
 rw [ag,List.nil_append] at g ⊢
 refine ⟨m,fun b o z7=>?_,h new⟩
 by_cases hm:b∈new
 · rw [g.fresh b hm] at z7;cases z7
 · rw [bC,nY (by rw [oV g.len];exact hm)]
   exact z7⟩
theorem dV {b0:List Nat} {P:Program} {f:FuncId} {vs:List aT} {x:aa} {Q:aT→List br→ae→Prop} (h:∀bs (aq:ae) (K:aa→ae→Prop),K x aq→bp P f (bl bs vs) aq K) (aB:x.plain=x) (gU:Q (oT x) L m):n2 P b0 f vs fr L m Q:=
 .one (oT x) L m (fun new _ K ad=>h _ _ K (by
   have:=ad []
   simp only [List.append_nil,oU,aB] at this
   exact this (by assumption))) (by rw [Nat.beq_refl];rfl) gU
theorem h9 {b0:List Nat} {P:Program} {f:FuncId} {vs:List aT} {x:aa} {Q:aT→Prop} (h:∀bs (aq:ae) (K:aa→ae→Prop),K x aq→bp P f (bl bs vs) aq K) (gU:Q (oT x)):D4 P b0 f vs L m Q:=
 ⟨oT x,fun new _=>⟨x,fun K ad=>h _ _ K ad,by rw [oU]⟩,gU⟩
theorem ax {p q:Prop} (aB:p) (aS:q):p∧q:=⟨aB,aS⟩
theorem Good.nil (m:ae):Good [] [] m:=⟨List.nodup_nil,rfl,fun _ h=>by cases h⟩
structure eG (bs:List Nat) (m:ae):Prop where
 kL:bs.Nodup
 fresh:∀b∈bs,m b=none
theorem eG.ia {bs:List Nat} (g:eG bs m) (h:bs.length=L.length):Good bs L m:=⟨g.kL,h,g.fresh⟩
theorem eG.nil (m:ae):eG [] m:=⟨List.nodup_nil,fun _ h=>by cases h⟩
def hI (bs:List Nat):List Nat→List Nat
 |[]=>[]
 |i::r=>bs.getD i 0::hI bs r
def lX (L:List br):List Nat→List br
 |[]=>[]
 |i::r=>
  match nth L i with
  |some o=>o::lX L r
  |none=> .obj (.cells [])::lX L r
def iX:List br→List Nat→List br→List br
 |L,[],_=>L
 |L,_::_,[]=>L
 |L,i::r,o::os=>iX (L.set i o) r os
def kQ (bs:List Nat) (is:List Nat) (os:List br):List (Nat×e2):=(hI bs is).zip (os.map (fb bs))
def isOk (n:Nat):List Nat→Bool
 |[]=>true
 |i::r=>Nat.ble (i+1) n&&!(has r i)&&isOk n r
theorem EE:∀{l:List Nat} {t:Nat},has l t=true↔t∈l
 |[],t=>by simp [has]
 |x::r,t=>by
  simp only [has,List.mem_cons]
  cases ag:Nat.beq x t with
  |true=>obtain rfl:=Nat.eq_of_beq_eq_true ag;simp
  |false=>
   have:¬t=x:=fun e=>by subst e;rw [Nat.beq_refl] at ag;cases ag
   simp [this,EE (l:=r)]
theorem EF (bs:List Nat):∀(is:List Nat),(hI bs is).length=is.length
 |[]=>rfl
 |i::r=>by simp only [hI,List.length_cons,EF bs r]
theorem si (L:List br):∀(is:List Nat),(lX L is).length=is.length
 |[]=>rfl
 |i::r=>by
  simp only [lX]
  split<;>simp only [List.length_cons,si L r]
theorem getD_inj {bs:List Nat} (h:bs.Nodup) {i j:Nat} (ab:i<bs.length) (aG:j<bs.length) (e:bs.getD i 0=bs.getD j 0):i=j:=by
 rw [List.getD_eq_getElem?_getD,List.getD_eq_getElem?_getD,List.getElem?_eq_getElem ab,List.getElem?_eq_getElem aG] at e
 exact (List.getElem_inj h).1 e
theorem sj {bs:List Nat}:∀{is:List Nat} {b:Nat},b∈hI bs is→∃i∈is,b=bs.getD i 0
 |[],_,h=>by cases h
 |i::r,b,h=>by
  simp only [hI,List.mem_cons] at h
  rcases h with rfl|h
  · exact ⟨i,List.mem_cons_self ..,rfl⟩
  · obtain ⟨j,aG,e⟩:=sj h
    exact ⟨j,List.mem_cons_of_mem _ aG,e⟩
theorem EG {bs:List Nat}:∀{is:List Nat} {i:Nat},i∈is→bs.getD i 0∈hI bs is
 |[],_,h=>by cases h
 |a::r,i,h=>by
  simp only [hI,List.mem_cons]
  rcases List.mem_cons.1 h with rfl|h
  · exact .inl rfl
  · exact .inr (EG h)
theorem sk {n:Nat}:∀{is:List Nat},isOk n is=true→(∀i∈is,i<n)∧is.Nodup
 |[],_=>⟨by simp,List.nodup_nil⟩
 |i::r,h=>by
  simp only [isOk,Bool.and_eq_true,Bool.not_eq_true'] at h
  obtain ⟨⟨I,J⟩,ak⟩:=h
  obtain ⟨aH,aQ⟩:=sk ak
  refine ⟨fun j aG=>?_,?_⟩
  · rcases List.mem_cons.1 aG with rfl|aG
    · exact Nat.le_of_ble_eq_true I
    · exact aH j aG
  · rw [List.nodup_cons]
    refine ⟨fun hm=>?_,aQ⟩
    rw [EE.2 hm] at J;cases J
theorem uJ {bs:List Nat} (aJ:bs.Nodup):∀{is:List Nat},isOk bs.length is=true→(hI bs is).Nodup
 |[],_=>List.nodup_nil
 |i::r,h=>by
  have aA:=sk h
  simp only [isOk,Bool.and_eq_true,Bool.not_eq_true'] at h
  obtain ⟨⟨I,J⟩,ak⟩:=h
  simp only [hI,List.nodup_cons]
  refine ⟨fun hm=>?_,uJ aJ ak⟩
  obtain ⟨j,aG,e⟩:=sj hm
  have:=getD_inj aJ (aA.1 i (List.mem_cons_self ..)) (aA.1 j (List.mem_cons_of_mem _ aG)) e
  subst this
  exact (List.nodup_cons.1 aA.2).1 aG
theorem pR:∀{is:List Nat} {L os:List br},(iX L is os).length=L.length
 |[],_,_=>by simp only [iX]
 |_::_,_,[]=>by simp only [iX]
 |i::r,L,o::os=>by rw [iX,pR,List.length_set]
def qU (aq:ae) (S:List Nat):ae:=fun b=>if b∈S then none else aq b
theorem z8 {bs:List Nat} {is:List Nat} {os:List br} {aq:ae} (di:(hI bs is).Nodup) (av:is.length=os.length) {j i:Nat} {o:br} (aG:is[j]?=some i) (aD:os[j]?=some o):aq.a1 (kQ bs is os) (bs.getD i 0)=some (fb bs o):=by
 have ag:(hI bs is)[j]?=some (bs.getD i 0):=by
  clear di av aD
  induction is generalizing j with
  |nil=>cases aG
  |cons a r aO=>
   cases j with
   |zero=>simp only [List.getElem?_cons_zero,Option.some.injEq] at aG;subst aG;rfl
   |succ j=>simp only [hI,List.getElem?_cons_succ] at aG ⊢;exact aO aG
 refine oO j ?_ ?_
 · rw [kQ,List.map_fst_zip (by rw [EF,List.length_map];omega)];exact di
 · simp only [kQ,List.zip,List.getElem?_zipWith,ag,List.getElem?_map,aD,Option.map_some]
theorem Aa {bs:List Nat} {is:List Nat} {os:List br} {aq:ae} {b:Nat} (h:b∉hI bs is):aq.a1 (kQ bs is os) b=aq b:=by
 refine nY fun hm=>h ?_
 obtain ⟨p,aB,rfl⟩:=List.mem_map.1 hm
 exact (List.of_mem_zip aB).1
theorem Ab:∀{is:List Nat} {L os:List br},is.Nodup→(∀i∈is,i<L.length)→is.length=os.length→(∀(j i:Nat) (o:br),is[j]?=some i→os[j]?=some o→(iX L is os)[i]?=some o)∧∀(i:Nat),i∉is→(iX L is os)[i]?=L[i]?
 |[],L,os,_,_,_=>⟨fun j i o h=>(by simp at h),fun _ _=>by simp only [iX]⟩
 |_::_,_,[],_,_,av=>by cases av
 |a::r,L,p::os,aJ,bN,av=>by
  obtain ⟨I,J⟩:=Ab (is:=r) (L:=L.set a p) (os:=os) (List.nodup_cons.1 aJ).2 (fun i ab=>by rw [List.length_set];exact bN i (List.mem_cons_of_mem _ ab)) (by simpa using av)
  refine ⟨fun j i o aG aD=>?_,fun i ab=>?_⟩
  · cases j with
    |zero=>
     simp only [List.getElem?_cons_zero,Option.some.injEq] at aG aD
     subst aG;subst aD
     rw [iX,J a (List.nodup_cons.1 aJ).1]
     simp [bN a (List.mem_cons_self ..)]
    |succ j=>exact I j i o aG aD
  · rw [iX,J i (fun h=>ab (List.mem_cons_of_mem _ h))]
    have:a≠i:=fun e=>ab (e▸List.mem_cons_self ..)
    simp [this]
theorem EH (L:List br):∀{is:List Nat} {j i:Nat},is[j]?=some i→i<L.length→(lX L is)[j]?=L[i]?
 |[],_,_,h,_=>by cases h
 |a::r,j,i,h,ab=>by
  have aJ:nth L a=L[a]?:=iV L a
  cases j with
  |zero=>
   simp only [List.getElem?_cons_zero,Option.some.injEq] at h
   subst h
   simp only [lX,aJ,List.getElem?_eq_getElem ab,List.getElem?_cons_zero]
  |succ j=>
   simp only [List.getElem?_cons_succ] at h
   have:=EH L h ab
   simp only [lX]
   split<;>simpa using this
theorem sl {bs:List Nat} {os:List br} (g:Good bs L m) {is:List Nat} (ab:isOk L.length is=true) (av:is.length=os.length):bC bs (iX L is os) m=(qU (bC bs L m) (hI bs is)).a1 (kQ bs is os):=by
 obtain ⟨I,J⟩:=sk ab
 have di:=uJ g.kL (by rw [g.len];exact ab)
 obtain ⟨s1,s2⟩:=Ab (L:=L) J I av
 have g2:Good bs (iX L is os) m:=⟨g.kL,by rw [pR];exact g.len,g.fresh⟩
 funext b
 by_cases ag:b∈hI bs is
 · obtain ⟨i,Ac,rfl⟩:=sj ag
   obtain ⟨j,aG⟩:=List.getElem?_of_mem Ac
   have rS:j<os.length:=by
    rcases Nat.lt_or_ge j is.length with h|h
    · omega
    · rw [List.getElem?_eq_none h] at aG;cases aG
   rw [z8 di av aG (List.getElem?_eq_getElem rS),nn g2 (s1 j i _ aG (List.getElem?_eq_getElem rS))]
 · rw [Aa ag,qU,if_neg ag]
   by_cases Ad:b∈bs
   · obtain ⟨i,jt⟩:=List.getElem?_of_mem Ad
     have Mm:i<bs.length:=by
      rcases Nat.lt_or_ge i bs.length with h|h
      · exact h
      · rw [List.getElem?_eq_none h] at jt;cases jt
     have e:b=bs.getD i 0:=by rw [List.getD_eq_getElem?_getD,jt];rfl
     subst e
     have um:i∉is:=fun h=>ag (EG h)
     have EI:i<L.length:=by rw [←g.len];exact Mm
     rw [nn g (List.getElem?_eq_getElem EI),nn g2 (by rw [s2 i um];exact List.getElem?_eq_getElem EI)]
   · rw [bC,nY (by rw [oV g2.len];exact Ad),bC,nY (by rw [oV g.len];exact Ad)]
theorem Ae:∀{is:List Nat} {L:List br},isOk L.length is=true→iX L is (lX L is)=L:=fun {is L} ab=>by
 obtain ⟨I,J⟩:=sk ab
 obtain ⟨s1,s2⟩:=Ab (L:=L) J I (si L is).symm
 apply List.ext_getElem?
 intro i
 by_cases h:i∈is
 · obtain ⟨j,aG⟩:=List.getElem?_of_mem h
   have e:=EH L aG (I i h)
   rw [List.getElem?_eq_getElem (I i h)] at e
   rw [s1 j i _ aG e,List.getElem?_eq_getElem (I i h)]
 · exact s2 i h
theorem cI {b0:List Nat} {P:Program} {f:FuncId} {vs:List aT} {Q:aT→List br→ae→Prop} (is:List Nat) (os:List br) (y:aT) (ab:(isOk L.length is&&Nat.beq is.length os.length)=true)
 (h:∀bs (aq:ae),eG (hI bs is) aq→∀(K:aa→ae→Prop),K (den bs y) (aq.a1 (kQ bs is os))→bp P f (bl bs vs) (aq.a1 (kQ bs is (lX L is))) K) (gU:Q y (iX L is os) m):n2 P b0 f vs fr L m Q:=by
 simp only [Bool.and_eq_true] at ab
 refine .one y (iX L is os) m (fun new g K ad=>?_) (by rw [pR,Nat.beq_refl];rfl) gU
 have di:=uJ g.kL (by rw [g.len];exact ab.1)
 have ay:=sl g ab.1 (si L is).symm
 rw [Ae ab.1] at ay
 rw [ay]
 refine h (b0++new) _ ⟨di,fun b ag=>by simp [qU,ag]⟩ K ?_
 have:=ad [] (by rw [List.append_nil];exact ⟨g.kL,by rw [pR];exact g.len,g.fresh⟩)
 rw [List.append_nil,sl g ab.1 (Nat.eq_of_beq_eq_true ab.2)] at this
 exact this
abbrev aK (n:Int):aT:= .aI (.int .i64 n)
abbrev aR (s:List UInt8):aT:= .aI (.str s)
abbrev kt (b:Bool):aT:= .b (.raw b)
abbrev aX (l:List aa):aT:= .aI (.slice false l)
end
end Go.b4
end
section
namespace Go.bb
open Go
section
variable {P:Program} {F:Nat→Prop} {lim:Nat→Nat} {w:World} {n:Nat} {fr:Fr} {m:ae} {ca:Act} {bn:List Nat}
theorem Mn (c:UInt8):(bk c).cells=[bk c]:=rfl
theorem EJ (c:UInt8):aF w lim (.int .u8 c.toNat) (bk c) []:= .int _ _ (by show (0:Int)≤_;omega) (by have:=c.toNat_lt;show _≤(255:Int);omega)
def pS (w:World) (eb:TypeId) (v:Value) (os:List Nat) (ne:Prop):Prop:=v= .slice none 0 0∨∃g n c cur,v= .slice (some ⟨g,0,none⟩) n c∧g∈os∧ne∧w.heap[g]?=some (.cells cur eb (0,0))
set_option maxHeartbeats 1000000 in
theorem Mo (st:aV F lim w n fr m ca bn) {t u e ty:TypeId} (an:P.underlying t=some (.slice e)) (hu:P.underlying u=some .string) (au:jP P e=true) (uD:P.cellsOf e=1) (n3:P.bytesOf e=1) {pA:Value} {l:List UInt8} (s:ByteArray) (ag:aF w lim pA (.slice true (l.map bk)) bn)
 (cF:l.length+s.size≤140737488355328) (aC:pS w e pA bn (l.map bk≠[])):
 ∃fN w' lim' dI,pS w' e fN dI ((l++s.data.toList).map bk≠[])∧(Builtin.append_ #[t,u] ty #[pA, .string s]).run P w= .ok fN w'∧aV F lim' w' n fr m ca dI∧aF w' lim' fN (.slice true ((l++s.data.toList).map bk)) dI∧cU F w lim w' lim':=by
 obtain ⟨i,z,ab,lL,CC,CD,vA⟩:=yj au
 obtain ⟨iS,nN⟩:=tf ab
 have n7:i.size=1:=by rw [←iS,uD]
 have jt:i.bytes=1:=by rw [←nN,n3]
 have b5:s.data.toList.length=s.size:=by rw [Array.length_toList];rfl
 have ti:∀k:Nat,k≤140737488355328→k≤maxLen:=fun k ai=>by simp only [maxLen];omega
 by_cases kF:s.size=0
 · have he:s.data.toList=[]:=List.eq_nil_of_length_eq_zero (by rw [b5,kF])
   refine ⟨pA,w,lim,bn,by simpa [he] using aC,?_,st,by simpa [he] using ag, .refl _ _ _⟩
   have aM:=Lib.run_firstCells_string (P:=P) w i.size s
   rw [kF,show Lib.strCells s=[] from by simp [Lib.strCells,he]] at aM
   generalize nt:l.map bk=o5 at ag
   cases ag with
   |eR own=>simp [Builtin.append_,run_underlying an,run_underlying hu,sizeOf,typeInfo,ab,Builtin.lenOf,kF,aM]
   |own b iz cap sz l cv cur bY I J ak aH aQ bw db cA dx eY hq=>simp [Builtin.append_,run_underlying an,run_underlying hu,sizeOf,typeInfo,ab,Builtin.lenOf,kF,aM,J,storeCells]
 have js:0<s.size:=Nat.pos_of_ne_zero kF
 have ek:(l++s.data.toList).map bk≠[]:=fun aL=>by
  have:=congrArg List.length aL
  simp only [List.length_map,List.length_append,b5,List.length_nil] at this
  omega
 have py:∀a,a<s.size→(Lib.strCells s)[a]?=some (.int .u8 (s.data.toList.getD a 0).toNat):=fun a aN=>by
  rw [←b5] at aN
  simp [Lib.strCells,List.getD_eq_getElem?_getD,List.getElem?_eq_getElem aN]
 have wM:∀a,a<l.length+s.size→((l++s.data.toList).map bk).getD a .aP=bk ((l++s.data.toList).getD a 0):=fun a aN=>by
  have:a<(l++s.data.toList).length:=by rw [List.length_append,b5];exact aN
  rw [List.getD_eq_getElem?_getD,List.getD_eq_getElem?_getD,List.getElem?_map,List.getElem?_eq_getElem this];rfl
 have tk:∀(gR:List Value) (hs:Nat),gR.length=l.length→(∀a,a<l.length→∃v,gR[a]?=some v∧aF w lim v (bk (l.getD a 0)) [])→l.length+s.size≤hs→hs≤maxLen→
  ∃lim' dI,dI=[w.heap.size]∧aV F lim' (w.drew.alloc (.cells (gR.toArray++(Lib.strCells s).toArray++Builtin.zeroCells z.cells (hs- (l.length+s.size))) e)) n fr m ca dI∧
   aF (w.drew.alloc (.cells (gR.toArray++(Lib.strCells s).toArray++Builtin.zeroCells z.cells (hs- (l.length+s.size))) e)) lim' (.slice (some ⟨w.heap.size,0,none⟩) (l.length+s.size) hs) (.slice true ((l++s.data.toList).map bk)) dI∧
   cU F w lim (w.drew.alloc (.cells (gR.toArray++(Lib.strCells s).toArray++Builtin.zeroCells z.cells (hs- (l.length+s.size))) e)) lim':=by
  intro gR hs aD yu et hm
  have eh:=cU.vy (w':=w.drew) st rfl rfl rfl rfl (.cells (gR.toArray++(Lib.strCells s).toArray++Builtin.zeroCells z.cells (hs- (l.length+s.size))) e) (l.length+s.size)
  refine ⟨_,_,rfl,st.vx (w':=w.drew) rfl _ (l.length+s.size),?_,eh⟩
  refine rE (sz:=1) (cv:=fun a _=> .int .u8 ((l++s.data.toList).getD a 0).toNat) (by simp [b5]) et hm cF (.inl (by omega)) (mU w.drew _) ?_ (fun a aN=>?_) (by rw [qn,Nat.mul_one]) (fun a b aN ag=>?_) (fun a b aN ag=>?_)
  · simp only [Array.size_append,List.size_toArray,size_zeroCells,vA,n7,aD,Lib.strCells_length];omega
  · rw [wM a aN];rfl
  · obtain rfl:b=0:=by omega
    rw [←Array.getElem?_toList]
    simp only [Array.toList_append,Nat.mul_one,Nat.add_zero]
    by_cases h:a<l.length
    · obtain ⟨v,ba,aw⟩:=yu a h
      rw [List.append_assoc,List.getElem?_append_left (by simpa [aD] using h),ba]
      have:(l++s.data.toList).getD a 0=l.getD a 0:=by simp [List.getD_eq_getElem?_getD,List.getElem?_append_left h]
      rw [this]
      have k7:=aw
      unfold bk at k7
      cases k7
      rfl
    · rw [List.append_assoc,List.getElem?_append_right (by simp [aD];omega),List.getElem?_append_left (by simp [aD,Lib.strCells_length];omega)]
      rw [py _ (by simp [aD];omega)]
      have:(l++s.data.toList).getD a 0=s.data.toList.getD (a- l.length) 0:=by simp only [List.getD_eq_getElem?_getD];rw [List.getElem?_append_right (by omega)]
      rw [this,aD]
  · obtain rfl:b=0:=by omega
    rw [wM a aN]
    exact EJ _
 generalize nt:l.map bk=o5 at ag
 cases ag with
 |eR own=>
  obtain rfl:l=[]:=by simpa using nt
  have gw:=run_append_nil_string (P:=P) w t u ty e i z an hu ab lL s js (by have:s.size≤140737488355328:=by simpa using cF
                                                                            omega) (by rw [jt];have:s.size≤140737488355328:=by simpa using cF
                                                                                       omega)
  have et:=grownCap_ge w s.size 0 e
  have qp:=grownCap_le_maxLen w s.size 0 e (ti _ (by simpa using cF))
  have ay:(s.data.map fun b=>Value.int .u8 b.toNat)=(Lib.strCells s).toArray:=by
   apply Array.ext'
   simp [Lib.strCells]
  rw [ay] at gw
  obtain ⟨lim',dI,aA,I,J,ak⟩:=tk [] (grownCap w s.size 0 e) rfl (fun a aN=>absurd aN (Nat.not_lt_zero _)) (by simpa using et) qp
  simp only [List.length_nil,Nat.zero_add,List.nil_append,Array.empty_append] at I J ak
  exact ⟨_,_,lim',dI, .inr ⟨_,_,_,_,rfl,by rw [aA];simp,ek,mU w.drew _⟩,gw,I,J,ak⟩
 |own b iz cap sz l' cv cur bY I J ak aH aQ bw db cA dx eY hq=>
  subst nt
  have yQ:l.length=iz:=by simpa using I
  subst yQ
  have ku:∀a,a<l.length→(l.map bk).getD a .aP=bk (l.getD a 0):=fun a aN=>by simp [List.getD_eq_getElem?_getD,List.getElem?_eq_getElem aN]
  have pn:l.length=0∨sz=1:=by
   rcases Nat.eq_zero_or_pos l.length with h|h
   · exact .inl h
   · exact .inr (by rw [←cA 0 h,ku 0 h];rfl)
  have jh:∀a,a<l.length→∃v,w.cell? ⟨b,a,none⟩=some v∧aF w lim v (bk (l.getD a 0)) []:=fun a aN=>by
   rcases pn with h|h
   · omega
   · subst h
     have bZ:=eY a 0 aN (by omega)
     have bo:=hq a 0 aN (by omega)
     rw [ku a aN] at bo
     simp only [Nat.mul_one,Nat.add_zero] at bZ
     exact ⟨_,bZ,bo⟩
  by_cases pz:l.length+s.size≤cap
  · have qm:sz=1:=by
     rcases pn with h|h
     · rcases aQ with aQ|aQ<;>omega
     · exact h
    subst qm
    simp only [Nat.mul_one] at db dx
    obtain rfl:bY=e:=by
     rcases aC with aC|⟨g,_,_,_,ba,_,_,a8⟩
     · cases aC
     · cases ba
       rw [bw] at a8
       simp only [Option.some.injEq,Obj.cells.injEq] at a8
       exact a8.2.1
    have gw:(Builtin.append_ #[t,u] ty #[.slice (some ⟨b,0,none⟩) l.length cap, .string s]).run P w=
     .ok (.slice (some ⟨b,0,none⟩) (l.length+s.size) cap) (w.setRow b (cur.toList.take l.length++Lib.strCells s++cur.toList.drop (l.length+s.size)).toArray):=by
     have aM:=Lib.run_firstCells_string (P:=P) w 1 s
     have bU:=run_storeCells_at P b l.length bY (Lib.strCells s) 0 cur w bw (by simpa [Lib.strCells_length] using (by omega:l.length+s.size≤cur.size)) (Lib.strCells_oneCell s)
     simp only [Nat.add_zero,Lib.strCells_length] at bU
     simp [Builtin.append_,run_underlying an,run_underlying hu,sizeOf,typeInfo,ab,n7,Builtin.lenOf,pz,aM,Addr.add_lit,bU]
    generalize cW:(cur.toList.take l.length++Lib.strCells s++cur.toList.drop (l.length+s.size)).toArray=A at gw
    have nL:(w.setRow b A).heap[b]?=some (.cells A bY (0,0)):=setRow_heap w b cur A bY (0,0) bw
    have jK:∀k,k<l.length→A[k]?=cur[k]?:=fun k ai=>by
     rw [←cW]
     rw [List.getElem?_toArray,List.append_assoc,List.getElem?_append_left (by simp;omega),List.getElem?_take,if_pos ai,Array.getElem?_toList]
    obtain ⟨s1,s2⟩:=st.Cs (w':=w.setRow b A) (by simp) (fun c ah=>setRow_other w b c A ah) (l.length+s.size) (by omega) (fun o aD=>by
     rw [←dx] at aD
     simp [World.cell?,nL,bw,jK o aD]) rfl rfl rfl
    refine ⟨_,_,_,[b], .inr ⟨_,_,_,_,rfl,by simp,ek,nL⟩,gw,s1,?_,s2⟩
    refine rE (sz:=1) (cv:=fun a _=> .int .u8 ((l++s.data.toList).getD a 0).toNat) (by simp [b5]) pz ak cF (.inl (by omega)) nL (by rw [←cW];simp [Lib.strCells_length];omega) (fun a aN=>?_) (by rw [qn,Nat.mul_one]) (fun a ft aN ag=>?_) (fun a ft aN ag=>?_)
    · rw [wM a aN];rfl
    · obtain rfl:ft=0:=by omega
      simp only [Nat.mul_one,Nat.add_zero]
      by_cases h:a<l.length
      · rw [jK a h]
        obtain ⟨v,bZ,bo⟩:=jh a h
        simp only [World.cell?,bw] at bZ
        have:(l++s.data.toList).getD a 0=l.getD a 0:=by simp [List.getD_eq_getElem?_getD,List.getElem?_append_left h]
        rw [this]
        unfold bk at bo
        cases bo
        exact bZ
      · rw [←cW,List.getElem?_toArray,List.append_assoc,List.getElem?_append_right (by simp;omega),List.getElem?_append_left (by simp [Lib.strCells_length];omega)]
        have az:(cur.toList.take l.length).length=l.length:=by simp;omega
        rw [az,py _ (by omega)]
        have:(l++s.data.toList).getD a 0=s.data.toList.getD (a- l.length) 0:=by simp only [List.getD_eq_getElem?_getD];rw [List.getElem?_append_right (by omega)]
        rw [this]
    · obtain rfl:ft=0:=by omega
      rw [wM a aN]
      exact EJ _
  · have Mp:∃gR:List Value,gR.length=l.length∧(∀a,a<l.length→∃v,gR[a]?=some v∧w.cell? ⟨b,a,none⟩=some v∧aF w lim v (bk (l.getD a 0)) []):=by
     refine ⟨(List.range l.length).map fun a=>(w.cell? ⟨b,a,none⟩).getD undef,by simp,fun a aN=>?_⟩
     obtain ⟨v,bZ,bo⟩:=jh a aN
     exact ⟨v,by simp [aN,bZ],bZ,bo⟩
    obtain ⟨gR,aD,hold⟩:=Mp
    have yw:=growslice_fits (need:=l.length+s.size) (old:=cap) (bytes:=i.bytes) (by omega) (by rw [jt];omega)
    have gw:=Lib.run_append_grow_string (P:=P) w t u ty e i z an hu ab lL ⟨b,0,none⟩ l.length cap gR (by rw [n7,aD,Nat.mul_one]) (fun j v aG=>by
     have bN:j<l.length:=by
      rw [←aD]
      rcases Nat.lt_or_ge j gR.length with h|h
      · exact h
      · rw [List.getElem?_eq_none h] at aG;cases aG
     obtain ⟨fN,bZ,bo,_⟩:=hold j bN
     rw [aG] at bZ
     cases bZ
     rw [addr_add,Nat.zero_add]
     exact bo) s (by omega) (by omega) yw
    have et:=grownCap_ge w (l.length+s.size) cap e
    have qp:=grownCap_le_maxLen w (l.length+s.size) cap e (ti _ cF)
    obtain ⟨lim',dI,aA,s1,s2,ht⟩:=tk gR (grownCap w (l.length+s.size) cap e) aD (fun a aN=>by obtain ⟨v,bZ,_,gK⟩:=hold a aN;exact ⟨v,bZ,gK⟩) et qp
    exact ⟨_,_,lim',dI, .inr ⟨_,_,_,_,rfl,by rw [aA];simp,ek,mU w.drew _⟩,gw,s1,s2,ht⟩
end
end Go.bb
end
section
namespace Go.bb
open Go
section
variable {P:Program} {F:Nat→Prop} {lim:Nat→Nat} {w:World} {n:Nat} {fr:Fr} {m:ae} {ca:Act} {bn:List Nat}
theorem aV.EK {mh:Nat→Prop} (st:aV mh lim w n fr m ca bn) (h:∀c,F c→mh c):aV F lim w n fr m ca bn:=by
 obtain ⟨os,b3,bu,s⟩:=st
 exact ⟨os,b3,bu,s.size,s.defers,s.dv,fun b o ag=>⟨(s.mem b o ag).1,(s.mem b o ag).2.1,fun dB=>(s.mem b o ag).2.2 (h b dB)⟩,s.ea,s.dn,s.fs,fun c ah=>⟨fun dB=>(s.free c ah).1 (h c dB),(s.free c ah).2⟩,
  fun b ag=>⟨(s.fresh b ag).1,fun dB=>(s.fresh b ag).2.1 (h b dB),(s.fresh b ag).2.2⟩⟩
theorem aV.Af (st:aV F lim w n fr m ca []) {b:Nat} {e eb:TypeId} {l:List aa} (hm:m b=some (.bx e eb l)):
 ∃p v os,¬F b∧lim b=0∧w.heap[b]?=some (.cells #[p,v] e (0,0))∧(p= .pointer none∨p= .pointer (some ⟨b,0,none⟩))∧aF w lim v (.slice true l) os∧pS w eb v os (l≠[])∧
  (∀c∈os,¬F c∧m c=none∧c≠b)∧aV (fun c=>F c∨c=b) lim w n fr (m.bX b none) ca os∧aV (fun c=>F c∨c=b∨c∈os) lim w n fr (m.bX b none) ca []:=by
 obtain ⟨os,b3,bu,s⟩:=st
 obtain ⟨e4,av,dB⟩:=s.mem b _ hm
 have iO:=s.dn b _ hm 1
 generalize a8:b3 b=fM at e4 iO
 have bN:b<w.heap.size:=by
  rcases Nat.lt_or_ge b w.heap.size with h|h
  · exact h
  · rw [(s.fresh b h).2.2] at hm;cases hm
 have hp:∀(c:Nat) o,(m.bX b none) c=some o→c≠b∧m c=some o:=fun c o h=>by
  simp only [ae.bX] at h
  by_cases e:c=b
  · rw [if_pos e] at h;cases h
  · rw [if_neg e] at h;exact ⟨e,h⟩
 have wN:∀(c:Nat),m c=none→(m.bX b none) c=none:=fun c h=>by
  simp only [ae.bX];split
  · rfl
  · exact h
 cases e4 with
 |bx p v _ _ _ _ ag aB aw Mq=>
  have iN:∀c∈fM 1,¬F c∧m c=none∧c<w.heap.size:=fun c ah=>s.free c (by rw [iO.2 c ah];simp)
  have ek:∀c∈fM 1,c≠b:=fun c ah e=>by
   have:=(iN c ah).2.1
   rw [e,hm] at this;cases this
  refine ⟨p,v,fM 1,dB,av,ag,aB,aw,Mq,fun c ah=>⟨(iN c ah).1,(iN c ah).2.1,ek c ah⟩,?_,?_⟩
  · refine ⟨os,b3,fun c=>if bu c= .nD b 1 then .ka else bu c,s.size,s.defers,s.dv,fun c o h=>?_,fun t x ao=>⟨(s.ea t x ao).1,fun c ah=>?_⟩,fun c o h i=>?_,⟨iO.1,fun c ah=>by rw [if_pos (iO.2 c ah)]⟩,fun c ah=>?_,fun c ah=>?_⟩
    · obtain ⟨ay,I⟩:=hp c o h
      have:=s.mem c o I
      exact ⟨this.1,this.2.1,fun aL=>aL.elim this.2.2 ay⟩
    · rw [(s.ea t x ao).2 c ah,if_neg (by simp)]
    · obtain ⟨ay,I⟩:=hp c o h
      refine ⟨(s.dn c o I i).1,fun d a7=>?_⟩
      rw [(s.dn c o I i).2 d a7,if_neg (by simp [ay])]
    · have jh:bu c≠ .none:=fun h=>ah (by rw [h,if_neg (by simp)])
      have:=s.free c jh
      refine ⟨fun aL=>aL.elim this.1 fun e=>?_,wN c this.2.1,this.2.2⟩
      have J:=this.2.1
      rw [e,hm] at J;cases J
    · have:=s.fresh c ah
      exact ⟨this.1,fun aL=>aL.elim this.2.1 fun e=>by omega,wN c this.2.2⟩
  · refine ⟨os,b3,fun c=>if bu c= .nD b 1 then .none else bu c,s.size,s.defers,s.dv,fun c o h=>?_,fun t x ao=>⟨(s.ea t x ao).1,fun c ah=>?_⟩,fun c o h i=>?_,⟨List.nodup_nil,fun c ah=>by cases ah⟩,fun c ah=>?_,fun c ah=>?_⟩
    · obtain ⟨ay,I⟩:=hp c o h
      have:=s.mem c o I
      refine ⟨this.1,this.2.1,fun aL=>aL.elim this.2.2 fun aL=>aL.elim ay fun ah=>?_⟩
      rw [(iN c ah).2.1] at I;cases I
    · rw [(s.ea t x ao).2 c ah,if_neg (by simp)]
    · obtain ⟨ay,I⟩:=hp c o h
      refine ⟨(s.dn c o I i).1,fun d a7=>?_⟩
      rw [(s.dn c o I i).2 d a7,if_neg (by simp [ay])]
    · have Ag:bu c≠ .nD b 1:=fun h=>ah (by rw [if_pos h])
      have jh:bu c≠ .none:=fun h=>ah (by rw [if_neg Ag,h])
      have:=s.free c jh
      refine ⟨fun aL=>aL.elim this.1 fun aL=>aL.elim (fun e=>?_) (fun Ah=>Ag (iO.2 c Ah)),wN c this.2.1,this.2.2⟩
      have J:=this.2.1
      rw [e,hm] at J;cases J
    · have:=s.fresh c ah
      exact ⟨this.1,fun aL=>aL.elim this.2.1 fun aL=>aL.elim (fun e=>by omega) (fun Ah=>by have:=(iN c Ah).2.2;omega),wN c this.2.2⟩
theorem aV.Mr {b:Nat} {e eb:TypeId} {l:List aa} {p v:Value} {ox:List Nat} (st:aV (fun c=>F c∨c=b) lim w n fr (m.bX b none) ca ox) (dB:¬F b) (av:lim b=0) (ag:w.heap[b]?=some (.cells #[p,v] e (0,0)))
 (aB:p= .pointer none∨p= .pointer (some ⟨b,0,none⟩)) (aw:aF w lim v (.slice true l) ox) (aC:pS w eb v ox (l≠[])):aV F lim w n fr (m.bX b (some (.bx e eb l))) ca []:=by
 obtain ⟨os,b3,bu,s⟩:=st
 have bN:b<w.heap.size:=by
  rcases Nat.lt_or_ge b w.heap.size with h|h
  · exact h
  · rw [Array.getElem?_eq_none h] at ag;cases ag
 have pw:∀c∈ox,bu c= .ka:=s.fs.2
 have hh:∀(c:Nat) (x:Option e2),c≠b→(m.bX b x) c=m c:=fun c x h=>by simp only [ae.bX,if_neg h]
 refine ⟨os,fun c=>if c=b then (fun i=>if i=1 then ox else []) else b3 c,fun c=>if c∈ox then .nD b 1 else bu c,s.size,s.defers,s.dv,fun c o h=>?_,fun t x ao=>⟨(s.ea t x ao).1,fun c ah=>?_⟩,fun c o h i=>?_,⟨List.nodup_nil,fun c ah=>by cases ah⟩,fun c ah=>?_,fun c ah=>?_⟩
 · by_cases ay:c=b
   · subst ay
     simp only [ae.bX,if_true] at h
     obtain rfl:=Option.some.inj h
     refine ⟨?_,av,dB⟩
     simp only [if_true]
     exact .bx p v _ _ _ _ ag aB (by simpa using aw) (by simpa [pS] using aC)
   · rw [hh c _ ay] at h
     simp only [if_neg ay]
     have:=s.mem c o (by rw [hh c _ ay];exact h)
     exact ⟨this.1,this.2.1,fun aL=>this.2.2 (.inl aL)⟩
 · have I:=(s.ea t x ao).2 c ah
   rw [if_neg (fun hm=>by rw [pw c hm] at I;cases I)]
   exact I
 · by_cases ay:c=b
   · subst ay
     simp only [if_true]
     by_cases ab:i=1
     · subst ab
       simp only [if_true]
       exact ⟨s.fs.1,fun d a7=>by rw [if_pos a7]⟩
     · simp [if_neg ab]
   · rw [hh c _ ay] at h
     simp only [if_neg ay]
     have J:=s.dn c o (by rw [hh c _ ay];exact h) i
     refine ⟨J.1,fun d a7=>?_⟩
     have I:=J.2 d a7
     rw [if_neg (fun hm=>by rw [pw d hm] at I;cases I)]
     exact I
 · have jh:bu c≠ .none:=fun h=>by
    by_cases hm:c∈ox
    · rw [pw c hm] at h;cases h
    · exact ah (by rw [if_neg hm,h])
   have:=s.free c jh
   have ay:c≠b:=fun e=>this.1 (.inr e)
   refine ⟨fun aL=>this.1 (.inl aL),?_,this.2.2⟩
   rw [hh c _ ay]
   have J:=this.2.1
   rwa [hh c _ ay] at J
 · have:=s.fresh c ah
   refine ⟨this.1,fun aL=>this.2.1 (.inl aL),?_⟩
   have ay:c≠b:=by omega
   rw [hh c _ ay]
   have J:=this.2.2
   rwa [hh c _ ay] at J
theorem aV.EL {b i:Nat} {x:Value} (st:aV F lim w n fr m ca bn) (dB:F b) (av:lim b=0):aV F lim (w.setCell ⟨b,i,none⟩ x) n fr m ca bn:=by
 have hm:m b=none:=by
  obtain ⟨os,b3,bu,s⟩:=st
  cases h:m b with
  |none=>rfl
  |some o=>exact ((s.mem b o h).2.2 dB).elim
 have aM:∀c,w.heap.size≤c→lim c=0:=fun c ah=>by
  obtain ⟨os,b3,bu,s⟩:=st
  exact (s.fresh c ah).1
 refine st.world (by simp) (fun _=>Nat.le_refl _) (fun c o aD=>?_) (fun c ah=>?_) (fun c ah=>?_) (fun c ah=>aM c (by simpa using ah))
 · have:c≠b:=fun e=>by subst e;omega
   simp [World.cell?,heap_setCell_other w ⟨b,i,none⟩ c x this]
 · by_cases e:c=b
   · subst e;exact .inl fun h=>h.1 dB
   · exact .inr ⟨heap_setCell_other w ⟨b,i,none⟩ c x e,rfl⟩
 · have:c≠b:=fun e=>ah (e▸hm)
   exact ⟨heap_setCell_other w ⟨b,i,none⟩ c x this,rfl⟩
theorem EM {b i:Nat} {x:Value} (dB:¬F b) (av:lim b=0):cU F w lim (w.setCell ⟨b,i,none⟩ x) lim:=by
 refine ⟨rfl,rfl,rfl,by simp,fun c ah=>⟨heap_setCell_other w ⟨b,i,none⟩ c x (fun e=>by have az:c=b:=e;subst az;exact dB ah),rfl⟩,fun _=>Nat.le_refl _,fun c o aD=>?_⟩
 have:c≠b:=fun e=>by subst e;omega
 simp [World.cell?,heap_setCell_other w ⟨b,i,none⟩ c x this]
theorem EN {b i:Nat} {x v:Value} {y:aa} {os:List Nat} (aw:aF w lim v y os) (av:lim b=0) (iN:∀c∈os,c≠b):aF (w.setCell ⟨b,i,none⟩ x) lim v y os:=
 aw.fX (fun _=>Nat.le_refl _) (fun c o aD=>by
  have:c≠b:=fun e=>by subst e;omega
  simp [World.cell?,heap_setCell_other w ⟨b,i,none⟩ c x this]) (fun c ah=>⟨heap_setCell_other w ⟨b,i,none⟩ c x (iN c ah),rfl⟩)
theorem EO {b i:Nat} {x v:Value} {eb:TypeId} {os:List Nat} {ne:Prop} (h:pS w eb v os ne) (iN:∀c∈os,c≠b):pS (w.setCell ⟨b,i,none⟩ x) eb v os ne:=by
 rcases h with h|⟨g,k,c,cur,I,J,ak,aH⟩
 · exact .inl h
 · exact .inr ⟨g,k,c,cur,I,J,ak,(heap_setCell_other w ⟨b,i,none⟩ g x (iN g J)).trans aH⟩
theorem Ms {cargs:Array Value} (h:cargs.size=2):∃x y,cargs=#[x,y]:=by
 match cargs,h with
 |⟨[x,y]⟩,_=>exact ⟨x,y,rfl⟩
theorem wO {cargs:Array Value} (h:cargs.size=1):∃x,cargs=#[x]:=by
 match cargs,h with
 |⟨[x]⟩,_=>exact ⟨x,rfl⟩
set_option maxHeartbeats 1000000 in
theorem Mt {f:FuncId} {e eb t u:TypeId} (aM:∃fn,P.funcs[f]?=some fn∧fn.body.isSome=true∧(fn.name== "runtime.NumGoroutine")=false)
 (an:P.underlying t=some (.slice eb)) (hu:P.underlying u=some .string) (au:jP P eb=true) (uD:P.cellsOf eb=1) (n3:P.bytesOf eb=1)
 (gw:∀(b:Nat) (s:ByteArray) (w cf dQ:World) (p:Value) (a:Option Addr) (n c:Nat) (b9:Option Addr) (pT n8:Nat),w.heap[b]?=some (.cells #[p, .slice a n c] e (0,0))→
   ((p= .pointer none∧cf=w.setCell ⟨b,0,none⟩ (.pointer (some ⟨b,0,none⟩)))∨(p= .pointer (some ⟨b,0,none⟩)∧cf=w))→
   (Builtin.append_ #[t,u] t #[.slice a n c, .string s]).run P cf= .ok (.slice b9 pT n8) dQ→dQ.heap[b]?=some (.cells #[.pointer (some ⟨b,0,none⟩), .slice a n c] e (0,0))→
   Calls P f #[.pointer (some ⟨b,0,none⟩), .string s] w fun e w'=>e= .returned (.tuple #[.int .i64 s.size, .nilIface])∧w'=dQ.setCell ⟨b,1,none⟩ (.slice b9 pT n8))
 {b:Nat} {l s:List UInt8} {K:aa→ae→Prop} (hm:m b=some (.bx e eb (l.map bk))) (hlen:l.length+s.length≤140737488355328)
 (ad:K (.tuple [.int .i64 s.length, .nilIface]) (m.bX b (some (.bx e eb ((l++s).map bk))))):bp P f [.ptr ⟨b,0,none⟩, .str s] m K:=by
 refine ⟨aM,fun F lim w cargs aj aw st=>?_⟩
 obtain ⟨x,y,rfl⟩:=Ms aj
 have nu:aF w lim x (.ptr ⟨b,0,none⟩) []:=aw 0 (by simp)
 have h4:aF w lim y (.str s) []:=aw 1 (by simp)
 cases nu
 obtain ⟨jw,rfl,rfl⟩:∃jw:ByteArray,y= .string jw∧jw.data.toList=s:=by
  cases h4 with
  |str jw h=>exact ⟨jw,rfl,rfl⟩
 have b5:jw.data.toList.length=jw.size:=by rw [Array.length_toList];rfl
 obtain ⟨p,v,os,dB,av,ag,aB,la,aC,iN,qV,_⟩:=st.Af hm
 have ek:∀c∈os,c≠b:=fun c ah=>(iN c ah).2.2
 obtain ⟨cf,Ai,Aj,EP,ER,zR,Mu⟩:∃cf,((p= .pointer none∧cf=w.setCell ⟨b,0,none⟩ (.pointer (some ⟨b,0,none⟩)))∨(p= .pointer (some ⟨b,0,none⟩)∧cf=w))∧
  aV (fun c=>F c∨c=b) lim cf 0 [] (m.bX b none) mn os∧aF cf lim v (.slice true (l.map bk)) os∧pS cf eb v os (l.map bk≠[])∧cf.heap[b]?=some (.cells #[.pointer (some ⟨b,0,none⟩),v] e (0,0))∧cU F w lim cf lim:=by
  rcases aB with rfl|rfl
  · exact ⟨_, .inl ⟨rfl,rfl⟩,qV.EL (.inr rfl) av,EN la av ek,EO aC ek,by rw [heap_setCell_same _ b 0 _ e _ ag];rfl,EM dB av⟩
  · exact ⟨w, .inr ⟨rfl,rfl⟩,qV,la,aC,ag, .refl _ _ _⟩
 obtain ⟨fN,dQ,lim',dI,wP,cW,wQ,ES,ET⟩:=Mo (ty:=t) Aj an hu au uD n3 jw EP (by rw [b5] at hlen;exact hlen) ER
 obtain ⟨a,k,c,rfl⟩:∃a k c,v= .slice a k c:=by
  rcases ER with h|⟨g,k,c,_,h,_⟩
  · exact ⟨_,_,_,h⟩
  · exact ⟨_,_,_,h⟩
 obtain ⟨b9,cX,n8,rfl⟩:∃a k c,fN= .slice a k c:=by
  rcases wP with h|⟨g,k,c,_,h,_⟩
  · exact ⟨_,_,_,h⟩
  · exact ⟨_,_,_,h⟩
 obtain ⟨nj,ni⟩:=ET.res b (.inr rfl)
 rw [zR] at nj
 rw [av] at ni
 have EU:∀c∈dI,c≠b:=fun c ah ay=>by
  obtain ⟨os,b3,bu,s⟩:=wQ
  have:=(s.free c (by rw [s.fs.2 c ah];simp)).1
  exact this (.inr ay)
 refine (gw b jw w cf dQ p a k c b9 cX n8 ag Ai cW nj).mono fun ay eN ⟨he,o6⟩=>?_
 subst he;subst o6
 have Mv:(dQ.setCell ⟨b,1,none⟩ (.slice b9 cX n8)).heap[b]?=some (.cells #[.pointer (some ⟨b,0,none⟩), .slice b9 cX n8] e (0,0)):=by rw [heap_setCell_same _ b 1 _ e _ nj];rfl
 refine ⟨_,_,lim',_,[],rfl,ad,?_,(wQ.EL (.inr rfl) ni).Mr dB ni Mv (.inr rfl) (EN ES ni EU) (EO wP EU),(Mu.trans (ET.weaken fun c ah=> .inl ah)).trans (EM dB ni)⟩
 have:=aF.tuple (w:=dQ.setCell ⟨b,1,none⟩ (.slice b9 cX n8)) (lim:=lim') #[.int .i64 jw.size, .nilIface] [.int .i64 (jw.data.toList.length:Int), .nilIface] (fun _=>[]) rfl (fun i ab=>by
  match i,ab with
  |0,_=>
   rw [b5]
   exact .int _ _ (by show (-9223372036854775808:Int)≤_;omega) (by show _≤(9223372036854775807:Int);omega)
  |1,_=>exact .nilIface)
 exact this
end
end Go.bb
end
section
namespace Go.bb
open Go
section
variable {P:Program} {F:Nat→Prop} {lim:Nat→Nat} {w:World} {n:Nat} {fr:Fr} {m:ae} {ca:Act} {bn:List Nat}
theorem EV (w:World) (a:Addr) (k c:Nat) (h:c≠a.block):(w.freeze a k).heap[c]?=w.heap[c]?:=by
 unfold World.freeze
 split
 · rfl
 · simp only [Array.getElem?_modify]
   rw [if_neg (fun e=>h e.symm)]
theorem Mw (w:World) (a:Addr) (k b o:Nat):(w.freeze a k).cell? ⟨b,o,none⟩=w.cell? ⟨b,o,none⟩:=by
 by_cases h:b=a.block
 · subst h
   unfold World.freeze
   split
   · rfl
   · simp only [World.cell?,Array.getElem?_modify,if_true]
     cases w.heap[a.block]? with
     |none=>rfl
     |some fM=>cases fM<;>rfl
 · simp [World.cell?,EV w a k b h]
theorem EW {g k c:Nat} {l:List UInt8} {os:List Nat} (aw:aF w lim (.slice (some ⟨g,0,none⟩) k c) (.slice true (l.map bk)) os) (aA:l≠[]):
 k=l.length∧c≠0∧(∃cur e,w.heap[g]?=some (.cells cur e (0,0))∧l.length≤cur.size)∧(∀j x,l[j]?=some x→w.cell? ⟨g,j,none⟩=some (.int .u8 x.toNat))∧l.length≤140737488355328:=by
 have js:0<l.length:=List.length_pos_iff.2 aA
 have ku:∀a,a<l.length→(l.map bk).getD a .aP=bk (l.getD a 0):=fun a aN=>by simp [List.getD_eq_getElem?_getD,List.getElem?_eq_getElem aN]
 generalize nt:l.map bk=o5 at aw
 cases aw with
 |own b iz cap sz l' cv cur bY I J ak aH aQ bw db cA dx eY hq=>
  subst nt
  obtain rfl:l.length=k:=by simpa using I
  have b5:sz=1:=by rw [←cA 0 js,ku 0 js];rfl
  subst b5
  refine ⟨rfl,by omega,⟨cur,bY,bw,by omega⟩,fun j x ao=>?_,aH⟩
  have aG:j<l.length:=by
   rcases Nat.lt_or_ge j l.length with h|h
   · exact h
   · rw [List.getElem?_eq_none h] at ao;cases ao
  have bZ:=eY j 0 aG (by omega)
  have bo:=hq j 0 aG (by omega)
  rw [ku j aG,Mn] at bo
  simp only [Nat.mul_one,Nat.add_zero] at bZ
  have Mx:l.getD j 0=x:=by simp [List.getD_eq_getElem?_getD,ao]
  rw [Mx] at bo
  have gK:aF w lim (cv j 0) (.int .u8 x.toNat) []:=bo
  generalize cv j 0=kE at bZ gK
  cases gK
  exact bZ
theorem aV.EX {b:Nat} {e:TypeId} {p v:Value} (st:aV (fun c=>F c∨c=b) lim w n fr (m.bX b none) ca []) (dB:¬F b) (av:lim b=0) (ag:w.heap[b]?=some (.cells #[p,v] e (0,0))):aV F lim w n fr (m.bX b (some (.cells [.aP, .aP]))) ca []:=by
 obtain ⟨os,b3,bu,s⟩:=st
 have bN:b<w.heap.size:=by
  rcases Nat.lt_or_ge b w.heap.size with h|h
  · exact h
  · rw [Array.getElem?_eq_none h] at ag;cases ag
 have hh:∀(c:Nat) (x:Option e2),c≠b→(m.bX b x) c=m c:=fun c x h=>by simp only [ae.bX,if_neg h]
 refine ⟨os,fun c=>if c=b then (fun _=>[]) else b3 c,bu,s.size,s.defers,s.dv,fun c o h=>?_,s.ea,fun c o h i=>?_,s.fs,fun c ah=>?_,fun c ah=>?_⟩
 · by_cases ay:c=b
   · subst ay
     simp only [ae.bX,if_true] at h
     obtain rfl:=Option.some.inj h
     refine ⟨?_,av,dB⟩
     simp only [if_true]
     refine .cells _ e _ _ ag rfl fun i ab=>?_
     match i,ab with
     |0,_=>exact .aP _
     |1,_=>exact .aP _
   · rw [hh c _ ay] at h
     simp only [if_neg ay]
     have:=s.mem c o (by rw [hh c _ ay];exact h)
     exact ⟨this.1,this.2.1,fun aL=>this.2.2 (.inl aL)⟩
 · by_cases ay:c=b
   · simp [ay]
   · rw [hh c _ ay] at h
     simp only [if_neg ay]
     exact s.dn c o (by rw [hh c _ ay];exact h) i
 · have:=s.free c ah
   have ay:c≠b:=fun e=>this.1 (.inr e)
   refine ⟨fun aL=>this.1 (.inl aL),?_,this.2.2⟩
   rw [hh c _ ay]
   have J:=this.2.1
   rwa [hh c _ ay] at J
 · have:=s.fresh c ah
   refine ⟨this.1,fun aL=>this.2.1 (.inl aL),?_⟩
   have ay:c≠b:=by omega
   rw [hh c _ ay]
   have J:=this.2.2
   rwa [hh c _ ay] at J
theorem aV.drew (st:aV F lim w n fr m ca bn):aV F lim w.drew n fr m ca bn:=st.heap rfl
set_option maxHeartbeats 1000000 in
theorem My {f:FuncId} {e eb:TypeId} (aM:∃fn,P.funcs[f]?=some fn∧fn.body.isSome=true∧(fn.name== "runtime.NumGoroutine")=false)
 (gw:∀(b g c:Nat) (p:Value) (cur:Array Value) (l:List UInt8) (w:World),l≠[]→c≠0→l.length≤9223372036854775807→w.heap[b]?=some (.cells #[p, .slice (some ⟨g,0,none⟩) l.length c] e (0,0))→
   w.heap[g]?=some (.cells cur eb (0,0))→l.length≤cur.size→(∀j x,l[j]?=some x→w.cell? ⟨g,j,none⟩=some (.int .u8 x.toNat))→
   Calls P f #[.pointer (some ⟨b,0,none⟩)] w fun e w'=>e= .returned (.string ⟨l.toArray⟩)∧w'=w.drew.freeze ⟨g,0,none⟩ l.length)
 (kF:∀(b:Nat) (p:Value) (w:World),w.heap[b]?=some (.cells #[p, .slice none 0 0] e (0,0))→Calls P f #[.pointer (some ⟨b,0,none⟩)] w fun e w'=>e= .returned (.string ⟨#[]⟩)∧w'=w.drew)
 {b:Nat} {l:List UInt8} {K:aa→ae→Prop} (hm:m b=some (.bx e eb (l.map bk))) (ad:K (.str l) (m.bX b (some (.cells [.aP, .aP])))):bp P f [.ptr ⟨b,0,none⟩] m K:=by
 refine ⟨aM,fun F lim w cargs aj aw st=>?_⟩
 obtain ⟨x,rfl⟩:=wO aj
 have nu:aF w lim x (.ptr ⟨b,0,none⟩) []:=aw 0 (by simp)
 cases nu
 obtain ⟨p,v,os,dB,av,ag,aB,la,aC,iN,_,qV⟩:=st.Af hm
 rcases aC with rfl|⟨g,k,c,cur,rfl,a8,ek,Ak⟩
 · have kJ:l=[]:=by
    generalize nt:l.map bk=o5 at la
    cases la
    simpa using nt
   subst kJ
   refine (kF b p w ag).mono fun ay eN ⟨he,o6⟩=>?_
   subst he;subst o6
   exact ⟨_,_,lim,_,[],rfl,ad, .str ⟨#[]⟩ (Nat.zero_le _),((qV.drew).EK fun c ah=>ah.elim .inl fun h=> .inr (.inl h)).EX dB av ag, .drew _ _ _⟩
 · have aA:l≠[]:=fun h=>ek (by rw [h];rfl)
   obtain ⟨rfl,ry,⟨EY,bY,pU,hle⟩,hR,hlen⟩:=EW la aA
   have jK:EY=cur:=by
    rw [Ak] at pU
    simp only [Option.some.injEq,Obj.cells.injEq] at pU
    exact pU.1.symm
   subst jK
   obtain ⟨Mz,MA,EZ⟩:=iN g a8
   refine (gw b g c p EY l w aA ry (by omega) ag Ak hle hR).mono fun ay eN ⟨he,o6⟩=>?_
   subst he;subst o6
   have aM:∀c,w.heap.size≤c→lim c=0:=fun c ah=>by
    obtain ⟨os,b3,bu,s⟩:=qV
    exact (s.fresh c ah).1
   have b5:(w.drew.freeze ⟨g,0,none⟩ l.length).heap.size=w.heap.size:=by
    unfold World.freeze
    split
    · rfl
    · simp [heap_drew]
   have wR:∀c,c≠g→(w.drew.freeze ⟨g,0,none⟩ l.length).heap[c]?=w.heap[c]?:=fun c ah=>by rw [EV _ _ _ _ ah,heap_drew]
   have kh:∀b o,(w.drew.freeze ⟨g,0,none⟩ l.length).cell? ⟨b,o,none⟩=w.cell? ⟨b,o,none⟩:=fun b o=>by rw [Mw];simp [World.cell?,heap_drew]
   have wQ:aV (fun c=>F c∨c=b∨c∈os) lim (w.drew.freeze ⟨g,0,none⟩ l.length) 0 [] (m.bX b none) mn []:=by
    refine qV.world (by rw [b5];exact Nat.le_refl _) (fun _=>Nat.le_refl _) (fun b o _=>kh b o) (fun c ah=>?_) (fun c ah=>?_) (fun c ah=>aM c (by rw [←b5];exact ah))
    · by_cases ay:c=g
      · subst ay;exact .inl fun h=>h.1 (.inr (.inr a8))
      · exact .inr ⟨wR c ay,rfl⟩
    · have ay:c≠g:=fun ay=>by
       subst ay
       apply ah
       simp only [ae.bX,if_neg EZ]
       exact MA
      exact ⟨wR c ay,rfl⟩
   refine ⟨_,_,lim,_,[],rfl,ad,?_,(wQ.EK fun c ah=>ah.elim .inl fun h=> .inr (.inl h)).EX dB av (by rw [wR b (Ne.symm EZ)];exact ag),?_⟩
   · have:=aF.str (w:=w.drew.freeze ⟨g,0,none⟩ l.length) (lim:=lim) ⟨l.toArray⟩ (by rw [show (⟨l.toArray⟩:ByteArray).size=l.length from rfl];exact hlen)
     exact this
   · refine ⟨?_,?_,?_,by rw [b5];exact Nat.le_refl _,fun c ah=>⟨wR c (fun ay=>Mz (ay▸ah)),rfl⟩,fun _=>Nat.le_refl _,fun b o _=>kh b o⟩
     all_goals (unfold World.freeze;split<;>rfl)
theorem MB {ops:Array Oper} {l:List Oper} {K:Fr→ae→Prop} {d:Nat} {t eb:TypeId} {ty:TypeId} {pos:String} {af:Array Edge} {i:TypeInfo} (ab:P.info? t=some i) (au:i.zero=some (.agg #[.pointer none, .slice none 0 0]))
 (ai:ef n ⟨some d, .alloc t,ty,pos,af,none⟩=true) (h:∀b,m b=none→bB P n ops l K (fr.put d (.ptr ⟨b,0,none⟩)) (m.bX b (some (.bx t eb [])))):bB P n ops (⟨some d, .alloc t,ty,pos,af,none⟩::l) K fr m:=by
 refine bB.step rfl fun F lim w ca st next Q aJ=>?_
 have gw:(execOp ca.eval ⟨some d, .alloc t,ty,pos,af,none⟩).run P w= .ok (.value (.pointer (some ⟨w.heap.size,0,none⟩))) (w.alloc (.cells #[.pointer none, .slice none 0 0] t)):=by
  simp [execOp,Instr.alloc,newVar,newRow,zeroValue,typeInfo,ab,au,Value.cells]
 obtain ⟨I,J⟩:=st.xR #[.pointer none, .slice none 0 0] t [.eK, .slice true []] rfl (fun i ab=>by
  match i,ab with
  |0,_=>exact .eK
  |1,_=>exact .eR true)
 have Ag:w.heap[w.heap.size]?=none:=by simp
 have Aj:aV F lim (w.alloc (.cells #[.pointer none, .slice none 0 0] t)) n fr (m.bX w.heap.size (some (.bx t eb []))) ca []:=by
  obtain ⟨os,b3,bu,s⟩:=J
  have hh:∀(c:Nat) (x:Option e2),c≠w.heap.size→(m.bX w.heap.size x) c=m c:=fun c x h=>by simp only [ae.bX,if_neg h]
  refine ⟨os,fun c=>if c=w.heap.size then (fun _=>[]) else b3 c,bu,s.size,s.defers,s.dv,fun c o h=>?_,s.ea,fun c o h i=>?_,s.fs,fun c ah=>?_,fun c ah=>?_⟩
  · by_cases ay:c=w.heap.size
    · subst ay
      simp only [ae.bX,if_true] at h
      obtain rfl:=Option.some.inj h
      have:=s.mem w.heap.size (.cells [.eK, .slice true []]) (by simp only [ae.bX,if_true])
      refine ⟨?_,this.2⟩
      simp only [if_true]
      exact .bx _ _ _ _ _ _ (mU w _) (.inl rfl) (.eR true) (.inl rfl)
    · rw [hh c _ ay] at h
      simp only [if_neg ay]
      exact s.mem c o (by rw [hh c _ ay];exact h)
  · by_cases ay:c=w.heap.size
    · simp [ay]
    · rw [hh c _ ay] at h
      simp only [if_neg ay]
      exact s.dn c o (by rw [hh c _ ay];exact h) i
  · have:=s.free c ah
    refine ⟨this.1,?_,this.2.2⟩
    have ay:c≠w.heap.size:=fun ay=>by
     have J:=this.2.1
     rw [ay] at J
     simp [ae.bX] at J
    rw [hh c _ ay]
    have J:=this.2.1
    rwa [hh c _ ay] at J
  · have:=s.fresh c ah
    refine ⟨this.1,this.2.1,?_⟩
    have ay:c≠w.heap.size:=fun ay=>by
     have J:=this.2.2
     rw [ay] at J
     simp [ae.bX] at J
    rw [hh c _ ay]
    have J:=this.2.2
    rwa [hh c _ ay] at J
 have eh:=rJ st (.cells #[.pointer none, .slice none 0 0] t)
 exact mo gw (aJ lim _ _ _ _ (h _ I) (Aj.set (jr ai rfl) (.ptr _)) eh)
end
end Go.bb
end
