import Derived.Test.YtnahenbiipdlkaaGreatDoorPx21
import Derived.Test.YtnahenbiipdlkaaGreatDoorSv9
import Derived.Test.YtnahenbiipdlkaaGreatDoorPx4
section
namespace Go.Proofs
open Go Go.ba Go.bV
set_option maxRecDepth 100000
section
variable {l:List Tok} {n a:Int} {eJ:Type} [Inhabited eJ] {cC:Nat}
theorem Iy {T:List (aD×a7)→Int→bR eJ} {xs:List (aD×a7)} (aN:0<cC) (h:cI l 1 [105,110,112,117,116] a=true):pF l n T cC a xs=if (xs.length:Int)=8 then .bad 2 (dm l n a) else Ix l n (pF l n T (cC- 1)) (a+1) xs:=by
 obtain ⟨k,rfl⟩:∃k,cC=k+1:=⟨cC- 1,by omega⟩
 rw [pF,if_pos h];rfl
theorem Cx {T:List (aD×a7)→Int→bR eJ} {xs:List (aD×a7)} (aN:0<cC) (h:cI l 1 [105,110,112,117,116] a=false):pF l n T cC a xs=T xs a:=by
 obtain ⟨k,rfl⟩:∃k,cC=k+1:=⟨cC- 1,by omega⟩
 rw [pF,if_neg (dE h)]
theorem Sq {T:List cz→Int→bR eJ} {xs:List cz} (aN:0<cC) (h:cI l 1 [114,101,115,111,117,114,99,101] a=true):pG l n T cC a xs=if (xs.length:Int)=8 then .bad 2 (dm l n a) else (oQ l n (a+1)).bind fun x a=>pG l n T (cC- 1) a (xs++[x]):=by
 obtain ⟨k,rfl⟩:∃k,cC=k+1:=⟨cC- 1,by omega⟩
 rw [pG,if_pos h];rfl
theorem Cy {T:List cz→Int→bR eJ} {xs:List cz} (aN:0<cC) (h:cI l 1 [114,101,115,111,117,114,99,101] a=false):pG l n T cC a xs=T xs a:=by
 obtain ⟨k,rfl⟩:∃k,cC=k+1:=⟨cC- 1,by omega⟩
 rw [pG,if_neg (dE h)]
theorem Cz {T:List (aD×ax)→Int→bR eJ} {xs:List (aD×ax)} (aN:0<cC) (h:cI l 1 [111,117,116,112,117,116] a=true):pH l n T cC a xs=if (xs.length:Int)=8 then .bad 2 (dm l n a) else yA l n (pH l n T (cC- 1)) (a+1) xs:=by
 obtain ⟨k,rfl⟩:∃k,cC=k+1:=⟨cC- 1,by omega⟩
 rw [pH,if_pos h];rfl
theorem CA {T:List (aD×ax)→Int→bR eJ} {xs:List (aD×ax)} (aN:0<cC) (h:cI l 1 [111,117,116,112,117,116] a=false):pH l n T cC a xs=T xs a:=by
 obtain ⟨k,rfl⟩:∃k,cC=k+1:=⟨cC- 1,by omega⟩
 rw [pH,if_neg (dE h)]
end
section
variable (l:List Tok) (n:Int)
noncomputable def Iz (m:aD) (i:List (aD×a7)) (r:List cz) (o:List (aD×ax)) (a:Int):bR a6:= .ok ⟨m,i,r,o⟩ a
noncomputable def IA (m:aD) (i:List (aD×a7)) (r:List cz) (a:Int):bR a6:=pH l n (Iz m i r) (l.length+1) a []
noncomputable def IB (m:aD) (i:List (aD×a7)) (a:Int):bR a6:=pG l n (IA l n m i) (l.length+1) a []
end
theorem Sr {l:List Tok} {n a e q cn aM cM a2 aC bI:Int} {s m:aD} (h5:bx l (cK l n 1 [115,116,97,99,107] a) s a e q cn aM cM) (hU:bx l (cK l n 1 [] cn) m cn aM cM a2 aC bI):gw (l3 l n a) a e q a2 aC bI (pF l n (IB l n m) (l.length+1) a2 []):=by
 have h:=gw.start (P:=l3 l n a) (a:=a) (e:=e) (q:=q)
 unfold l3 at h
 exact (h.step h5).step hU
set_option maxHeartbeats 8000000 in
theorem Ss (l:List Tok) (n a e q:Int) (r:Nat) (av:l.length≤5000) (aG:0≤a) (aX:a≤l.length) (he:0≤e) (hw:n3 l) (ao:e=0) (m:ae) (gd:eE [r] m) (K:U→ae→Prop) (aV:eF m) (ab:∀bX cR cD cY,bx l (l3 l n a) bX a e q cR cD cY→K (bB bX) (ae.bf m [(r, .cells [.slice false (l.map ch), .int .i64 cR, .int .i64 n, .err 115 cD, .int .i64 cY])])):bg Tryz.prog 83 [.ptr ⟨r,0,none⟩] (ae.bf m [(r, .cells [.slice false (l.map ch), .int .i64 a, .int .i64 n, .err 115 e, .int .i64 q])]) K:=by
 refine enter (c:=cX [1000053] [] [11] [17999,23999] [17,23] [r]) (vs:=[.loc 0 0]) (L:=[bp l n a e q]) (m:=m) false b9 Tryz.mixed Tryz.func83 rfl (k:=1) (by show cu [17999,23999] _ _ _=true;decide+kernel) rfl (gd.hn rfl) ?_
 refine cF 115 [0] (σ:=aD×Int×Int×Int) (fun ⟨dO,cw,bQ,cf⟩=>(bx l (cK l n 1 ([115,116,97,99,107]:List UInt8) a) dO a e q cw bQ cf)∧(bQ≠0→dO=[])) (fun ⟨dO,cw,bQ,cf⟩=>aw dO) (fun ⟨dO,cw,bQ,cf⟩=>[bp l n cw bQ cf]) rfl (fun _=>rfl) (fun bs aF gd aB K ab=>ji l n a e q 1 ([115,116,97,99,107]:List UInt8) (bs.getD 0 0) av (by omega) (by omega) (by omega) aF gd K (fun dq cc bZ b1 aT ao=>ab (dq,cc,bZ,b1) ⟨aT,ao⟩)) ?_
 rintro ⟨dO,cw,bQ,cf⟩ bU
 dsimp only at bU
 obtain ⟨bU,pY⟩:=bU
 have tj:=bU.bw
 have qk:=bU.ad
 have tk:=bU.cm
 refine cF 115 [0] (σ:=aD×Int×Int×Int) (fun ⟨ek,eI,dt,dD⟩=>bx l (cK l n 1 [] cw) ek cw bQ cf eI dt dD) (fun ⟨ek,eI,dt,dD⟩=>aw ek) (fun ⟨ek,eI,dt,dD⟩=>[bp l n eI dt dD]) rfl (fun _=>rfl) (fun bs aF gd aB K ab=>n0 l n cw bQ cf (bs.getD 0 0) av (by omega) (by omega) (by omega) aF gd K (fun dq cc bZ b1 aT=>ab (dq,cc,bZ,b1) aT)) ?_
 rintro ⟨ek,eI,dt,dD⟩ dc
 dsimp only at dc
 have vW:=dc.bw
 have ie:=dc.ad
 have vX:=dc.cm
 refine az ?_
 refine b7 (σ:=Int×Int×Int×List (aD×a7)) [] [0,2,3] 3 (fun ⟨a2,aC,bI,xs⟩=>([(0, .loc 0 0),(2, .loc 1 0),(3, .loc 2 0)],[bp l n a2 aC bI, .cells [aw ([]), .own [], .own [], .own []], .cells [aw ek, .own (xs.map bM), .own [], .own []]],m)) (fun ⟨a2,aC,bI,xs⟩=>0≤a2∧a≤a2∧a2≤l.length∧0≤aC∧(aC=0→(xs.length:Int)≤8)∧xs.length≤9∧(aC=0→a<a2)∧∃cC:Nat,(aC=0→l.length- a2<cC)∧gw (l3 l n a) a e q a2 aC bI (pF l n (IB l n ek) cC a2 xs)) (fun ⟨a2,aC,bI,xs⟩=>if aC=0 then l.length- a2.toNat+1 else 0) (eI,dt,dD,[]) ⟨rfl,rfl⟩ ?_ ?_
 · try dsimp only
   exact ⟨by omega,by omega,by omega,by omega,fun _=>by simp,by simp,fun z=>by have:=bU.gt (dc.bA z);omega,l.length+1,fun _=>by omega,Sr bU dc⟩
 rintro ⟨a2,aC,bI,xs⟩ ay
 dsimp only at ay
 obtain ⟨St,Su,Sv,Sw,yC,Vf,Sx,IC,wk,CB⟩:=ay
 refine az ?_
 refine gn [0] [bp l n a2 aC bI] (eY (mx l 1 ([105,110,112,117,116]:List UInt8) a2 aC)) rfl (fun bs aF gd=>ti l n a2 aC bI 1 ([105,110,112,117,116]:List UInt8) (bs.getD 0 0) av (by omega) (by omega) (by omega) aF gd) ?_
 refine ah (fun J=>?_) (fun J=>?_)
 · obtain ⟨fD,v1⟩:=qs J
   have jY:=il v1
   refine br ?_
   refine cF 115 [0] (σ:=Int×Int) (fun ⟨ft,fG⟩=>n9 l n 2 a2 aC bI ft fG ((xs.length:Int)=8)) (fun ⟨ft,fG⟩=> .dw []) (fun ⟨ft,fG⟩=>[bp l n a2 ft fG]) rfl (fun _=>rfl) (fun bs aF gd aB K ab=>yB l n a2 aC bI (xs.length:Int) 8 (bs.getD 0 0) av (by omega) (by omega) (by omega) aF gd K (fun bZ b1 aT=>ab (bZ,b1) aT)) ?_
   rintro ⟨ft,fG⟩ dZ
   dsimp only at dZ
   have ya:=dZ.cm (by decide) (by omega)
   refine ah (by omega) ?_
   refine cF 115 [0] (σ:=aD×Int×Int×Int) (fun ⟨iE,hp,hq,hB⟩=>bx l (cK l n 1 [] (a2+1)) iE (a2+1) ft fG hp hq hB) (fun ⟨iE,hp,hq,hB⟩=>aw iE) (fun ⟨iE,hp,hq,hB⟩=>[bp l n hp hq hB]) rfl (fun _=>rfl) (fun bs aF gd aB K ab=>n0 l n (a2+1) ft fG (bs.getD 0 0) av (by omega) (by omega) (by omega) aF gd K (fun dq cc bZ b1 aT=>ab (dq,cc,bZ,b1) aT)) ?_
   rintro ⟨iE,hp,hq,hB⟩ eu
   dsimp only at eu
   have BY:=eu.bw
   have BZ:=eu.ad
   have B0:=eu.cm
   refine cF 115 [0] (σ:=aD×Int×Int×Int) (fun ⟨jj,gK,e2,fo⟩=>(bx l (cK l n 4 ([61]:List UInt8) hp) jj hp hq hB gK e2 fo)∧(e2≠0→jj=[])) (fun ⟨jj,gK,e2,fo⟩=>aw jj) (fun ⟨jj,gK,e2,fo⟩=>[bp l n gK e2 fo]) rfl (fun _=>rfl) (fun bs aF gd aB K ab=>ji l n hp hq hB 4 ([61]:List UInt8) (bs.getD 0 0) av (by omega) (by omega) (by omega) aF gd K (fun dq cc bZ b1 aT ao=>ab (dq,cc,bZ,b1) ⟨aT,ao⟩)) ?_
   rintro ⟨jj,gK,e2,fo⟩ e4
   dsimp only at e4
   obtain ⟨e4,Hc⟩:=e4
   have Hd:=e4.bw
   have He:=e4.ad
   have B3:=e4.cm
   refine gn [0] [bp l n gK e2 fo] (aj (dm l n gK)) rfl (fun bs aF gd=>BU l n gK e2 fo (bs.getD 0 0) av (by omega) (by omega) aF gd) ?_
   refine cF 115 [0] (σ:=ax×Int×Int×Int) (fun ⟨gN,eA,eG,e5⟩=>bx l (jB l n gK) gN gK e2 fo eA eG e5) (fun ⟨gN,eA,eG,e5⟩=>iS gN) (fun ⟨gN,eA,eG,e5⟩=>[bp l n eA eG e5]) rfl (fun _=>rfl) (fun bs aF gd aB K ab=>yn l n gK e2 fo 6 (bs.getD 0 0) (wb l n av hw 6 (by decide)) av (by omega) (by omega) (by omega) rfl aF gd K (eF.up aB aV) (fun fg cc bZ b1 aT=>ab (fg,cc,bZ,b1) aT)) ?_
   rintro ⟨gN,eA,eG,e5⟩ fA
   dsimp only at fA
   have v7:=fA.bw
   have v8:=fA.ad
   have wa:=fA.cm
   refine az ?_
   refine cq [0,2,3,4,5,6] 50 ((eG==0)&&((!(gN.kind==1))||(!(rW gN.v)))) ?_ ?_
   · repeat' first
      |exact ⟨⟨_,rfl,by grind [bD.val,rW]⟩,rfl⟩
      |refine ah (fun _=>?_) (fun _=>?_)
      |refine b2 (fun _=>Ch gN.v) rfl ?_
   refine ah (fun aa=>?_) (fun aa=>?_)
   · replace aa:(eG=0)∧((gN.kind≠1)∨(rW gN.v=false)):=⟨(eq_of_beq (eO aa)),((dj (fk aa)).imp (fun q=>(ne_of_beq_false (ds q))) (fun q=>(ds q)))⟩
     refine qm b9 115 rfl rfl ?_
     refine ap bM xs ([(⟨iE,gN.v⟩:(aD×a7))]:List (aD×a7)) rfl rfl (fun _=>⟨rfl,rfl⟩) (by (simp only [List.length_append,List.length_cons,List.length_nil];omega)) ?_
     refine ⟨(eA,5,dm l n gK,xs++([(⟨iE,gN.v⟩:(aD×a7))]:List (aD×a7))),⟨rfl,rfl⟩,?_,?_⟩
     · try dsimp only
       have c0:=fA.Se aa.1 aa.2
       have aI:=fun z=>dZ.no (by decide) (eu.bA (e4.bA (c0.bA z)))
       simp only [List.length_append,List.length_cons,List.length_nil]
       exact ⟨by omega,by omega,by omega,by omega,fun z=>by have:=aI z;have:=yC fD;omega,by have:=yC fD;omega,fun z=>by omega,IC- 1,fun z=>by have:=wk fD;omega,((((CB.to fun _=>Iy (by have:=wk fD;omega) v1).room dZ (by decide)).at ao).step eu |>.step e4).step c0⟩
     try dsimp only
     rw [if_pos fD]
     split<;>omega
   replace aa:(eG≠0)∨((gN.kind=1)∧(rW gN.v=true)):=((fl aa).imp (fun q=>(ne_of_beq_false q)) (fun q=>⟨(eq_of_beq (dn (b8 q))),(dn (di q))⟩))
   refine ap bM xs ([(⟨iE,gN.v⟩:(aD×a7))]:List (aD×a7)) rfl rfl (fun _=>⟨rfl,rfl⟩) (by (simp only [List.length_append,List.length_cons,List.length_nil];omega)) ?_
   refine ⟨(eA,eG,e5,xs++([(⟨iE,gN.v⟩:(aD×a7))]:List (aD×a7))),⟨rfl,rfl⟩,?_,?_⟩
   · try dsimp only
     have c0:=fA.Sf fun z=>aa.resolve_left fun c=>c z
     have aI:=fun z=>dZ.no (by decide) (eu.bA (e4.bA (c0.bA z)))
     simp only [List.length_append,List.length_cons,List.length_nil]
     exact ⟨by omega,by omega,by omega,by omega,fun z=>by have:=aI z;have:=yC fD;omega,by have:=yC fD;omega,fun z=>by omega,IC- 1,fun z=>by have:=wk fD;omega,((((CB.to fun _=>Iy (by have:=wk fD;omega) v1).room dZ (by decide)).at ao).step eu |>.step e4).step c0⟩
   try dsimp only
   rw [if_pos fD]
   split<;>omega
 refine az ?_
 refine b7 (σ:=Int×Int×Int×List cz) [] [0,2,3] 3 (fun ⟨a3,c8,gI,cA⟩=>([(0, .loc 0 0),(2, .loc 1 0),(3, .loc 2 0)],[bp l n a3 c8 gI, .cells [aw ([]), .own [], .own [], .own []], .cells [aw ek, .own (xs.map bM), .own (cA.map bK), .own []]],m)) (fun ⟨a3,c8,gI,cA⟩=>0≤a3∧a≤a3∧a3≤l.length∧0≤c8∧(c8=0→(cA.length:Int)≤8)∧cA.length≤9∧(c8=0→a<a3)∧∃cC:Nat,(c8=0→l.length- a3<cC)∧gw (l3 l n a) a e q a3 c8 gI (pG l n (IA l n ek xs) cC a3 cA)) (fun ⟨a3,c8,gI,cA⟩=>if c8=0 then l.length- a3.toNat+1 else 0) (a2,aC,bI,[]) ⟨rfl,rfl⟩ ?_ ?_
 · try dsimp only
   exact ⟨St,Su,Sv,Sw,fun _=>by simp,by simp,Sx,l.length+1,fun _=>by omega,CB.to fun z=>Cx (by have:=wk z;omega) (rD J z)⟩
 rintro ⟨a3,c8,gI,cA⟩ a1
 dsimp only at a1
 obtain ⟨Sy,Sz,SA,SB,ID,Vg,SC,SD,CC,IE⟩:=a1
 refine az ?_
 refine gn [0] [bp l n a3 c8 gI] (eY (mx l 1 ([114,101,115,111,117,114,99,101]:List UInt8) a3 c8)) rfl (fun bs aF gd=>ti l n a3 c8 gI 1 ([114,101,115,111,117,114,99,101]:List UInt8) (bs.getD 0 0) av (by omega) (by omega) (by omega) aF gd) ?_
 refine ah (fun ai=>?_) (fun ai=>?_)
 · obtain ⟨jS,v2⟩:=qs ai
   have jM:=il v2
   refine br ?_
   refine cF 115 [0] (σ:=Int×Int) (fun ⟨gC,gV⟩=>n9 l n 2 a3 c8 gI gC gV ((cA.length:Int)=8)) (fun ⟨gC,gV⟩=> .dw []) (fun ⟨gC,gV⟩=>[bp l n a3 gC gV]) rfl (fun _=>rfl) (fun bs aF gd aB K ab=>yB l n a3 c8 gI (cA.length:Int) 8 (bs.getD 0 0) av (by omega) (by omega) (by omega) aF gd K (fun bZ b1 aT=>ab (bZ,b1) aT)) ?_
   rintro ⟨gC,gV⟩ hr
   dsimp only at hr
   have Hj:=hr.cm (by decide) (by omega)
   refine ah (by omega) ?_
   refine gp b9 Tryz.mixed (σ:=Int×Int×Int×cz) (.f 0 (.f 2 (.o 1 (.s 3 (.s 4 (.s 5 (.f 6 (.s 7 .d))))) (.o 3 (.o 1 (.s 4 (.s 5 (.f 6 (.s 7 .d)))) (.o 4 (.s 1 (.s 5 (.f 6 (.s 7 .d)))) .z)) .z)))) [] [0,2,3] 3 (fun ⟨mC,f9,nw,lh⟩=>([(0, .loc 0 0),(2, .loc 1 0),(3, .loc 2 0)],[bp l n mC f9 nw, .cells [aw ([]), .own [], .own [], .own []], .cells [aw ek, .own (xs.map bM), .own ((cA++([lh]:List cz)).map bK), .own []]],m)) (fun ⟨mC,f9,nw,lh⟩=>bx l (oQ l n (a3+1)) lh (a3+1) gC gV mC f9 nw) (by decide+kernel) ?_ ?_
   · rintro ⟨mC,f9,nw,lh⟩ tJ
     try dsimp only at tJ
     have Vh:=tJ.bw
     have Vi:=tJ.ad
     have Vj:=tJ.cm
     refine ⟨(mC,f9,nw,cA++([lh]:List cz)),⟨rfl,rfl⟩,?_,?_⟩
     · try dsimp only
       have aI:=fun z=>hr.no (by decide) (tJ.bA z)
       simp only [List.length_append,List.length_cons,List.length_nil]
       exact ⟨by omega,by omega,by omega,by omega,fun z=>by have:=aI z;have:=ID jS;omega,by have:=ID jS;omega,fun z=>by omega,SD- 1,fun z=>by have:=CC jS;omega,(((IE.to fun _=>Sq (by have:=CC jS;omega) v2).room hr (by decide)).at ao).step tJ⟩
     try dsimp only
     rw [if_pos jS]
     split<;>omega
   repeat' first
    |refine ⟨(im,iF,iT,pI),⟨rfl,rfl⟩,fH⟩
    |(refine cF 115 [0] (σ:=cz×Int×Int×Int) (fun ⟨pI,im,iF,iT⟩=>bx l (oQ l n (a3+1)) pI (a3+1) gC gV im iF iT) (fun ⟨pI,im,iF,iT⟩=> .agg [aw pI.kind,aw pI.name,an (pI.parts.map bz)]) (fun ⟨pI,im,iF,iT⟩=>[bp l n im iF iT]) rfl (fun _=>rfl) (fun bs aF gd aB K ab=>Sl l n (a3+1) gC gV (bs.getD 0 0) av (by omega) (by omega) (by omega) hw aF gd K (eF.up aB aV) (fun fg cc bZ b1 aT=>ab (fg,cc,bZ,b1) aT)) ?_;rintro ⟨pI,im,iF,iT⟩ fH;dsimp only at fH;have Hf:=fH.bw;have Hg:=fH.ad;have Hh:=fH.cm)
    |refine ap bK cA ([pI]:List cz) rfl rfl (fun _=>⟨rfl,rfl⟩) (by (simp only [List.length_append,List.length_cons,List.length_nil];omega)) ?_
    |refine ⟨?_,?_,trivial⟩
 refine az ?_
 refine b7 (σ:=Int×Int×Int×List (aD×ax)) [] [0,2,3] 3 (fun ⟨a4,fQ,h4,aW⟩=>([(0, .loc 0 0),(2, .loc 1 0),(3, .loc 2 0)],[bp l n a4 fQ h4, .cells [aw ([]), .own [], .own [], .own []], .cells [aw ek, .own (xs.map bM), .own (cA.map bK), .own (aW.map bz)]],m)) (fun ⟨a4,fQ,h4,aW⟩=>0≤a4∧a≤a4∧a4≤l.length∧0≤fQ∧(fQ=0→(aW.length:Int)≤8)∧aW.length≤9∧(fQ=0→a<a4)∧∃cC:Nat,(fQ=0→l.length- a4<cC)∧gw (l3 l n a) a e q a4 fQ h4 (pH l n (Iz ek xs cA) cC a4 aW)) (fun ⟨a4,fQ,h4,aW⟩=>if fQ=0 then l.length- a4.toNat+1 else 0) (a3,c8,gI,[]) ⟨rfl,rfl⟩ ?_ ?_
 · try dsimp only
   exact ⟨Sy,Sz,SA,SB,fun _=>by simp,by simp,SC,l.length+1,fun _=>by omega,IE.to fun z=>Cy (by have:=CC z;omega) (rD ai z)⟩
 rintro ⟨a4,fQ,h4,aW⟩ cg
 dsimp only at cg
 obtain ⟨Vk,SE,IF,SF,IG,Vl,SG,SH,CD,CE⟩:=cg
 refine az ?_
 refine gn [0] [bp l n a4 fQ h4] (eY (mx l 1 ([111,117,116,112,117,116]:List UInt8) a4 fQ)) rfl (fun bs aF gd=>ti l n a4 fQ h4 1 ([111,117,116,112,117,116]:List UInt8) (bs.getD 0 0) av (by omega) (by omega) (by omega) aF gd) ?_
 refine ah (fun aJ=>?_) (fun aJ=>?_)
 · obtain ⟨k6,v3⟩:=qs aJ
   have nd:=il v3
   refine br ?_
   refine cF 115 [0] (σ:=Int×Int) (fun ⟨hC,hD⟩=>n9 l n 2 a4 fQ h4 hC hD ((aW.length:Int)=8)) (fun ⟨hC,hD⟩=> .dw []) (fun ⟨hC,hD⟩=>[bp l n a4 hC hD]) rfl (fun _=>rfl) (fun bs aF gd aB K ab=>yB l n a4 fQ h4 (aW.length:Int) 8 (bs.getD 0 0) av (by omega) (by omega) (by omega) aF gd K (fun bZ b1 aT=>ab (bZ,b1) aT)) ?_
   rintro ⟨hC,hD⟩ hs
   dsimp only at hs
   have Cb:=hs.cm (by decide) (by omega)
   refine ah (by omega) ?_
   refine cF 115 [0] (σ:=aD×Int×Int×Int) (fun ⟨hc,fT,gu,gL⟩=>bx l (cK l n 1 [] (a4+1)) hc (a4+1) hC hD fT gu gL) (fun ⟨hc,fT,gu,gL⟩=>aw hc) (fun ⟨hc,fT,gu,gL⟩=>[bp l n fT gu gL]) rfl (fun _=>rfl) (fun bs aF gd aB K ab=>n0 l n (a4+1) hC hD (bs.getD 0 0) av (by omega) (by omega) (by omega) aF gd K (fun dq cc bZ b1 aT=>ab (dq,cc,bZ,b1) aT)) ?_
   rintro ⟨hc,fT,gu,gL⟩ fU
   dsimp only at fU
   have B5:=fU.bw
   have B6:=fU.ad
   have B7:=fU.cm
   refine cF 115 [0] (σ:=aD×Int×Int×Int) (fun ⟨tK,gW,hd,ht⟩=>(bx l (cK l n 4 ([61]:List UInt8) fT) tK fT gu gL gW hd ht)∧(hd≠0→tK=[])) (fun ⟨tK,gW,hd,ht⟩=>aw tK) (fun ⟨tK,gW,hd,ht⟩=>[bp l n gW hd ht]) rfl (fun _=>rfl) (fun bs aF gd aB K ab=>ji l n fT gu gL 4 ([61]:List UInt8) (bs.getD 0 0) av (by omega) (by omega) (by omega) aF gd K (fun dq cc bZ b1 aT ao=>ab (dq,cc,bZ,b1) ⟨aT,ao⟩)) ?_
   rintro ⟨tK,gW,hd,ht⟩ gM
   dsimp only at gM
   obtain ⟨gM,Vm⟩:=gM
   have B8:=gM.bw
   have B9:=gM.ad
   have Ca:=gM.cm
   refine gp b9 Tryz.mixed (σ:=Int×Int×Int×ax) (.f 0 (.f 2 (.f 3 (.o 1 (.s 4 (.s 5 (.s 6 (.s 7 (.f 8 (.s 9 .d)))))) (.o 4 (.o 1 (.s 5 (.s 6 (.s 7 (.f 8 (.s 9 .d))))) (.o 5 (.o 1 (.s 6 (.s 7 (.f 8 (.s 9 .d)))) (.o 6 (.s 1 (.s 7 (.f 8 (.s 9 .d)))) .z)) .z)) .z))))) [] [0,2,3] 3 (fun ⟨c9,g9,wm,z9⟩=>([(0, .loc 0 0),(2, .loc 1 0),(3, .loc 2 0)],[bp l n c9 g9 wm, .cells [aw ([]), .own [], .own [], .own []], .cells [aw ek, .own (xs.map bM), .own (cA.map bK), .own ((aW++([(⟨hc,z9⟩:(aD×ax))]:List (aD×ax))).map bz)]],m)) (fun ⟨c9,g9,wm,z9⟩=>bx l (jB l n gW) z9 gW hd ht c9 g9 wm) (by decide+kernel) ?_ ?_
   · rintro ⟨c9,g9,wm,z9⟩ tL
     try dsimp only at tL
     have Vn:=tL.bw
     have Vo:=tL.ad
     have Vp:=tL.cm
     refine ⟨(c9,g9,wm,aW++([(⟨hc,z9⟩:(aD×ax))]:List (aD×ax))),⟨rfl,rfl⟩,?_,?_⟩
     · try dsimp only
       have aI:=fun z=>hs.no (by decide) (fU.bA (gM.bA (tL.bA z)))
       simp only [List.length_append,List.length_cons,List.length_nil]
       exact ⟨by omega,by omega,by omega,by omega,fun z=>by have:=aI z;have:=IG k6;omega,by have:=IG k6;omega,fun z=>by omega,SH- 1,fun z=>by have:=CD k6;omega,((((CE.to fun _=>Cz (by have:=CD k6;omega) v3).room hs (by decide)).at ao).step fU |>.step gM).step tL⟩
     try dsimp only
     rw [if_pos k6]
     split<;>omega
   repeat' first
    |refine ⟨(fI,fJ,gb,dF),⟨rfl,rfl⟩,gB⟩
    |(refine cF 115 [0] (σ:=ax×Int×Int×Int) (fun ⟨dF,fI,fJ,gb⟩=>bx l (jB l n gW) dF gW hd ht fI fJ gb) (fun ⟨dF,fI,fJ,gb⟩=>iS dF) (fun ⟨dF,fI,fJ,gb⟩=>[bp l n fI fJ gb]) rfl (fun _=>rfl) (fun bs aF gd aB K ab=>yn l n gW hd ht 6 (bs.getD 0 0) (wb l n av hw 6 (by decide)) av (by omega) (by omega) (by omega) rfl aF gd K (eF.up aB aV) (fun fg cc bZ b1 aT=>ab (fg,cc,bZ,b1) aT)) ?_;rintro ⟨dF,fI,fJ,gb⟩ gB;dsimp only at gB;have yd:=gB.bw;have ye:=gB.ad;have yf:=gB.cm)
    |refine ap bz aW ([(⟨hc,dF⟩:(aD×ax))]:List (aD×ax)) rfl rfl (fun _=>⟨rfl,rfl⟩) (by (simp only [List.length_append,List.length_cons,List.length_nil];omega)) ?_
    |refine ⟨?_,?_,trivial⟩
 refine rt rfl fun _=>?_
 show K (.agg [.str ek, .slice false (xs.map bM), .slice false (cA.map bK), .slice false (aW.map bz)]) (ae.bf m [(r, .cells [.slice false (l.map ch), .int .i64 a4, .int .i64 n, .err 115 fQ, .int .i64 h4])])
 refine ab ⟨ek,xs,cA,aW⟩ _ _ _ ?_
 by_cases z:fQ=0
 · exact (CE.to fun z=>CA (by have:=CD z;omega) (rD aJ z)).ok z (SG z) IF
 · exact CE.bad z SE IF SF
end Go.Proofs
end
section
namespace Go.Proofs
open Go Go.ba Go.bV
set_option maxRecDepth 100000
theorem yD {l:List Tok} {n a:Int} {cC:Nat} {xs:List a6} (aN:0<cC) (h:a<l.length):kz l n cC a xs=if (xs.length:Int)=8 then .bad 2 (dm l n a) else (l3 l n a).bind fun s a=>kz l n (cC- 1) a (xs++[s]):=by
 obtain ⟨k,rfl⟩:∃k,cC=k+1:=⟨cC- 1,by omega⟩
 rw [kz,if_pos h];rfl
theorem IH {l:List Tok} {n a:Int} {cC:Nat} {xs:List a6} (aN:0<cC) (h:(l.length:Int)≤a):kz l n cC a xs= .ok xs a:=by
 obtain ⟨k,rfl⟩:∃k,cC=k+1:=⟨cC- 1,by omega⟩
 rw [kz,if_neg (by omega)]
noncomputable def tM (s:aD):bR (List a6):=kz (e1 s).1 s.length ((e1 s).1.length+1) 0 []
noncomputable def l4 (s:aD):List a6×Int×Int:=
 if (e1 s).2.2=0 then (if (tM s).f=0 then ((tM s).x,0,0) else ([],(tM s).p,(tM s).f)) else ([],(e1 s).2.1,(e1 s).2.2)
theorem SI {s:aD} {l:List Tok} {e q:Int} {xs:List a6} {b:Int} (n6:(e1 s).1=l) (aB:(e1 s).2.2=0) (h:fE (kz l s.length (l.length+1) 0 []) e q (.ok xs b)) (ao:e=0):l4 s=(xs,0,0):=by
 subst n6
 have J:=h.y ao
 rw [l4,if_pos aB]
 show (if (kz _ _ _ _ _).f=0 then ((kz _ _ _ _ _).x,0,0) else _)=_
 rw [J];rfl
theorem II {s:aD} {l:List Tok} {e q:Int} {R:bR (List a6)} (n6:(e1 s).1=l) (aB:(e1 s).2.2=0) (h:fE (kz l s.length (l.length+1) 0 []) e q R) (ao:e≠0):l4 s=([],q,e):=by
 subst n6
 obtain ⟨J,aa⟩:=h.z ao
 rw [l4,if_pos aB]
 show (if (kz _ _ _ _ _).f=0 then _ else ([],(kz _ _ _ _ _).p,(kz _ _ _ _ _).f))=_
 rw [if_neg (by rw [J];exact ao),J,aa]
theorem SJ {s:aD} (aB:(e1 s).2.2≠0):l4 s=([],(e1 s).2.1,(e1 s).2.2):=by rw [l4,if_neg aB]
set_option maxHeartbeats 4000000 in
theorem SK (s:aD) (l:List Tok) (al:s.length≤16777216) (n6:(e1 s).1=l) (m:ae) (K:U→ae→Prop) (aV:eF m) (ab:K (.tuple [bj bB (l4 s).1, .int .i64 (l4 s).2.1, .err 115 (l4 s).2.2]) m):bg Tryz.prog 31 [.str s] m K:=by
 refine bg.pl ?_
 have av:l.length≤5000:=by rw [←n6];have:=Qx s;omega
 have Vq:=Qv s
 have hw:n3 l:=by rw [←n6];exact Rk s
 refine enter (c:=cX [] [] [6] [11999] [5,11] []) (vs:=[.aH (.str s)]) (L:=[]) (m:=m) true b9 Tryz.mixed Tryz.func31 rfl (k:=1) (by show cu [11999] _ _ _=true;decide+kernel) rfl (Good.nil m) ?_
 refine b2 (fun _=>fun m K ab=>Qt s al m K (by rw [n6];exact ab)) rfl ?_
 refine az ?_
 refine ah (fun J=>?_) (fun J=>?_)
 · refine Gp 115 (a:=0) (j:=3) rfl rfl ?_
   refine F2 ?_
   refine az ?_
   refine b7 (σ:=(List a6)×Int×Int×Int) [] [8,9] 1 (fun ⟨xs,a2,aC,bI⟩=>([(8, .loc 0 0),(9, .own (xs.map bB))],[bp l (s.length:Int) a2 aC bI],m)) (fun ⟨xs,a2,aC,bI⟩=>0≤a2∧a2≤l.length∧0≤aC∧xs.length≤8∧∃cC:Nat,(aC=0→l.length- a2<cC)∧fE (kz l s.length (l.length+1) 0 []) aC bI (kz l s.length cC a2 xs)) (fun ⟨xs,a2,aC,bI⟩=>if aC=0 then l.length- a2.toNat+1 else 0) ([],0,0,0) ⟨rfl,rfl⟩ ?_ ?_
   · try dsimp only
     exact ⟨by omega,by omega,by omega,by simp,l.length+1,fun _=>by omega,⟨fun _=>rfl,fun h=>absurd rfl h⟩⟩
   rintro ⟨xs,a2,aC,bI⟩ ay
   dsimp only at ay
   obtain ⟨i1,i2,i3,i4,cC,i8,i9⟩:=ay
   refine az ?_
   refine cq [8,9] 41 ((aC==0)&&(decide (a2<(l.length:Int)))) ?_ ?_
   · repeat' first
      |exact ⟨⟨_,rfl,by grind [bD.val]⟩,rfl⟩
      |refine ah (fun _=>?_) (fun _=>?_)
      |refine br ?_
   refine ah (fun aa=>?_) (fun aa=>?_)
   · replace aa:(aC=0)∧(a2<(l.length:Int)):=⟨(eq_of_beq (eO aa)),(of_decide_eq_true (fk aa))⟩
     obtain ⟨fD,jS⟩:=aa
     refine az ?_
     refine br ?_
     refine ah (fun ai=>?_) (fun ai=>?_)
     · refine cF 115 [0] (σ:=Int×Int) (fun ⟨bQ,cf⟩=>(aC=0→bQ=2∧cf=dm l (s.length:Int) a2)∧(aC≠0→bQ=aC∧cf=bI)∧0<bQ) (fun ⟨bQ,cf⟩=> .dw []) (fun ⟨bQ,cf⟩=>[bp l (s.length:Int) a2 bQ cf]) rfl (fun _=>rfl) (fun bs aF gd aB K ab=>oI l (s.length:Int) a2 aC bI 2 (bs.getD 0 0) (by decide) av (by omega) (by omega) (by omega) aF gd K (fun z=>ab (2,dm l (s.length:Int) a2) ⟨fun _=>⟨rfl,rfl⟩,fun y=>absurd z y,by decide⟩) (fun z=>ab (aC,bI) ⟨fun y=>absurd y z,fun _=>⟨rfl,rfl⟩,by omega⟩)) ?_
       rintro ⟨bQ,cf⟩ bU
       dsimp only at bU
       obtain ⟨tl,qt,vZ⟩:=bU
       refine az ?_
       refine ah (fun aJ=>?_) (fun aJ=>?_)
       · refine bh rfl fun _=>?_
         show K (.tuple [.slice false (xs.map bB), .int .i64 0, .err 115 0]) m
         exact absurd aJ (by omega)
       refine gp b9 Tryz.mixed (σ:=Unit) (.f 0 (.f 1 (.f 2 (.f 4 (.f 5 (.f 6 (.o 3 (.o 7 (.s 8 (.s 9 (.s 10 .d))) (.o 8 (.o 7 (.s 9 (.s 10 .d)) (.o 9 (.s 7 (.s 10 .d)) .z)) .z)) (.o 7 (.o 3 (.s 8 (.s 9 (.s 10 .d))) (.o 8 (.s 3 (.s 9 (.s 10 .d))) .z)) (.o 8 (.o 3 (.o 7 (.s 9 (.s 10 .d)) (.o 9 (.s 7 (.s 10 .d)) .z)) (.o 7 (.s 3 (.s 9 (.s 10 .d))) .z)) .z))))))))) [] [2,3,4] 1 (fun _=>([(2, .own []),(3,aj cf),(4, .aH (.err 115 bQ))],[bp l (s.length:Int) a2 bQ cf],m)) (fun _=>True) (by decide+kernel) ?_ ?_
       · rintro _ ef
         try dsimp only at ef
         refine bh rfl fun _=>?_
         show K (.tuple [.slice false [], .int .i64 cf, .err 115 bQ]) m
         have au:=II n6 J (fE.fail (R:= .bad 0 0) (i9.to fun _=>(yD (by have:=i8 fD;omega) jS).trans (if_pos ai)) tl qt vZ) (by omega)
         rw [au] at ab
         exact ab
       repeat' first
        |refine ⟨(),⟨rfl,rfl⟩,trivial⟩
        |refine ⟨?_,?_,?_,trivial⟩
        |refine ⟨?_,?_,trivial⟩
     refine cF 115 [0] (σ:=a6×Int×Int×Int) (fun ⟨hN,eI,dt,dD⟩=>bx l (l3 l (s.length:Int) a2) hN a2 aC bI eI dt dD) (fun ⟨hN,eI,dt,dD⟩=> .agg [aw hN.name,an (hN.ins.map bM),an (hN.res.map bK),an (hN.outs.map bz)]) (fun ⟨hN,eI,dt,dD⟩=>[bp l (s.length:Int) eI dt dD]) rfl (fun _=>rfl) (fun bs aF gd aB K ab=>Ss l (s.length:Int) a2 aC bI (bs.getD 0 0) av (by omega) (by omega) (by omega) hw fD aF gd K (eF.up aB aV) (fun fg cc bZ b1 aT=>ab (fg,cc,bZ,b1) aT)) ?_
     rintro ⟨hN,eI,dt,dD⟩ dc
     dsimp only at dc
     have vW:=dc.bw
     have ie:=dc.ad
     have vX:=dc.cm
     refine ap bB xs ([hN]:List a6) rfl rfl (fun _=>⟨rfl,rfl⟩) (by (simp only [List.length_append,List.length_cons,List.length_nil];omega)) ?_
     refine ⟨(xs++([hN]:List a6),eI,dt,dD),⟨rfl,rfl⟩,?_,?_⟩
     · try dsimp only
       have bl:=dc.gt
       simp only [List.length_append,List.length_cons,List.length_nil]
       exact ⟨by omega,by omega,by omega,by omega,cC- 1,fun z=>by have:=bl z;have:=i8 fD;omega,(i9.to fun _=>(yD (by have:=i8 fD;omega) jS).trans (if_neg ai)).step dc⟩
     try dsimp only
     rw [if_pos fD]
     have bl:=dc.gt
     split<;>omega
   replace aa:(aC≠0)∨((l.length:Int)≤a2):=((fl aa).imp (fun q=>(ne_of_beq_false q)) (fun q=>(Int.not_lt.1 (of_decide_eq_false q))))
   refine az ?_
   refine ah (fun aY=>?_) (fun aY=>?_)
   · refine bh rfl fun _=>?_
     show K (.tuple [.slice false (xs.map bB), .int .i64 0, .err 115 0]) m
     have au:=SI n6 J (i9.to fun z=>IH (by have:=i8 z;omega) (aa.resolve_left fun c=>c z)) aY
     rw [au] at ab
     exact ab
   refine gp b9 Tryz.mixed (σ:=Unit) (.f 0 (.f 1 (.f 2 (.f 4 (.f 5 (.f 6 (.o 3 (.o 7 (.s 8 (.s 9 (.s 10 .d))) (.o 8 (.o 7 (.s 9 (.s 10 .d)) (.o 9 (.s 7 (.s 10 .d)) .z)) .z)) (.o 7 (.o 3 (.s 8 (.s 9 (.s 10 .d))) (.o 8 (.s 3 (.s 9 (.s 10 .d))) .z)) (.o 8 (.o 3 (.o 7 (.s 9 (.s 10 .d)) (.o 9 (.s 7 (.s 10 .d)) .z)) (.o 7 (.s 3 (.s 9 (.s 10 .d))) .z)) .z))))))))) [] [2,3,4] 1 (fun _=>([(2, .own []),(3,aj bI),(4, .aH (.err 115 aC))],[bp l (s.length:Int) a2 aC bI],m)) (fun _=>True) (by decide+kernel) ?_ ?_
   · rintro _ ef
     try dsimp only at ef
     refine bh rfl fun _=>?_
     show K (.tuple [.slice false [], .int .i64 bI, .err 115 aC]) m
     have au:=II n6 J i9 aY
     rw [au] at ab
     exact ab
   repeat' first
    |refine ⟨(),⟨rfl,rfl⟩,trivial⟩
    |refine ⟨?_,?_,?_,trivial⟩
    |refine ⟨?_,?_,trivial⟩
 refine bh rfl fun _=>?_
 show K (.tuple [.slice false [], .int .i64 ((e1 s).2.1), .err 115 ((e1 s).2.2)]) m
 rw [SJ J] at ab
 exact ab
theorem SL (s:aD) (al:s.length≤16777216) (m:ae) (aV:eF m) (K:U→ae→Prop) (ab:K (.tuple [bj bB (l4 s).1, .int .i64 (l4 s).2.1, .err 115 (l4 s).2.2]) m):bg Tryz.prog 31 [.str s] m K:=SK s _ al rfl m K aV ab
end Go.Proofs
end
section
namespace Go.Proofs
open Go Go.ba Go.bV
set_option maxRecDepth 100000
theorem IJ {v:a7} (h:b5 v=0):bP v≤60∧dz (bP v+1) v=true:=by
 unfold b5 at h
 split at h
 · rename_i J
   have q:=qp _ _ _ _ (by omega) J
   exact ⟨by omega,BH h⟩
 · simp at h
theorem SM {e:ax} (h:fV e):bP e.v≤61∧e.n.length≤e.a.length:=by
 have ao:bP eb=1:=by decide
 unfold fV at h
 rcases h with ⟨_,_,_,⟨_,J⟩,_,aa⟩|⟨J,aa⟩
 · have:=(IJ J).1
   rw [aa];simp;omega
 · rw [J,ao]
   refine ⟨by decide,?_⟩
   rcases aa with ⟨_,_,_,_,h⟩|⟨_,_,_,_,h⟩|⟨_,_,_,_,h⟩|⟨_,_,_,_,h⟩|⟨_,_,_,h⟩|⟨_,_,_,h,_⟩|⟨_,_,_,_,h⟩<;>first|(rw [h];simp;done)|omega
mutual
theorem IK:∀e:ax,lY e→(dG e:Int)+1≤64*ec e
 | .mk k v s t a n,h=>by
   have J:=SM ((pC _).1 h).1
   have aa:=IL a ((pC _).1 h).2
   simp only [ax.v,ax.n,ax.a] at J
   simp only [dG,ec]
   omega
theorem IL:∀l:List ax,hY l→(gv l:Int)+l.length≤64*hO l
 |[],_=>by simp [gv,hO]
 |e::r,h=>by
  simp only [hY] at h
  have J:=IK e h.1
  have aa:=IL r h.2
  simp only [gv,hO,List.length_cons]
  omega
end
theorem IM {e:ax} (h:eS e=0):dG e≤1000000000:=by
 have J:=lj h
 have aa:=IK e J.1
 omega
theorem IN:∀{l:List (aD×a7)},nz l=0→∀p∈l,cr p.1=true∧b5 p.2=0
 |[],_,p,aU=>by cases aU
 |x::r,h,p,aU=>by
  rw [nz] at h
  split at h
  · rename_i c
    rcases List.mem_cons.1 aU with rfl|aU
    · exact ⟨c.1,c.2.2⟩
    · exact IN h p aU
  · cases h
theorem IP {l:List (aD×ax)}:∀(n:Nat) (i:Int),0≤i→lo l n i=0→∀j:Int,i≤j→j<i+n→eS (I l j).2=0
 |0,i,_,_,j,J,aa=>by omega
 |n+1,i,aG,h,j,J,aa=>by
  rw [lo] at h
  split at h
  · split at h
    · rename_i c
      rcases Int.lt_or_le i j with q|q
      · exact IP n (i+1) (by omega) h j (by omega) (by omega)
      · rw [show j=i by omega];exact c
    · rename_i c;exact absurd h c
  · cases h
theorem SN {l:List (aD×ax)} (h:lp l=0):∀p∈l,eS p.2=0:=by
 intro p aU
 obtain ⟨k,ak,rfl⟩:=List.getElem_of_mem aU
 have:=IP l.length 0 (Int.le_refl _) h (k:Int) (by omega) (by omega)
 simpa [I,List.getD_eq_getElem?_getD,ak] using this
theorem IQ:∀{l:List cz},mH l=0→∀x∈l,x.parts.length≤6∧∀p∈x.parts,eS p.2=0
 |[],_,p,aU=>by cases aU
 |y::r,h,x,aq=>by
  rw [mH] at h
  split at h
  · split at h
    · cases h
    · rename_i c
      split at h
      · rename_i c2
        rcases List.mem_cons.1 aq with rfl|aq
        · exact ⟨by omega,SN c2⟩
        · exact IQ h x aq
      · rename_i c2;exact absurd h c2
  · cases h
theorem IS:∀{l:List (aD×ax)},l2 l=0→∀p∈l,eS p.2=0
 |[],_,p,aU=>by cases aU
 |x::r,h,p,aU=>by
  rw [l2] at h
  split at h
  · split at h
    · rename_i c
      rcases List.mem_cons.1 aU with rfl|aU
      · exact c
      · exact IS h p aU
    · rename_i c;exact absurd h c
  · cases h
structure pJ (s:a6):Prop where
 li:s.ins.length≤8
 rX:s.res.length≤8
 bw:s.outs.length≤8
 i:∀p∈s.ins,cr p.1=true∧b5 p.2=0
 r:∀x∈s.res,x.parts.length≤6∧∀p∈x.parts,eS p.2=0
 o:∀p∈s.outs,eS p.2=0
theorem oa {s:a6} (h:dx s=0):pJ s:=by
 unfold dx at h
 split at h
 · cases h
 · split at h
   · cases h
   · rename_i c
     unfold qz at h
     split at h
     · rename_i c2;exact absurd h c2
     · rename_i c2
       unfold qy at h
       split at h
       · rename_i c3;exact absurd h c3
       · rename_i c3
         exact ⟨by omega,by omega,by omega,IN (by simpa using c2),IQ (by simpa using c3),IS h⟩
set_option maxHeartbeats 4000000 in
theorem SO (s:a6) (ar:dx s=0) (m:ae) (K:U→ae→Prop) (ab:K (bB s) m):bg Tryz.prog 28 [bB s] m K:=by
 have al:=oa ar
 have Vr:=al.li
 have CF:=al.rX
 have mb:=al.bw
 refine enter (c:=cX [] [0] [] [5999,14999,21999] [5,14,21] []) (vs:=[.aH (bB s)]) (L:=[]) (m:=m) false b9 Tryz.mixed Tryz.func28 rfl (k:=1) (by show cu [5999,14999,21999] _ _ _=true;decide+kernel) rfl (Good.nil m) ?_
 refine ⟨fun bq=>?_⟩
 have jy:s.name.length≤140737488355328:=(bq 0 0 (Nat.le_of_ble_eq_true rfl))
 have wj:s.ins.length≤140737488355328:=cN (bq 0 1 (Nat.le_of_ble_eq_true rfl))
 have nq:s.res.length≤140737488355328:=cN (bq 0 2 (Nat.le_of_ble_eq_true rfl))
 have jx:s.outs.length≤140737488355328:=cN (bq 0 3 (Nat.le_of_ble_eq_true rfl))
 refine az ?_
 refine br ?_
 refine b7 (σ:=Int×List (aD×a7)) [] [1,2,3,17,18,19] 3 (fun ⟨i,xs⟩=>([(1, .loc 0 0),(2, .loc 1 0),(3, .loc 2 0),(17,an (s.ins.map bM)),(18,aj (s.ins.length:Int)),(19,aj i)],[.cells [aw s.name,an (s.ins.map bM),an (s.res.map bK),an (s.outs.map bz)], .cells [aw ([]), .own [], .own [], .own []], .cells [aw s.name, .own (xs.map bM), .own [], .own []]],m)) (fun ⟨i,xs⟩=>0≤i∧i≤s.ins.length∧xs=s.ins.take i.toNat) (fun ⟨i,xs⟩=>s.ins.length- i.toNat) (0,[]) ⟨rfl,rfl⟩ ?_ ?_
 · try dsimp only
   exact ⟨by omega,by omega,rfl⟩
 rintro ⟨i,xs⟩ ay
 dsimp only at ay
 have sx:(xs.length:Int)=i:=by rw [ay.2.2,List.length_take];omega
 refine az ?_
 refine ah (fun J=>?_) (fun J=>?_)
 · refine az ?_
   refine ck (by omega) ?_
   refine gp b9 Tryz.mixed (σ:=Unit) (.f 0 (.f 2 (.f 4 (.o 1 (.o 3 (.s 5 (.s 6 (.s 7 (.s 8 (.s 9 (.f 10 (.s 11 .d))))))) (.o 5 (.o 3 (.s 6 (.s 7 (.s 8 (.s 9 (.f 10 (.s 11 .d)))))) (.o 6 (.s 3 (.s 7 (.s 8 (.s 9 (.f 10 (.s 11 .d)))))) .z)) .z)) (.o 3 (.o 1 (.s 5 (.s 6 (.s 7 (.s 8 (.s 9 (.f 10 (.s 11 .d))))))) (.o 5 (.o 1 (.s 6 (.s 7 (.s 8 (.s 9 (.f 10 (.s 11 .d)))))) (.o 6 (.o 1 (.s 7 (.s 8 (.s 9 (.f 10 (.s 11 .d))))) (.o 7 (.o 1 (.s 8 (.s 9 (.f 10 (.s 11 .d)))) (.o 8 (.s 1 (.s 9 (.f 10 (.s 11 .d)))) .z)) .z)) .z)) .z)) (.o 5 (.o 1 (.o 3 (.s 6 (.s 7 (.s 8 (.s 9 (.f 10 (.s 11 .d)))))) (.o 6 (.s 3 (.s 7 (.s 8 (.s 9 (.f 10 (.s 11 .d)))))) .z)) (.o 3 (.o 1 (.s 6 (.s 7 (.s 8 (.s 9 (.f 10 (.s 11 .d)))))) (.o 6 (.o 1 (.s 7 (.s 8 (.s 9 (.f 10 (.s 11 .d))))) (.o 7 (.o 1 (.s 8 (.s 9 (.f 10 (.s 11 .d)))) (.o 8 (.s 1 (.s 9 (.f 10 (.s 11 .d)))) .z)) .z)) .z)) (.o 6 (.o 1 (.s 3 (.s 7 (.s 8 (.s 9 (.f 10 (.s 11 .d)))))) (.o 3 (.o 1 (.s 7 (.s 8 (.s 9 (.f 10 (.s 11 .d))))) (.o 7 (.o 1 (.s 8 (.s 9 (.f 10 (.s 11 .d)))) (.o 8 (.s 1 (.s 9 (.f 10 (.s 11 .d)))) .z)) .z)) .z)) .z))) .z)))))) [] [1,2,3,17,18,19] 4 (fun _=>([(1, .loc 0 0),(2, .loc 1 0),(3, .loc 2 0),(17,an (s.ins.map bM)),(18,aj (s.ins.length:Int)),(19,aj i)],[.cells [aw s.name,an (s.ins.map bM),an (s.res.map bK),an (s.outs.map bz)], .cells [aw ([]), .own [], .own [], .own []], .cells [aw s.name, .own ((xs++([(I s.ins i)]:List (aD×a7))).map bM), .own [], .own []], .cells [aw ((I s.ins i).1),aj (((I s.ins i).2).kind),aj (((I s.ins i).2).n),aw (((I s.ins i).2).s),an ((((I s.ins i).2).l).map cj),an ((((I s.ins i).2).f).map ct)]],m)) (fun _=>True) (by decide+kernel) ?_ ?_
   · rintro _ SP
     try dsimp only at SP
     refine ah (by omega) ?_
     refine ⟨(i+1,xs++([(I s.ins i)]:List (aD×a7))),⟨rfl,rfl⟩,?_,?_⟩
     · try dsimp only
       exact ⟨by omega,by omega,by rw [gz ay.1 (by assumption),←ay.2.2]⟩
     try dsimp only
     omega
   repeat' first
    |refine ⟨(),⟨rfl,rfl⟩,trivial⟩
    |refine b2 (fun _=>Gw ((I s.ins i).2) (x0 _ _ (Nat.lt_succ_self _) (by have:=(IJ (al.i _ (cb ay.1 (by assumption))).2).1;omega))) rfl ?_
    |refine ap bM xs ([(I s.ins i)]:List (aD×a7)) rfl rfl (fun _=>⟨rfl,rfl⟩) (by (simp only [List.length_append,List.length_cons,List.length_nil];omega)) ?_
    |refine ⟨?_,?_,?_,trivial⟩
    |refine ⟨?_,?_,trivial⟩
 obtain rfl:xs=s.ins:=by have:=ay.2.2;rwa [fm (by omega)] at this
 refine az ?_
 refine br ?_
 refine b7 (σ:=Int×List cz) [] [1,2,3,36,37,38] 3 (fun ⟨i2,cA⟩=>([(1, .loc 0 0),(2, .loc 1 0),(3, .loc 2 0),(36,an (s.res.map bK)),(37,aj (s.res.length:Int)),(38,aj i2)],[.cells [aw s.name,an (s.ins.map bM),an (s.res.map bK),an (s.outs.map bz)], .cells [aw ([]), .own [], .own [], .own []], .cells [aw s.name, .own (s.ins.map bM), .own (cA.map bK), .own []]],m)) (fun ⟨i2,cA⟩=>0≤i2∧i2≤s.res.length∧cA=s.res.take i2.toNat) (fun ⟨i2,cA⟩=>s.res.length- i2.toNat) (0,[]) ⟨rfl,rfl⟩ ?_ ?_
 · try dsimp only
   exact ⟨by omega,by omega,rfl⟩
 rintro ⟨i2,cA⟩ a1
 dsimp only at a1
 have Vs:(cA.length:Int)=i2:=by rw [a1.2.2,List.length_take];omega
 refine az ?_
 refine ah (fun aa=>?_) (fun aa=>?_)
 · have IT:=(al.r _ (cb a1.1 aa)).1
   refine az ?_
   refine ck (by omega) ?_
   refine az ?_
   refine br ?_
   refine b7 (σ:=Int×List (aD×ax)) [] [1,2,3,8,36,37,38,48,49,50] 5 (fun ⟨k,ps⟩=>([(1, .loc 0 0),(2, .loc 1 0),(3, .loc 2 0),(8, .loc 4 0),(36,an (s.res.map bK)),(37,aj (s.res.length:Int)),(38,aj i2),(48,an (((I s.res i2).parts).map bz)),(49,aj (((I s.res i2).parts).length:Int)),(50,aj k)],[.cells [aw s.name,an (s.ins.map bM),an (s.res.map bK),an (s.outs.map bz)], .cells [aw ([]), .own [], .own [], .own []], .cells [aw s.name, .own (s.ins.map bM), .own (cA.map bK), .own []], .cells [aw ((I s.res i2).kind),aw ((I s.res i2).name),an (((I s.res i2).parts).map bz)], .cells [aw ((I s.res i2).kind),aw ((I s.res i2).name), .own (ps.map bz)]],m)) (fun ⟨k,ps⟩=>0≤k∧k≤(I s.res i2).parts.length∧ps=(I s.res i2).parts.take k.toNat) (fun ⟨k,ps⟩=>(I s.res i2).parts.length- k.toNat) (0,[]) ⟨rfl,rfl⟩ ?_ ?_
   · try dsimp only
     exact ⟨by omega,by omega,rfl⟩
   rintro ⟨k,ps⟩ cg
   dsimp only at cg
   have ou:(ps.length:Int)=k:=by rw [cg.2.2,List.length_take];omega
   refine az ?_
   refine ah (fun ai=>?_) (fun ai=>?_)
   · refine az ?_
     refine ck (by omega) ?_
     refine gp b9 Tryz.mixed (σ:=Unit) (.f 0 (.f 2 (.f 4 (.o 1 (.o 3 (.s 5 (.s 6 (.s 7 (.s 8 (.s 9 (.f 10 (.s 11 .d))))))) (.o 5 (.o 3 (.s 6 (.s 7 (.s 8 (.s 9 (.f 10 (.s 11 .d)))))) (.o 6 (.s 3 (.s 7 (.s 8 (.s 9 (.f 10 (.s 11 .d)))))) .z)) .z)) (.o 3 (.o 1 (.s 5 (.s 6 (.s 7 (.s 8 (.s 9 (.f 10 (.s 11 .d))))))) (.o 5 (.o 1 (.s 6 (.s 7 (.s 8 (.s 9 (.f 10 (.s 11 .d)))))) (.o 6 (.o 1 (.s 7 (.s 8 (.s 9 (.f 10 (.s 11 .d))))) (.o 7 (.o 1 (.s 8 (.s 9 (.f 10 (.s 11 .d)))) (.o 8 (.s 1 (.s 9 (.f 10 (.s 11 .d)))) .z)) .z)) .z)) .z)) (.o 5 (.o 1 (.o 3 (.s 6 (.s 7 (.s 8 (.s 9 (.f 10 (.s 11 .d)))))) (.o 6 (.s 3 (.s 7 (.s 8 (.s 9 (.f 10 (.s 11 .d)))))) .z)) (.o 3 (.o 1 (.s 6 (.s 7 (.s 8 (.s 9 (.f 10 (.s 11 .d)))))) (.o 6 (.o 1 (.s 7 (.s 8 (.s 9 (.f 10 (.s 11 .d))))) (.o 7 (.o 1 (.s 8 (.s 9 (.f 10 (.s 11 .d)))) (.o 8 (.s 1 (.s 9 (.f 10 (.s 11 .d)))) .z)) .z)) .z)) (.o 6 (.o 1 (.s 3 (.s 7 (.s 8 (.s 9 (.f 10 (.s 11 .d)))))) (.o 3 (.o 1 (.s 7 (.s 8 (.s 9 (.f 10 (.s 11 .d))))) (.o 7 (.o 1 (.s 8 (.s 9 (.f 10 (.s 11 .d)))) (.o 8 (.s 1 (.s 9 (.f 10 (.s 11 .d)))) .z)) .z)) .z)) .z))) .z)))))) [] [1,2,3,8,36,37,38,48,49,50] 6 (fun _=>([(1, .loc 0 0),(2, .loc 1 0),(3, .loc 2 0),(8, .loc 4 0),(36,an (s.res.map bK)),(37,aj (s.res.length:Int)),(38,aj i2),(48,an (((I s.res i2).parts).map bz)),(49,aj (((I s.res i2).parts).length:Int)),(50,aj k)],[.cells [aw s.name,an (s.ins.map bM),an (s.res.map bK),an (s.outs.map bz)], .cells [aw ([]), .own [], .own [], .own []], .cells [aw s.name, .own (s.ins.map bM), .own (cA.map bK), .own []], .cells [aw ((I s.res i2).kind),aw ((I s.res i2).name),an (((I s.res i2).parts).map bz)], .cells [aw ((I s.res i2).kind),aw ((I s.res i2).name), .own ((ps++([(I ((I s.res i2).parts) k)]:List (aD×ax))).map bz)], .cells [aw ((I ((I s.res i2).parts) k).1),aj (((I ((I s.res i2).parts) k).2).kind),aj ((((I ((I s.res i2).parts) k).2).v).kind),aj ((((I ((I s.res i2).parts) k).2).v).n),aw ((((I ((I s.res i2).parts) k).2).v).s),an (((((I ((I s.res i2).parts) k).2).v).l).map cj),an (((((I ((I s.res i2).parts) k).2).v).f).map ct),aw (((I ((I s.res i2).parts) k).2).s),aw (((I ((I s.res i2).parts) k).2).t),an ((((I ((I s.res i2).parts) k).2).a).map cx),an ((((I ((I s.res i2).parts) k).2).n).map cS)]],m)) (fun _=>True) (by decide+kernel) ?_ ?_
     · rintro _ SQ
       try dsimp only at SQ
       refine ah (by omega) ?_
       refine ⟨(k+1,ps++([(I ((I s.res i2).parts) k)]:List (aD×ax))),⟨rfl,rfl⟩,?_,?_⟩
       · try dsimp only
         exact ⟨by omega,by omega,by rw [gz cg.1 (by assumption),←cg.2.2]⟩
       try dsimp only
       omega
     repeat' first
      |refine ⟨(),⟨rfl,rfl⟩,trivial⟩
      |refine b2 (fun _=>HT ((I ((I s.res i2).parts) k).2) (IM (by first|exact (al.r _ (cb a1.1 (by assumption))).2 _ (cb cg.1 (by assumption))|exact al.o _ (cb cg.1 (by assumption))))) rfl ?_
      |refine ap bz ps ([(I ((I s.res i2).parts) k)]:List (aD×ax)) rfl rfl (fun _=>⟨rfl,rfl⟩) (by (simp only [List.length_append,List.length_cons,List.length_nil];omega)) ?_
      |refine ⟨?_,?_,?_,trivial⟩
      |refine ⟨?_,?_,trivial⟩
   refine ap bK cA ([(⟨(I s.res i2).kind,(I s.res i2).name,ps⟩:cz)]:List cz) rfl rfl (fun _=>⟨rfl,rfl⟩) (by (simp only [List.length_append,List.length_cons,List.length_nil];omega)) ?_
   refine ah (by omega) ?_
   refine ⟨(i2+1,cA++([(⟨(I s.res i2).kind,(I s.res i2).name,ps⟩:cz)]:List cz)),⟨rfl,rfl⟩,?_,?_⟩
   · try dsimp only
     have mT:ps=(I s.res i2).parts:=by have:=cg.2.2;rwa [fm (by omega)] at this
     exact ⟨by omega,by omega,by rw [gz a1.1 (by assumption),←a1.2.2,mT]⟩
   try dsimp only
   omega
 obtain rfl:cA=s.res:=by have:=a1.2.2;rwa [fm (by omega)] at this
 refine az ?_
 refine br ?_
 refine b7 (σ:=Int×List (aD×ax)) [] [2,3,74,75,76] 3 (fun ⟨i3,aW⟩=>([(2, .loc 1 0),(3, .loc 2 0),(74,an (s.outs.map bz)),(75,aj (s.outs.length:Int)),(76,aj i3)],[.cells [aw s.name,an (s.ins.map bM),an (s.res.map bK),an (s.outs.map bz)], .cells [aw ([]), .own [], .own [], .own []], .cells [aw s.name, .own (s.ins.map bM), .own (s.res.map bK), .own (aW.map bz)]],m)) (fun ⟨i3,aW⟩=>0≤i3∧i3≤s.outs.length∧aW=s.outs.take i3.toNat) (fun ⟨i3,aW⟩=>s.outs.length- i3.toNat) (0,[]) ⟨rfl,rfl⟩ ?_ ?_
 · try dsimp only
   exact ⟨by omega,by omega,rfl⟩
 rintro ⟨i3,aW⟩ cg
 dsimp only at cg
 have tN:(aW.length:Int)=i3:=by rw [cg.2.2,List.length_take];omega
 refine az ?_
 refine ah (fun aJ=>?_) (fun aJ=>?_)
 · refine az ?_
   refine ck (by omega) ?_
   refine gp b9 Tryz.mixed (σ:=Unit) (.f 0 (.f 2 (.f 4 (.o 1 (.o 3 (.s 5 (.s 6 (.s 7 (.s 8 (.s 9 (.f 10 (.s 11 .d))))))) (.o 5 (.o 3 (.s 6 (.s 7 (.s 8 (.s 9 (.f 10 (.s 11 .d)))))) (.o 6 (.s 3 (.s 7 (.s 8 (.s 9 (.f 10 (.s 11 .d)))))) .z)) .z)) (.o 3 (.o 1 (.s 5 (.s 6 (.s 7 (.s 8 (.s 9 (.f 10 (.s 11 .d))))))) (.o 5 (.o 1 (.s 6 (.s 7 (.s 8 (.s 9 (.f 10 (.s 11 .d)))))) (.o 6 (.o 1 (.s 7 (.s 8 (.s 9 (.f 10 (.s 11 .d))))) (.o 7 (.o 1 (.s 8 (.s 9 (.f 10 (.s 11 .d)))) (.o 8 (.s 1 (.s 9 (.f 10 (.s 11 .d)))) .z)) .z)) .z)) .z)) (.o 5 (.o 1 (.o 3 (.s 6 (.s 7 (.s 8 (.s 9 (.f 10 (.s 11 .d)))))) (.o 6 (.s 3 (.s 7 (.s 8 (.s 9 (.f 10 (.s 11 .d)))))) .z)) (.o 3 (.o 1 (.s 6 (.s 7 (.s 8 (.s 9 (.f 10 (.s 11 .d)))))) (.o 6 (.o 1 (.s 7 (.s 8 (.s 9 (.f 10 (.s 11 .d))))) (.o 7 (.o 1 (.s 8 (.s 9 (.f 10 (.s 11 .d)))) (.o 8 (.s 1 (.s 9 (.f 10 (.s 11 .d)))) .z)) .z)) .z)) (.o 6 (.o 1 (.s 3 (.s 7 (.s 8 (.s 9 (.f 10 (.s 11 .d)))))) (.o 3 (.o 1 (.s 7 (.s 8 (.s 9 (.f 10 (.s 11 .d))))) (.o 7 (.o 1 (.s 8 (.s 9 (.f 10 (.s 11 .d)))) (.o 8 (.s 1 (.s 9 (.f 10 (.s 11 .d)))) .z)) .z)) .z)) .z))) .z)))))) [] [2,3,74,75,76] 4 (fun _=>([(2, .loc 1 0),(3, .loc 2 0),(74,an (s.outs.map bz)),(75,aj (s.outs.length:Int)),(76,aj i3)],[.cells [aw s.name,an (s.ins.map bM),an (s.res.map bK),an (s.outs.map bz)], .cells [aw ([]), .own [], .own [], .own []], .cells [aw s.name, .own (s.ins.map bM), .own (s.res.map bK), .own ((aW++([(I s.outs i3)]:List (aD×ax))).map bz)], .cells [aw ((I s.outs i3).1),aj (((I s.outs i3).2).kind),aj ((((I s.outs i3).2).v).kind),aj ((((I s.outs i3).2).v).n),aw ((((I s.outs i3).2).v).s),an (((((I s.outs i3).2).v).l).map cj),an (((((I s.outs i3).2).v).f).map ct),aw (((I s.outs i3).2).s),aw (((I s.outs i3).2).t),an ((((I s.outs i3).2).a).map cx),an ((((I s.outs i3).2).n).map cS)]],m)) (fun _=>True) (by decide+kernel) ?_ ?_
   · rintro _ SR
     try dsimp only at SR
     refine ah (by omega) ?_
     refine ⟨(i3+1,aW++([(I s.outs i3)]:List (aD×ax))),⟨rfl,rfl⟩,?_,?_⟩
     · try dsimp only
       exact ⟨by omega,by omega,by rw [gz cg.1 (by assumption),←cg.2.2]⟩
     try dsimp only
     omega
   repeat' first
    |refine ⟨(),⟨rfl,rfl⟩,trivial⟩
    |refine b2 (fun _=>HT ((I s.outs i3).2) (IM (by first|exact (al.r _ (cb a1.1 (by assumption))).2 _ (cb cg.1 (by assumption))|exact al.o _ (cb cg.1 (by assumption))))) rfl ?_
    |refine ap bz aW ([(I s.outs i3)]:List (aD×ax)) rfl rfl (fun _=>⟨rfl,rfl⟩) (by (simp only [List.length_append,List.length_cons,List.length_nil];omega)) ?_
    |refine ⟨?_,?_,?_,trivial⟩
    |refine ⟨?_,?_,trivial⟩
 refine bh rfl fun _=>?_
 show K (.agg [.str s.name, .slice false (s.ins.map bM), .slice false (s.res.map bK), .slice false (aW.map bz)]) m
 have ao:aW=s.outs:=by have:=cg.2.2;rwa [fm (by omega)] at this
 rw [ao];exact ab
end Go.Proofs
end
section
namespace Go.Proofs
open Go Go.ba Go.bV
set_option maxRecDepth 100000
def gx (l:List Int) (n:Int):List Int:=if n∈l then l else l++[n]
theorem IU {l:List Int} {n i:Int} (aG:0≤i) (ad:i<l.length) (h:n∉l.take i.toNat) (aI:I l i≠n):n∉l.take (i+1).toNat:=by
 rw [gz aG ad,List.mem_append,List.mem_singleton]
 rintro (q|q)
 · exact h q
 · exact aI q.symm
theorem IV (l:List Int) (n:Int):(gx l n).length≤l.length+1:=by unfold gx;split<;>simp
theorem IW {l:List Int} {n x:Int}:x∈gx l n↔x∈l∨x=n:=by
 unfold gx
 split
 · rename_i h
   exact ⟨.inl,fun q=>q.elim id fun e=>e▸h⟩
 · simp
theorem IX (l:List Int) (n:Int) (av:l.length≤1000000) (m:ae) (K:U→ae→Prop) (ab:K (.slice true ((gx l n).map aE)) m):s9 Tryz.prog 192 0 [.slice true (l.map aE), .int .i64 n] m K:=by
 refine Gb (j:=0) (c:=cX [1000016] [] [] [] [] []) (vs:=[.own (l.map aE), .aH (.int .i64 n)]) (L:=[]) (m:=m) false b9 Tryz.mixed Tryz.func192 rfl (k:=2) (by show cu [] _ _ _=true;decide+kernel) rfl (Good.nil m) ?_
 refine az ?_
 refine br ?_
 refine b7 (σ:=Int) [] [0,1,7,8,9] 0 (fun i=>([(0, .own (l.map aE)),(1,aj n),(7,an (l.map aE)),(8,aj (l.length:Int)),(9,aj i)],[],m)) (fun i=>0≤i∧i≤l.length∧n∉l.take i.toNat) (fun i=>l.length- i.toNat) (0) ⟨rfl,rfl⟩ ?_ ?_
 · try dsimp only
   exact ⟨by omega,by omega,by simp⟩
 rintro i ay
 refine az ?_
 refine ah (fun J=>?_) (fun J=>?_)
 · refine az ?_
   refine ck (by omega) ?_
   refine ah (fun aa=>?_) (fun aa=>?_)
   · refine bh rfl fun _=>?_
     show K (.slice true (l.map aE)) m
     have q:gx l n=l:=if_pos (by rw [←aa];exact cb ay.1 J)
     rw [q] at ab;exact ab
   refine ah (by omega) ?_
   refine ⟨(i+1),⟨rfl,rfl⟩,?_,?_⟩
   · try dsimp only
     exact ⟨by omega,by omega,IU ay.1 J ay.2.2 aa⟩
   try dsimp only
   omega
 refine ap aE l ([n]:List Int) rfl rfl (fun _=>⟨rfl,rfl⟩) (by (simp only [List.length_append,List.length_cons,List.length_nil];omega)) ?_
 refine bh rfl fun _=>?_
 show K (.slice true ((l++([n]:List Int)).map aE)) m
 have q:gx l n=l++[n]:=if_neg (by have:=ay.2.2;rwa [fm (by omega)] at this)
 rw [q] at ab;exact ab
end Go.Proofs
end
section
namespace Go.Proofs
open Go Go.ba Go.bV
set_option maxRecDepth 100000
structure c1 where
 cH:Int
 st:List Int
 aW:List (List Int)
def hF (S:a6) (W:List a6) (e:ax):Int:=
 if e.kind=2 then b6 (S.ins.map Prod.fst) e.s
 else if e.kind=3 then b6 (S.res.map cz.name) e.s
 else if e.kind=4 then (if 0≤b6 (W.map a6.name) e.s then (if b6 ((I W (b6 (W.map a6.name) e.s)).outs.map Prod.fst) e.t<0 then-1 else b6 (W.map a6.name) e.s) else b6 (W.map a6.name) e.s)
 else 0
def look (S:a6) (W:List a6) (a8:Int) (σ:c1) (e:ax):c1:=
 ⟨if hF S W e<0∧σ.cH=0 then 7 else σ.cH,
  if e.kind=4∧0≤b6 (W.map a6.name) e.s then gx σ.st (b6 (W.map a6.name) e.s) else σ.st,
  if e.kind=3∧0≤b6 (S.res.map cz.name) e.s∧0≤a8 then σ.aW.set a8.toNat (gx (I σ.aW a8) (b6 (S.res.map cz.name) e.s)) else σ.aW⟩
structure fK (n:Int) (bt:Nat) (σ:c1):Prop where
 s:(σ.st.length:Int)≤n
 z:∀z∈σ.aW,(z.length:Int)≤n
 l:σ.aW.length=bt
theorem fK.mono {n xR:Int} {bt:Nat} {σ:c1} (h:fK n bt σ) (aI:n≤xR):fK xR bt σ:=⟨by have:=h.s;omega,fun z ao=>by have:=h.z z ao;omega,h.l⟩
theorem fK.look {n:Int} {bt:Nat} {σ:c1} (h:fK n bt σ) (S:a6) (W:List a6) (a8:Int) (ad:a8<bt) (e:ax):fK (n+1) bt (look S W a8 σ e):=by
 have al:=h.s
 refine ⟨?_,fun z ao=>?_,?_⟩
 · show ((if _ then _ else _:List Int).length:Int)≤_
   split
   · have:=IV σ.st (b6 (W.map a6.name) e.s);omega
   · omega
 · replace ao:z∈(if e.kind=3∧0≤b6 (S.res.map cz.name) e.s∧0≤a8 then σ.aW.set a8.toNat (gx (I σ.aW a8) (b6 (S.res.map cz.name) e.s)) else σ.aW):=ao
   split at ao
   · rename_i c
     rcases List.mem_or_eq_of_mem_set ao with ao|rfl
     · have:=h.z z ao;omega
     · have J:=IV (I σ.aW a8) (b6 (S.res.map cz.name) e.s)
       have aa:=h.z _ (cb c.2.2 (by rw [h.l];exact ad))
       omega
   · have:=h.z z ao;omega
 · show (if _ then _ else _:List (List Int)).length=_
   split
   · rw [List.length_set];exact h.l
   · exact h.l
set_option maxHeartbeats 4000000 in
theorem SS (S:a6) (W:List a6) (bN cG:List (List Int)) (a8:Int) (bt:Nat) (dv eP dH c6 fC e6 dI dJ:Nat) (σ:c1) (e:ax) (n:Int) (ad:a8<bt) (cd:fK n bt σ) (aI:n≤1000000) (gH:W.length≤1000) (m:ae) (gd:eE [dv,eP,c6,dH,e6,fC,dI,dJ] m) (K:U→ae→Prop) (ab:K (.tuple []) (ae.bf m [(dv, .cells [.str S.name, .slice false (S.ins.map bM), .slice false (S.res.map bK), .slice false (S.outs.map bz)]),(eP, .cells [.int .i64 a8]),(c6, .cells (cW aE ((look S W a8 σ e).aW))),(dH, .cells [.ms ⟨c6,0,none⟩ bt bt]),(e6, .cells [.slice true (W.map bB), .slice true (bN.map (bj aE)), .slice true (cG.map (bj aE))]),(fC, .cells [.ptr ⟨e6,0,none⟩]),(dI, .cells [.slice true (((look S W a8 σ e).st).map aE)]),(dJ, .cells [.err 115 ((look S W a8 σ e).cH)])])):bg Tryz.prog 191 [cy e, .ptr ⟨dv,0,none⟩, .ptr ⟨eP,0,none⟩, .ptr ⟨dH,0,none⟩, .ptr ⟨fC,0,none⟩, .ptr ⟨dI,0,none⟩, .ptr ⟨dJ,0,none⟩] (ae.bf m [(dv, .cells [.str S.name, .slice false (S.ins.map bM), .slice false (S.res.map bK), .slice false (S.outs.map bz)]),(eP, .cells [.int .i64 a8]),(c6, .cells (cW aE σ.aW)),(dH, .cells [.ms ⟨c6,0,none⟩ bt bt]),(e6, .cells [.slice true (W.map bB), .slice true (bN.map (bj aE)), .slice true (cG.map (bj aE))]),(fC, .cells [.ptr ⟨e6,0,none⟩]),(dI, .cells [.slice true (σ.st.map aE)]),(dJ, .cells [.err 115 σ.cH])]) K:=by
 have tN:=cd.l
 refine enter (c:=kt [1000036,1000038,1000052,1000054,1000074] [] [7,15] [8999,10999,13999] [8,10,13] [dv,eP,c6,dH,e6,fC,dI,dJ]) (vs:=[.aH (cy e), .loc 0 0, .loc 1 0, .loc 3 0, .loc 5 0, .loc 6 0, .loc 7 0]) (L:=[.cells [aw S.name,an (S.ins.map bM),an (S.res.map bK),an (S.outs.map bz)], .cells [aj a8], .obj (.cells (cW aE σ.aW)), .cells [.ms 2 bt bt], .cells [.own (W.map bB), .own (bN.map (bj aE)), .own (cG.map (bj aE))], .cells [.loc 4 0], .cells [.own (σ.st.map aE)], .cells [.aH (.err 115 σ.cH)]]) (m:=m) false fS Tryz.mixed Tryz.func191 rfl (k:=7) (by show cu [8999,10999,13999] _ _ _=true;decide+kernel) rfl (gd.hn rfl) ?_
 refine az ?_
 refine ah (fun J=>?_) (fun J=>?_)
 · refine b2 (fun _=>Ir S.ins e.s) rfl ?_
   refine cq [6] 73 ((decide (b6 (S.ins.map Prod.fst) e.s<0))&&(σ.cH==0)) ?_ ?_
   · repeat' first
      |exact ⟨⟨_,rfl,by grind [bD.val]⟩,rfl⟩
      |refine ah (fun _=>?_) (fun _=>?_)
   refine ah (fun aa=>?_) (fun aa=>?_)
   · replace aa:(b6 (S.ins.map Prod.fst) e.s<0)∧(σ.cH=0):=⟨(of_decide_eq_true (eO aa)),(eq_of_beq (fk aa))⟩
     refine qm fS 115 rfl rfl ?_
     have bA:look S W a8 σ e=((⟨7,σ.st,σ.aW⟩:c1):c1):=by
      simp only [look,hF];grind
     rw [bA] at ab
     exact rt rfl fun _=>ab
   replace aa:(0≤b6 (S.ins.map Prod.fst) e.s)∨(σ.cH≠0):=((fl aa).imp (fun q=>(Int.not_lt.1 (of_decide_eq_false q))) (fun q=>(ne_of_beq_false q)))
   have bA:look S W a8 σ e=((⟨σ.cH,σ.st,σ.aW⟩:c1):c1):=by
    simp only [look,hF];grind
   rw [bA] at ab
   exact rt rfl fun _=>ab
 refine ah (fun ai=>?_) (fun ai=>?_)
 · refine b2 (fun _=>Is S.res e.s) rfl ?_
   refine cq [2,3,6,8] 30 ((decide (0≤b6 (S.res.map cz.name) e.s))&&(decide (0≤a8))) ?_ ?_
   · repeat' first
      |exact ⟨⟨_,rfl,by grind [bD.val]⟩,rfl⟩
      |refine ah (fun _=>?_) (fun _=>?_)
   refine ah (fun aJ=>?_) (fun aJ=>?_)
   · replace aJ:(0≤b6 (S.res.map cz.name) e.s)∧(0≤a8):=⟨(of_decide_eq_true (eO aJ)),(of_decide_eq_true (fk aJ))⟩
     refine gp fS Tryz.mixed (σ:=Unit) (.f 6 (.o 0 (.o 1 (.o 2 (.s 3 (.s 4 (.s 5 (.s 7 (.s 8 (.s 9 .d)))))) (.o 3 (.s 2 (.s 4 (.s 5 (.s 7 (.s 8 (.s 9 .d)))))) .z)) (.o 2 (.o 1 (.s 3 (.s 4 (.s 5 (.s 7 (.s 8 (.s 9 .d)))))) (.o 3 (.o 1 (.s 4 (.s 5 (.s 7 (.s 8 (.s 9 .d))))) (.o 4 (.o 1 (.s 5 (.s 7 (.s 8 (.s 9 .d)))) (.o 5 (.o 1 (.s 7 (.s 8 (.s 9 .d))) (.o 7 (.s 1 (.s 8 (.s 9 .d))) .z)) .z)) .z)) .z)) (.o 3 (.o 1 (.s 2 (.s 4 (.s 5 (.s 7 (.s 8 (.s 9 .d)))))) (.o 2 (.o 1 (.s 4 (.s 5 (.s 7 (.s 8 (.s 9 .d))))) (.o 4 (.o 1 (.s 5 (.s 7 (.s 8 (.s 9 .d)))) (.o 5 (.o 1 (.s 7 (.s 8 (.s 9 .d))) (.o 7 (.s 1 (.s 8 (.s 9 .d))) .z)) .z)) .z)) .z)) .z))) (.o 1 (.o 0 (.o 2 (.s 3 (.s 4 (.s 5 (.s 7 (.s 8 (.s 9 .d)))))) (.o 3 (.s 2 (.s 4 (.s 5 (.s 7 (.s 8 (.s 9 .d)))))) .z)) (.o 2 (.o 0 (.s 3 (.s 4 (.s 5 (.s 7 (.s 8 (.s 9 .d)))))) (.o 3 (.o 0 (.s 4 (.s 5 (.s 7 (.s 8 (.s 9 .d))))) (.o 4 (.o 0 (.s 5 (.s 7 (.s 8 (.s 9 .d)))) (.o 5 (.o 0 (.s 7 (.s 8 (.s 9 .d))) (.o 7 (.s 0 (.s 8 (.s 9 .d))) .z)) .z)) .z)) .z)) (.o 3 (.o 0 (.s 2 (.s 4 (.s 5 (.s 7 (.s 8 (.s 9 .d)))))) (.o 2 (.o 0 (.s 4 (.s 5 (.s 7 (.s 8 (.s 9 .d))))) (.o 4 (.o 0 (.s 5 (.s 7 (.s 8 (.s 9 .d)))) (.o 5 (.o 0 (.s 7 (.s 8 (.s 9 .d))) (.o 7 (.s 0 (.s 8 (.s 9 .d))) .z)) .z)) .z)) .z)) .z))) (.o 2 (.o 0 (.o 1 (.s 3 (.s 4 (.s 5 (.s 7 (.s 8 (.s 9 .d)))))) (.o 3 (.o 1 (.s 4 (.s 5 (.s 7 (.s 8 (.s 9 .d))))) (.o 4 (.o 1 (.s 5 (.s 7 (.s 8 (.s 9 .d)))) (.o 5 (.o 1 (.s 7 (.s 8 (.s 9 .d))) (.o 7 (.s 1 (.s 8 (.s 9 .d))) .z)) .z)) .z)) .z)) (.o 1 (.o 0 (.s 3 (.s 4 (.s 5 (.s 7 (.s 8 (.s 9 .d)))))) (.o 3 (.o 0 (.s 4 (.s 5 (.s 7 (.s 8 (.s 9 .d))))) (.o 4 (.o 0 (.s 5 (.s 7 (.s 8 (.s 9 .d)))) (.o 5 (.o 0 (.s 7 (.s 8 (.s 9 .d))) (.o 7 (.s 0 (.s 8 (.s 9 .d))) .z)) .z)) .z)) .z)) (.o 3 (.o 0 (.o 1 (.s 4 (.s 5 (.s 7 (.s 8 (.s 9 .d))))) (.o 4 (.o 1 (.s 5 (.s 7 (.s 8 (.s 9 .d)))) (.o 5 (.o 1 (.s 7 (.s 8 (.s 9 .d))) (.o 7 (.s 1 (.s 8 (.s 9 .d))) .z)) .z)) .z)) (.o 1 (.o 0 (.s 4 (.s 5 (.s 7 (.s 8 (.s 9 .d))))) (.o 4 (.o 0 (.s 5 (.s 7 (.s 8 (.s 9 .d)))) (.o 5 (.o 0 (.s 7 (.s 8 (.s 9 .d))) (.o 7 (.s 0 (.s 8 (.s 9 .d))) .z)) .z)) .z)) (.o 4 (.o 0 (.o 1 (.s 5 (.s 7 (.s 8 (.s 9 .d)))) (.o 5 (.o 1 (.s 7 (.s 8 (.s 9 .d))) (.o 7 (.s 1 (.s 8 (.s 9 .d))) .z)) .z)) (.o 1 (.o 0 (.s 5 (.s 7 (.s 8 (.s 9 .d)))) (.o 5 (.o 0 (.s 7 (.s 8 (.s 9 .d))) (.o 7 (.s 0 (.s 8 (.s 9 .d))) .z)) .z)) (.o 5 (.o 0 (.o 1 (.s 7 (.s 8 (.s 9 .d))) (.o 7 (.s 1 (.s 8 (.s 9 .d))) .z)) (.o 1 (.o 0 (.s 7 (.s 8 (.s 9 .d))) (.o 7 (.s 0 (.s 8 (.s 9 .d))) .z)) (.o 7 (.o 0 (.s 1 (.s 8 (.s 9 .d))) (.o 1 (.s 0 (.s 8 (.s 9 .d))) .z)) .z))) .z))) .z))) .z))) (.o 3 (.o 0 (.o 1 (.s 2 (.s 4 (.s 5 (.s 7 (.s 8 (.s 9 .d)))))) (.o 2 (.o 1 (.s 4 (.s 5 (.s 7 (.s 8 (.s 9 .d))))) (.o 4 (.o 1 (.s 5 (.s 7 (.s 8 (.s 9 .d)))) (.o 5 (.o 1 (.s 7 (.s 8 (.s 9 .d))) (.o 7 (.s 1 (.s 8 (.s 9 .d))) .z)) .z)) .z)) .z)) (.o 1 (.o 0 (.s 2 (.s 4 (.s 5 (.s 7 (.s 8 (.s 9 .d)))))) (.o 2 (.o 0 (.s 4 (.s 5 (.s 7 (.s 8 (.s 9 .d))))) (.o 4 (.o 0 (.s 5 (.s 7 (.s 8 (.s 9 .d)))) (.o 5 (.o 0 (.s 7 (.s 8 (.s 9 .d))) (.o 7 (.s 0 (.s 8 (.s 9 .d))) .z)) .z)) .z)) .z)) (.o 2 (.o 0 (.o 1 (.s 4 (.s 5 (.s 7 (.s 8 (.s 9 .d))))) (.o 4 (.o 1 (.s 5 (.s 7 (.s 8 (.s 9 .d)))) (.o 5 (.o 1 (.s 7 (.s 8 (.s 9 .d))) (.o 7 (.s 1 (.s 8 (.s 9 .d))) .z)) .z)) .z)) (.o 1 (.o 0 (.s 4 (.s 5 (.s 7 (.s 8 (.s 9 .d))))) (.o 4 (.o 0 (.s 5 (.s 7 (.s 8 (.s 9 .d)))) (.o 5 (.o 0 (.s 7 (.s 8 (.s 9 .d))) (.o 7 (.s 0 (.s 8 (.s 9 .d))) .z)) .z)) .z)) (.o 4 (.o 0 (.o 1 (.s 5 (.s 7 (.s 8 (.s 9 .d)))) (.o 5 (.o 1 (.s 7 (.s 8 (.s 9 .d))) (.o 7 (.s 1 (.s 8 (.s 9 .d))) .z)) .z)) (.o 1 (.o 0 (.s 5 (.s 7 (.s 8 (.s 9 .d)))) (.o 5 (.o 0 (.s 7 (.s 8 (.s 9 .d))) (.o 7 (.s 0 (.s 8 (.s 9 .d))) .z)) .z)) (.o 5 (.o 0 (.o 1 (.s 7 (.s 8 (.s 9 .d))) (.o 7 (.s 1 (.s 8 (.s 9 .d))) .z)) (.o 1 (.o 0 (.s 7 (.s 8 (.s 9 .d))) (.o 7 (.s 0 (.s 8 (.s 9 .d))) .z)) (.o 7 (.o 0 (.s 1 (.s 8 (.s 9 .d))) (.o 1 (.s 0 (.s 8 (.s 9 .d))) .z)) .z))) .z))) .z))) .z))) .z))))) [] [6,8] 9 (fun _=>([(6, .loc 7 0),(8,aj (b6 (S.res.map cz.name) e.s))],[.cells [aw S.name,an (S.ins.map bM),an (S.res.map bK),an (S.outs.map bz)], .cells [aj a8], .obj (.cells (cW aE (σ.aW.set (a8).toNat (gx (I σ.aW a8) (b6 (S.res.map cz.name) e.s))))), .cells [.ms 2 bt bt], .cells [.own (W.map bB), .own (bN.map (bj aE)), .own (cG.map (bj aE))], .cells [.loc 4 0], .cells [.own (σ.st.map aE)], .cells [.aH (.err 115 σ.cH)], .cells [aj e.kind,aj e.v.kind,aj e.v.n,aw e.v.s,an (e.v.l.map cj),an (e.v.f.map ct),aw e.s,aw e.t,an (e.a.map cx),an (e.n.map cS)]],m)) (fun _=>True) (by decide+kernel) ?_ ?_
     · rintro _ SU
       try dsimp only at SU
       refine cq [6] 73 ((decide (b6 (S.res.map cz.name) e.s<0))&&(σ.cH==0)) ?_ ?_
       · repeat' first
          |exact ⟨⟨_,rfl,by grind [bD.val]⟩,rfl⟩
          |refine ah (fun _=>?_) (fun _=>?_)
       refine ah (fun aY=>?_) (fun aY=>?_)
       · replace aY:(b6 (S.res.map cz.name) e.s<0)∧(σ.cH=0):=⟨(of_decide_eq_true (eO aY)),(eq_of_beq (fk aY))⟩
         refine qm fS 115 rfl rfl ?_
         have bA:look S W a8 σ e=((⟨7,σ.st,σ.aW.set (a8).toNat (gx (I σ.aW a8) (b6 (S.res.map cz.name) e.s))⟩:c1):c1):=by
          simp only [look,hF];grind
         rw [bA] at ab
         exact rt rfl fun _=>ab
       replace aY:(0≤b6 (S.res.map cz.name) e.s)∨(σ.cH≠0):=((fl aY).imp (fun q=>(Int.not_lt.1 (of_decide_eq_false q))) (fun q=>(ne_of_beq_false q)))
       have bA:look S W a8 σ e=((⟨σ.cH,σ.st,σ.aW.set (a8).toNat (gx (I σ.aW a8) (b6 (S.res.map cz.name) e.s))⟩:c1):c1):=by
        simp only [look,hF];grind
       rw [bA] at ab
       exact rt rfl fun _=>ab
     repeat' first
      |refine ⟨(),⟨rfl,rfl⟩,trivial⟩
      |refine Gd fS aE σ.aW rfl rfl rfl (by omega) ?_
      |refine xW (.own ((gx (I σ.aW a8) (b6 (S.res.map cz.name) e.s)).map aE)) rfl rfl rfl (fun bs aF K ab=>IX (I σ.aW a8) (b6 (S.res.map cz.name) e.s) (by have:=cd.z (I σ.aW a8) (cb (i:=a8) (by omega) (by omega));omega) aF K ab) ?_
      |refine Ge fS ((cW aE σ.aW).set (a8).toNat (.slice false ((I σ.aW a8).map aE))) (cW aE (σ.aW.set (a8).toNat (gx (I σ.aW a8) (b6 (S.res.map cz.name) e.s)))) rfl rfl rfl rfl ⟨by omega,by simp only [List.length_set,vK];omega⟩ (Gc ..) ?_
      |refine ah (by omega) ?_
      |refine ⟨?_,?_,?_,?_,trivial⟩
      |refine ⟨?_,?_,?_,trivial⟩
      |refine ⟨?_,?_,trivial⟩
   replace aJ:(b6 (S.res.map cz.name) e.s<0)∨(a8<0):=((fl aJ).imp (fun q=>(Int.not_le.1 (of_decide_eq_false q))) (fun q=>(Int.not_le.1 (of_decide_eq_false q))))
   refine cq [6] 73 ((decide (b6 (S.res.map cz.name) e.s<0))&&(σ.cH==0)) ?_ ?_
   · repeat' first
      |exact ⟨⟨_,rfl,by grind [bD.val]⟩,rfl⟩
      |refine ah (fun _=>?_) (fun _=>?_)
   refine ah (fun bG=>?_) (fun bG=>?_)
   · replace bG:(b6 (S.res.map cz.name) e.s<0)∧(σ.cH=0):=⟨(of_decide_eq_true (eO bG)),(eq_of_beq (fk bG))⟩
     refine qm fS 115 rfl rfl ?_
     have bA:look S W a8 σ e=((⟨7,σ.st,σ.aW⟩:c1):c1):=by
      simp only [look,hF];grind
     rw [bA] at ab
     exact rt rfl fun _=>ab
   replace bG:(0≤b6 (S.res.map cz.name) e.s)∨(σ.cH≠0):=((fl bG).imp (fun q=>(Int.not_lt.1 (of_decide_eq_false q))) (fun q=>(ne_of_beq_false q)))
   have bA:look S W a8 σ e=((⟨σ.cH,σ.st,σ.aW⟩:c1):c1):=by
    simp only [look,hF];grind
   rw [bA] at ab
   exact rt rfl fun _=>ab
 refine ah (fun c7=>?_) (fun c7=>?_)
 · refine gp fS Tryz.mixed (σ:=Unit) (.f 5 (.o 0 (.f 1 (.f 2 (.f 3 (.o 4 (.s 6 (.s 7 (.s 8 .d))) (.o 6 (.s 4 (.s 7 (.s 8 .d))) .z))))) (.o 6 (.s 0 (.f 1 (.f 2 (.f 3 (.s 4 (.s 7 (.s 8 .d))))))) .z))) [] [4,5,6,7,8] 9 (fun _=>([(4, .loc 5 0),(5, .loc 6 0),(6, .loc 7 0),(7, .loc 8 0),(8,aj (b6 (W.map a6.name) e.s))],[.cells [aw S.name,an (S.ins.map bM),an (S.res.map bK),an (S.outs.map bz)], .cells [aj a8], .obj (.cells (cW aE σ.aW)), .cells [.ms 2 bt bt], .cells [.own (W.map bB), .own (bN.map (bj aE)), .own (cG.map (bj aE))], .cells [.loc 4 0], .cells [.own (σ.st.map aE)], .cells [.aH (.err 115 σ.cH)], .cells [aj e.kind,aj e.v.kind,aj e.v.n,aw e.v.s,an (e.v.l.map cj),an (e.v.f.map ct),aw e.s,aw e.t,an (e.a.map cx),an (e.n.map cS)]],m)) (fun _=>True) (by decide+kernel) ?_ ?_
   · rintro _ SV
     try dsimp only at SV
     refine ah (fun cV=>?_) (fun cV=>?_)
     · have ur:b6 (W.map a6.name) e.s<W.length:=by
        rcases Ct (l:=W.map a6.name) (s:=e.s) with h|⟨_,h⟩
        · omega
        · rwa [List.length_map] at h
       refine xW (.own ((gx σ.st (b6 (W.map a6.name) e.s)).map aE)) rfl rfl rfl (fun bs aF K ab=>IX σ.st (b6 (W.map a6.name) e.s) (by have:=cd.s;omega) aF K ab) ?_
       refine gp fS Tryz.mixed (σ:=Unit) (.f 5 (.f 9 (.o 0 (.f 1 (.f 2 (.f 3 (.o 4 (.o 6 (.o 7 (.o 8 (.s 10 (.s 11 (.s 12 .d))) (.o 10 (.s 8 (.s 11 (.s 12 .d))) .z)) (.o 10 (.s 7 (.s 8 (.s 11 (.s 12 .d)))) .z)) (.o 10 (.s 6 (.s 7 (.s 8 (.s 11 (.s 12 .d))))) .z)) (.o 10 (.s 4 (.s 6 (.s 7 (.s 8 (.s 11 (.s 12 .d)))))) .z))))) (.o 10 (.s 0 (.f 1 (.f 2 (.f 3 (.s 4 (.s 6 (.s 7 (.s 8 (.s 11 (.s 12 .d)))))))))) .z)))) [] [6,8,67] 9 (fun _=>([(6, .loc 7 0),(8,aj (b6 (W.map a6.name) e.s)),(67,eY (decide (b6 (((I W (b6 (W.map a6.name) e.s)).outs).map Prod.fst) e.t<0)))],[.cells [aw S.name,an (S.ins.map bM),an (S.res.map bK),an (S.outs.map bz)], .cells [aj a8], .obj (.cells (cW aE σ.aW)), .cells [.ms 2 bt bt], .cells [.own (W.map bB), .own (bN.map (bj aE)), .own (cG.map (bj aE))], .cells [.loc 4 0], .cells [.own ((gx σ.st (b6 (W.map a6.name) e.s)).map aE)], .cells [.aH (.err 115 σ.cH)], .cells [aj e.kind,aj e.v.kind,aj e.v.n,aw e.v.s,an (e.v.l.map cj),an (e.v.f.map ct),aw e.s,aw e.t,an (e.a.map cx),an (e.n.map cS)]],m)) (fun _=>True) (by decide+kernel) ?_ ?_
       · rintro _ Cp
         try dsimp only at Cp
         refine ah (fun cU=>?_) (fun cU=>?_)
         · refine cq [6] 73 ((decide (-1<0))&&(σ.cH==0)) ?_ ?_
           · repeat' first
              |exact ⟨⟨_,rfl,by grind [bD.val]⟩,rfl⟩
              |refine ah (fun _=>?_) (fun _=>?_)
           refine ah (fun eH=>?_) (fun eH=>?_)
           · replace eH:(-1<0)∧(σ.cH=0):=⟨(of_decide_eq_true (eO eH)),(eq_of_beq (fk eH))⟩
             refine qm fS 115 rfl rfl ?_
             have bA:look S W a8 σ e=((⟨7,(gx σ.st (b6 (W.map a6.name) e.s)),σ.aW⟩:c1):c1):=by
              simp only [look,hF];grind
             rw [bA] at ab
             exact rt rfl fun _=>ab
           replace eH:(0≤-1)∨(σ.cH≠0):=((fl eH).imp (fun q=>(Int.not_lt.1 (of_decide_eq_false q))) (fun q=>(ne_of_beq_false q)))
           have bA:look S W a8 σ e=((⟨σ.cH,(gx σ.st (b6 (W.map a6.name) e.s)),σ.aW⟩:c1):c1):=by
            simp only [look,hF];grind
           rw [bA] at ab
           exact rt rfl fun _=>ab
         refine cq [6] 73 ((decide (b6 (W.map a6.name) e.s<0))&&(σ.cH==0)) ?_ ?_
         · repeat' first
            |exact ⟨⟨_,rfl,by grind [bD.val]⟩,rfl⟩
            |refine ah (fun _=>?_) (fun _=>?_)
         refine ah (fun fF=>?_) (fun fF=>?_)
         · replace fF:(b6 (W.map a6.name) e.s<0)∧(σ.cH=0):=⟨(of_decide_eq_true (eO fF)),(eq_of_beq (fk fF))⟩
           refine qm fS 115 rfl rfl ?_
           have bA:look S W a8 σ e=((⟨7,(gx σ.st (b6 (W.map a6.name) e.s)),σ.aW⟩:c1):c1):=by
            simp only [look,hF];grind
           rw [bA] at ab
           exact rt rfl fun _=>ab
         replace fF:(0≤b6 (W.map a6.name) e.s)∨(σ.cH≠0):=((fl fF).imp (fun q=>(Int.not_lt.1 (of_decide_eq_false q))) (fun q=>(ne_of_beq_false q)))
         have bA:look S W a8 σ e=((⟨σ.cH,(gx σ.st (b6 (W.map a6.name) e.s)),σ.aW⟩:c1):c1):=by
          simp only [look,hF];grind
         rw [bA] at ab
         exact rt rfl fun _=>ab
       repeat' first
        |refine ⟨(),⟨rfl,rfl⟩,trivial⟩
        |refine b2 (fun _=>It ((I W (b6 (W.map a6.name) e.s)).outs) e.t) rfl ?_
        |refine ck (by omega) ?_
        |refine ⟨?_,?_,trivial⟩
     refine cq [6] 73 ((decide (b6 (W.map a6.name) e.s<0))&&(σ.cH==0)) ?_ ?_
     · repeat' first
        |exact ⟨⟨_,rfl,by grind [bD.val]⟩,rfl⟩
        |refine ah (fun _=>?_) (fun _=>?_)
     refine ah (fun hL=>?_) (fun hL=>?_)
     · replace hL:(b6 (W.map a6.name) e.s<0)∧(σ.cH=0):=⟨(of_decide_eq_true (eO hL)),(eq_of_beq (fk hL))⟩
       refine qm fS 115 rfl rfl ?_
       have bA:look S W a8 σ e=((⟨7,σ.st,σ.aW⟩:c1):c1):=by
        simp only [look,hF];grind
       rw [bA] at ab
       exact rt rfl fun _=>ab
     replace hL:(0≤b6 (W.map a6.name) e.s)∨(σ.cH≠0):=((fl hL).imp (fun q=>(Int.not_lt.1 (of_decide_eq_false q))) (fun q=>(ne_of_beq_false q)))
     have bA:look S W a8 σ e=((⟨σ.cH,σ.st,σ.aW⟩:c1):c1):=by
      simp only [look,hF];grind
     rw [bA] at ab
     exact rt rfl fun _=>ab
   repeat' first
    |refine ⟨(),⟨rfl,rfl⟩,trivial⟩
    |refine b2 (fun _=>Iq W e.s) rfl ?_
    |refine ⟨?_,?_,trivial⟩
 refine cq [6] 73 ((decide (0<0))&&(σ.cH==0)) ?_ ?_
 · repeat' first
    |exact ⟨⟨_,rfl,by grind [bD.val]⟩,rfl⟩
    |refine ah (fun _=>?_) (fun _=>?_)
 refine ah (fun hE=>?_) (fun hE=>?_)
 · replace hE:((0:Int)<0)∧(σ.cH=0):=⟨(of_decide_eq_true (eO hE)),(eq_of_beq (fk hE))⟩
   refine qm fS 115 rfl rfl ?_
   have bA:look S W a8 σ e=((⟨7,σ.st,σ.aW⟩:c1):c1):=by
    simp only [look,hF];grind
   rw [bA] at ab
   exact rt rfl fun _=>ab
 replace hE:((0:Int)≤0)∨(σ.cH≠0):=((fl hE).imp (fun q=>(Int.not_lt.1 (of_decide_eq_false q))) (fun q=>(ne_of_beq_false q)))
 have bA:look S W a8 σ e=((⟨σ.cH,σ.st,σ.aW⟩:c1):c1):=by
  simp only [look,hF];grind
 rw [bA] at ab
 exact rt rfl fun _=>ab
end Go.Proofs
end
section
namespace Go.Proofs
open Go Go.ba Go.bV
set_option maxRecDepth 100000
mutual
def oR:ax→List ax
 | .mk k v s t a n=> .mk k v s t a n::ob a
def ob:List ax→List ax
 |[]=>[]
 |e::r=>oR e++ob r
end
theorem IY (e:ax):oR e=e::ob e.a:=by cases e with|mk k v s t a n=>simp only [oR,ax.a]
theorem IZ {l:List ax} {i:Int} (aG:0≤i) (ad:i<l.length):ob (l.drop i.toNat)=oR (I l i)++ob (l.drop (i+1).toNat):=by rw [iP aG ad,ob]
def en (S:a6) (W:List a6) (a8:Int) (σ:c1) (e:ax):c1:=(oR e).foldl (look S W a8) σ
mutual
theorem I0:∀e:ax,((oR e).length:Int)=ec e
 | .mk k v s t a n=>by
   have h:=I1 a
   simp only [oR,ec,List.length_cons];omega
theorem I1:∀l:List ax,((ob l).length:Int)=hO l
 |[]=>by simp [ob,hO]
 |e::r=>by
  have J:=I0 e
  have aa:=I1 r
  simp only [ob,hO,List.length_append];omega
end
theorem fK.fold {bt:Nat} {S:a6} {W:List a6} {a8:Int} (ad:a8<bt):∀(l:List ax) {n:Int} {σ:c1},fK n bt σ→fK (n+l.length) bt (l.foldl (Go.Proofs.look S W a8) σ)
 |[],n,σ,h=>by simpa using h
 |e::r,n,σ,h=>by
  have J:=fK.fold (S:=S) (W:=W) ad r (h.look S W a8 ad e)
  rw [List.foldl_cons,List.length_cons]
  exact J.mono (by omega)
theorem fK.walk {n:Int} {bt:Nat} {S:a6} {W:List a6} {a8:Int} (ad:a8<bt) {σ:c1} (h:fK n bt σ) (e:ax):fK (n+ec e) bt (en S W a8 σ e):=by
 have:=fK.fold (S:=S) (W:=W) ad (oR e) h
 rw [I0] at this;exact this
set_option maxHeartbeats 4000000 in
theorem SW (S:a6) (W:List a6) (bN cG:List (List Int)) (a8:Int) (bt:Nat) (dv eP dH c6 fC e6 dI dJ:Nat) (σ:c1) (e:ax) (k:Nat) (n:Int) (aQ:∀x:ax,eg x<k→∀(dv eP dH c6 fC e6 dI dJ:Nat) (σ:c1) (n:Int),fK n bt σ→n+ec x≤1000000→∀(m:ae),eE [dv,eP,c6,dH,e6,fC,dI,dJ] m→∀(K:U→ae→Prop),K (.tuple []) (ae.bf m [(dv, .cells [.str S.name, .slice false (S.ins.map bM), .slice false (S.res.map bK), .slice false (S.outs.map bz)]),(eP, .cells [.int .i64 a8]),(c6, .cells (cW aE ((en S W a8 σ x).aW))),(dH, .cells [.ms ⟨c6,0,none⟩ bt bt]),(e6, .cells [.slice true (W.map bB), .slice true (bN.map (bj aE)), .slice true (cG.map (bj aE))]),(fC, .cells [.ptr ⟨e6,0,none⟩]),(dI, .cells [.slice true (((en S W a8 σ x).st).map aE)]),(dJ, .cells [.err 115 ((en S W a8 σ x).cH)])])→bg Tryz.prog 190 [cy x, .func (.func 191) [] [.ptr ⟨dv,0,none⟩, .ptr ⟨eP,0,none⟩, .ptr ⟨dH,0,none⟩, .ptr ⟨fC,0,none⟩, .ptr ⟨dI,0,none⟩, .ptr ⟨dJ,0,none⟩]] (ae.bf m [(dv, .cells [.str S.name, .slice false (S.ins.map bM), .slice false (S.res.map bK), .slice false (S.outs.map bz)]),(eP, .cells [.int .i64 a8]),(c6, .cells (cW aE σ.aW)),(dH, .cells [.ms ⟨c6,0,none⟩ bt bt]),(e6, .cells [.slice true (W.map bB), .slice true (bN.map (bj aE)), .slice true (cG.map (bj aE))]),(fC, .cells [.ptr ⟨e6,0,none⟩]),(dI, .cells [.slice true (σ.st.map aE)]),(dJ, .cells [.err 115 σ.cH])]) K) (bo:eg e<k+1) (ad:a8<bt) (cd:fK n bt σ) (aI:n+ec e≤1000000) (gH:W.length≤1000) (m:ae) (gd:eE [dv,eP,c6,dH,e6,fC,dI,dJ] m) (K:U→ae→Prop) (ab:K (.tuple []) (ae.bf m [(dv, .cells [.str S.name, .slice false (S.ins.map bM), .slice false (S.res.map bK), .slice false (S.outs.map bz)]),(eP, .cells [.int .i64 a8]),(c6, .cells (cW aE ((en S W a8 σ e).aW))),(dH, .cells [.ms ⟨c6,0,none⟩ bt bt]),(e6, .cells [.slice true (W.map bB), .slice true (bN.map (bj aE)), .slice true (cG.map (bj aE))]),(fC, .cells [.ptr ⟨e6,0,none⟩]),(dI, .cells [.slice true (((en S W a8 σ e).st).map aE)]),(dJ, .cells [.err 115 ((en S W a8 σ e).cH)])])):bg Tryz.prog 190 [cy e, .func (.func 191) [] [.ptr ⟨dv,0,none⟩, .ptr ⟨eP,0,none⟩, .ptr ⟨dH,0,none⟩, .ptr ⟨fC,0,none⟩, .ptr ⟨dI,0,none⟩, .ptr ⟨dJ,0,none⟩]] (ae.bf m [(dv, .cells [.str S.name, .slice false (S.ins.map bM), .slice false (S.res.map bK), .slice false (S.outs.map bz)]),(eP, .cells [.int .i64 a8]),(c6, .cells (cW aE σ.aW)),(dH, .cells [.ms ⟨c6,0,none⟩ bt bt]),(e6, .cells [.slice true (W.map bB), .slice true (bN.map (bj aE)), .slice true (cG.map (bj aE))]),(fC, .cells [.ptr ⟨e6,0,none⟩]),(dI, .cells [.slice true (σ.st.map aE)]),(dJ, .cells [.err 115 σ.cH])]) K:=by
 have aq:=yh e
 have sx:=(oJ e.a).1
 refine enter (c:=kt [] [0] [] [] [] [dv,eP,c6,dH,e6,fC,dI,dJ]) (vs:=[.aH (cy e), .fn 191 [] [.loc 0 0, .loc 1 0, .loc 3 0, .loc 5 0, .loc 6 0, .loc 7 0]]) (L:=[.cells [aw S.name,an (S.ins.map bM),an (S.res.map bK),an (S.outs.map bz)], .cells [aj a8], .obj (.cells (cW aE σ.aW)), .cells [.ms 2 bt bt], .cells [.own (W.map bB), .own (bN.map (bj aE)), .own (cG.map (bj aE))], .cells [.loc 4 0], .cells [.own (σ.st.map aE)], .cells [.aH (.err 115 σ.cH)]]) (m:=m) false fS Tryz.mixed Tryz.func190 rfl (k:=2) (by show cu [] _ _ _=true;decide+kernel) rfl (gd.hn rfl) ?_
 refine ⟨fun bq=>?_⟩
 have jx:e.v.s.length≤140737488355328:=(bq 0 3 (Nat.le_of_ble_eq_true rfl))
 have lN:e.v.l.length≤140737488355328:=cN (bq 0 4 (Nat.le_of_ble_eq_true rfl))
 have rN:e.v.f.length≤140737488355328:=cN (bq 0 5 (Nat.le_of_ble_eq_true rfl))
 have rO:e.s.length≤140737488355328:=(bq 0 6 (Nat.le_of_ble_eq_true rfl))
 have rP:e.t.length≤140737488355328:=(bq 0 7 (Nat.le_of_ble_eq_true rfl))
 have rQ:e.a.length≤140737488355328:=cN (bq 0 8 (Nat.le_of_ble_eq_true rfl))
 have rR:e.n.length≤140737488355328:=cN (bq 0 9 (Nat.le_of_ble_eq_true rfl))
 refine gn [0,1,2,3,4,5,6,7] [.cells [aw S.name,an (S.ins.map bM),an (S.res.map bK),an (S.outs.map bz)], .cells [aj a8], .obj (.cells (cW aE ((look S W a8 σ e).aW))), .cells [.ms 2 bt bt], .cells [.own (W.map bB), .own (bN.map (bj aE)), .own (cG.map (bj aE))], .cells [.loc 4 0], .cells [.own (((look S W a8 σ e).st).map aE)], .cells [.aH (.err 115 ((look S W a8 σ e).cH))]] (.dw []) rfl (fun bs aF gd=>SS S W bN cG a8 bt (bs.getD 0 0) (bs.getD 1 0) (bs.getD 3 0) (bs.getD 2 0) (bs.getD 5 0) (bs.getD 4 0) (bs.getD 6 0) (bs.getD 7 0) σ e _ ad cd (by omega) gH aF gd) ?_
 refine br ?_
 refine b7 (σ:=Int×c1) [] [1,10,11,12] 9 (fun ⟨i,eh⟩=>([(1, .fn 191 [] [.loc 0 0, .loc 1 0, .loc 3 0, .loc 5 0, .loc 6 0, .loc 7 0]),(10,an (e.a.map cx)),(11,aj (e.a.length:Int)),(12,aj i)],[.cells [aw S.name,an (S.ins.map bM),an (S.res.map bK),an (S.outs.map bz)], .cells [aj a8], .obj (.cells (cW aE eh.aW)), .cells [.ms 2 bt bt], .cells [.own (W.map bB), .own (bN.map (bj aE)), .own (cG.map (bj aE))], .cells [.loc 4 0], .cells [.own (eh.st.map aE)], .cells [.aH (.err 115 eh.cH)], .cells [aj e.kind,aj e.v.kind,aj e.v.n,aw e.v.s,an (e.v.l.map cj),an (e.v.f.map ct),aw e.s,aw e.t,an (e.a.map cx),an (e.n.map cS)]],m)) (fun ⟨i,eh⟩=>0≤i∧i≤e.a.length∧(ob (e.a.drop i.toNat)).foldl (look S W a8) eh=en S W a8 σ e∧fK (n+ec e- hO (e.a.drop i.toNat)) bt eh) (fun ⟨i,eh⟩=>e.a.length- i.toNat) (0,(look S W a8 σ e)) ⟨rfl,rfl⟩ ?_ ?_
 · try dsimp only
   exact ⟨by omega,by omega,by rw [en,IY];rfl,(cd.look S W a8 ad e).mono (by show n+1≤n+ec e- hO e.a;omega)⟩
 rintro ⟨i,eh⟩ ay
 dsimp only at ay
 refine az ?_
 refine ah (fun J=>?_) (fun J=>?_)
 · have al:=yi ay.1 J
   have aU:=(rM (I e.a i)).1
   have aO:=(oJ (e.a.drop (i+1).toNat)).1
   refine az ?_
   refine gj cy e9 (by omega) ?_
   refine gn [0,1,2,3,4,5,6,7] [.cells [aw S.name,an (S.ins.map bM),an (S.res.map bK),an (S.outs.map bz)], .cells [aj a8], .obj (.cells (cW aE ((en S W a8 eh (I e.a i)).aW))), .cells [.ms 2 bt bt], .cells [.own (W.map bB), .own (bN.map (bj aE)), .own (cG.map (bj aE))], .cells [.loc 4 0], .cells [.own (((en S W a8 eh (I e.a i)).st).map aE)], .cells [.aH (.err 115 ((en S W a8 eh (I e.a i)).cH))]] (.dw []) rfl (fun bs aF gd=>aQ (I e.a i) (by have:=ns (cb (l:=e.a) (i:=i) ay.1 (by assumption));omega) (bs.getD 0 0) (bs.getD 1 0) (bs.getD 3 0) (bs.getD 2 0) (bs.getD 5 0) (bs.getD 4 0) (bs.getD 6 0) (bs.getD 7 0) eh _ ay.2.2.2 (by omega) aF gd) ?_
   refine ah (by omega) ?_
   refine ⟨(i+1,(en S W a8 eh (I e.a i))),⟨rfl,rfl⟩,?_,?_⟩
   · try dsimp only
     exact ⟨by omega,by omega,by rw [←ay.2.2.1,IZ ay.1 J,List.foldl_append];rfl,(ay.2.2.2.walk ad (I e.a i)).mono (by omega)⟩
   try dsimp only
   omega
 refine rt rfl fun _=>?_
 show K (.tuple []) (ae.bf m [(dv, .cells [.str S.name, .slice false (S.ins.map bM), .slice false (S.res.map bK), .slice false (S.outs.map bz)]),(eP, .cells [.int .i64 a8]),(c6, .cells (cW aE eh.aW)),(dH, .cells [.ms ⟨c6,0,none⟩ bt bt]),(e6, .cells [.slice true (W.map bB), .slice true (bN.map (bj aE)), .slice true (cG.map (bj aE))]),(fC, .cells [.ptr ⟨e6,0,none⟩]),(dI, .cells [.slice true (eh.st.map aE)]),(dJ, .cells [.err 115 eh.cH])])
 have q:=ay.2.2.1
 rw [List.drop_eq_nil_of_le (by omega)] at q
 rw [←q] at ab;exact ab
theorem I2 (S:a6) (W:List a6) (bN cG:List (List Int)) (a8:Int) (bt:Nat) (ad:a8<bt) (gH:W.length≤1000):∀(k:Nat) (e:ax),eg e<k→∀(dv eP dH c6 fC e6 dI dJ:Nat) (σ:c1) (n:Int),fK n bt σ→n+ec e≤1000000→∀(m:ae),eE [dv,eP,c6,dH,e6,fC,dI,dJ] m→∀(K:U→ae→Prop),K (.tuple []) (ae.bf m [(dv, .cells [.str S.name, .slice false (S.ins.map bM), .slice false (S.res.map bK), .slice false (S.outs.map bz)]),(eP, .cells [.int .i64 a8]),(c6, .cells (cW aE ((en S W a8 σ e).aW))),(dH, .cells [.ms ⟨c6,0,none⟩ bt bt]),(e6, .cells [.slice true (W.map bB), .slice true (bN.map (bj aE)), .slice true (cG.map (bj aE))]),(fC, .cells [.ptr ⟨e6,0,none⟩]),(dI, .cells [.slice true (((en S W a8 σ e).st).map aE)]),(dJ, .cells [.err 115 ((en S W a8 σ e).cH)])])→bg Tryz.prog 190 [cy e, .func (.func 191) [] [.ptr ⟨dv,0,none⟩, .ptr ⟨eP,0,none⟩, .ptr ⟨dH,0,none⟩, .ptr ⟨fC,0,none⟩, .ptr ⟨dI,0,none⟩, .ptr ⟨dJ,0,none⟩]] (ae.bf m [(dv, .cells [.str S.name, .slice false (S.ins.map bM), .slice false (S.res.map bK), .slice false (S.outs.map bz)]),(eP, .cells [.int .i64 a8]),(c6, .cells (cW aE σ.aW)),(dH, .cells [.ms ⟨c6,0,none⟩ bt bt]),(e6, .cells [.slice true (W.map bB), .slice true (bN.map (bj aE)), .slice true (cG.map (bj aE))]),(fC, .cells [.ptr ⟨e6,0,none⟩]),(dI, .cells [.slice true (σ.st.map aE)]),(dJ, .cells [.err 115 σ.cH])]) K
 |0,_,h=>absurd h (Nat.not_lt_zero _)
 |k+1,e,h=>fun dv eP dH c6 fC e6 dI dJ σ n cd aI m gd K ab=>SW S W bN cG a8 bt dv eP dH c6 fC e6 dI dJ σ e k n (fun x aq=>I2 S W bN cG a8 bt ad gH k x aq) h ad cd aI gH m gd K ab
end Go.Proofs
end
section
namespace Go.Proofs
open Go Go.ba Go.bV
set_option maxRecDepth 100000
def lq (i:Int) (p:aD×ax):Int×ax:=(i,p.2)
def l5:List cz→Int→List (Int×ax)
 |[],_=>[]
 |x::r,i=>x.parts.map (lq i)++l5 r (i+1)
def qB (S:a6):List (Int×ax):=l5 S.res 0++S.outs.map (lq (-1))
def oS (S:a6) (W:List a6) (σ:c1) (q:Int×ax):c1:=en S W q.1 σ q.2
def ev (S:a6) (W:List a6) (σ:c1):c1:=(qB S).foldl (oS S W) σ
theorem I3 {l:List cz} {i:Int} (aG:0≤i) (ad:i<l.length):l5 (l.drop i.toNat) i=(I l i).parts.map (lq i)++l5 (l.drop (i+1).toNat) (i+1):=by rw [iP aG ad,l5]
theorem yE {l:List (aD×ax)} {j k:Int} (aG:0≤k) (ak:k<l.length) (r:List (Int×ax)):(l.drop k.toNat).map (lq j)++r=(j,(I l k).2)::((l.drop (k+1).toNat).map (lq j)++r):=by rw [iP aG ak];rfl
set_option maxHeartbeats 4000000 in
theorem I4 (S:a6) (W:List a6) (bN cG:List (List Int)) (a8:Int) (bt:Nat) (dv dH c6 fC e6 dI dJ:Nat) (σ:c1) (e:ax) (n:Int) (ad:a8<bt) (cd:fK n bt σ) (aI:n+ec e≤1000000) (gH:W.length≤1000) (m:ae) (gd:eE [dv,c6,dH,e6,fC,dI,dJ] m) (K:U→ae→Prop) (ab:K (.tuple []) (ae.bf m [(dv, .cells [.str S.name, .slice false (S.ins.map bM), .slice false (S.res.map bK), .slice false (S.outs.map bz)]),(c6, .cells (cW aE ((en S W a8 σ e).aW))),(dH, .cells [.ms ⟨c6,0,none⟩ bt bt]),(e6, .cells [.slice true (W.map bB), .slice true (bN.map (bj aE)), .slice true (cG.map (bj aE))]),(fC, .cells [.ptr ⟨e6,0,none⟩]),(dI, .cells [.slice true (((en S W a8 σ e).st).map aE)]),(dJ, .cells [.err 115 ((en S W a8 σ e).cH)])])):bg Tryz.prog 189 [.int .i64 a8,cy e, .ptr ⟨dv,0,none⟩, .ptr ⟨dH,0,none⟩, .ptr ⟨fC,0,none⟩, .ptr ⟨dI,0,none⟩, .ptr ⟨dJ,0,none⟩] (ae.bf m [(dv, .cells [.str S.name, .slice false (S.ins.map bM), .slice false (S.res.map bK), .slice false (S.outs.map bz)]),(c6, .cells (cW aE σ.aW)),(dH, .cells [.ms ⟨c6,0,none⟩ bt bt]),(e6, .cells [.slice true (W.map bB), .slice true (bN.map (bj aE)), .slice true (cG.map (bj aE))]),(fC, .cells [.ptr ⟨e6,0,none⟩]),(dI, .cells [.slice true (σ.st.map aE)]),(dJ, .cells [.err 115 σ.cH])]) K:=by
 refine enter (c:=kt [] [] [] [] [] [dv,c6,dH,e6,fC,dI,dJ]) (vs:=[.aH (.int .i64 a8), .aH (cy e), .loc 0 0, .loc 2 0, .loc 4 0, .loc 5 0, .loc 6 0]) (L:=[.cells [aw S.name,an (S.ins.map bM),an (S.res.map bK),an (S.outs.map bz)], .obj (.cells (cW aE σ.aW)), .cells [.ms 1 bt bt], .cells [.own (W.map bB), .own (bN.map (bj aE)), .own (cG.map (bj aE))], .cells [.loc 3 0], .cells [.own (σ.st.map aE)], .cells [.aH (.err 115 σ.cH)]]) (m:=m) false fS Tryz.mixed Tryz.func189 rfl (k:=7) (by show cu [] _ _ _=true;decide+kernel) rfl (gd.hn rfl) ?_
 refine gn [0,7,1,2,3,4,5,6] [.cells [aw S.name,an (S.ins.map bM),an (S.res.map bK),an (S.outs.map bz)], .cells [aj a8], .obj (.cells (cW aE ((en S W a8 σ e).aW))), .cells [.ms 1 bt bt], .cells [.own (W.map bB), .own (bN.map (bj aE)), .own (cG.map (bj aE))], .cells [.loc 3 0], .cells [.own (((en S W a8 σ e).st).map aE)], .cells [.aH (.err 115 ((en S W a8 σ e).cH))]] (.dw []) rfl (fun bs aF gd=>I2 S W bN cG a8 bt ad gH (eg e+1) e (Nat.lt_succ_self _) (bs.getD 0 0) (bs.getD 7 0) (bs.getD 2 0) (bs.getD 1 0) (bs.getD 4 0) (bs.getD 3 0) (bs.getD 5 0) (bs.getD 6 0) σ n cd aI aF gd) ?_
 exact rt rfl fun _=>ab
set_option maxHeartbeats 4000000 in
theorem SX (S:a6) (W:List a6) (bN cG:List (List Int)) (bt:Nat) (dv dH c6 fC e6 dI dJ:Nat) (σ:c1) (al:pJ S) (cd:fK 0 bt σ) (Vt:bt=S.res.length) (gH:W.length≤1000) (m:ae) (gd:eE [dv,c6,dH,e6,fC,dI,dJ] m) (K:U→ae→Prop) (ab:K (.tuple []) (ae.bf m [(dv, .cells [.str S.name, .slice false (S.ins.map bM), .slice false (S.res.map bK), .slice false (S.outs.map bz)]),(c6, .cells (cW aE ((ev S W σ).aW))),(dH, .cells [.ms ⟨c6,0,none⟩ bt bt]),(e6, .cells [.slice true (W.map bB), .slice true (bN.map (bj aE)), .slice true (cG.map (bj aE))]),(fC, .cells [.ptr ⟨e6,0,none⟩]),(dI, .cells [.slice true (((ev S W σ).st).map aE)]),(dJ, .cells [.err 115 ((ev S W σ).cH)])])):bg Tryz.prog 188 [bB S, .func (.func 189) [] [.ptr ⟨dv,0,none⟩, .ptr ⟨dH,0,none⟩, .ptr ⟨fC,0,none⟩, .ptr ⟨dI,0,none⟩, .ptr ⟨dJ,0,none⟩]] (ae.bf m [(dv, .cells [.str S.name, .slice false (S.ins.map bM), .slice false (S.res.map bK), .slice false (S.outs.map bz)]),(c6, .cells (cW aE σ.aW)),(dH, .cells [.ms ⟨c6,0,none⟩ bt bt]),(e6, .cells [.slice true (W.map bB), .slice true (bN.map (bj aE)), .slice true (cG.map (bj aE))]),(fC, .cells [.ptr ⟨e6,0,none⟩]),(dI, .cells [.slice true (σ.st.map aE)]),(dJ, .cells [.err 115 σ.cH])]) K:=by
 have CF:=al.rX
 have mb:=al.bw
 refine enter (c:=kt [] [0] [] [] [] [dv,c6,dH,e6,fC,dI,dJ]) (vs:=[.aH (bB S), .fn 189 [] [.loc 0 0, .loc 2 0, .loc 4 0, .loc 5 0, .loc 6 0]]) (L:=[.cells [aw S.name,an (S.ins.map bM),an (S.res.map bK),an (S.outs.map bz)], .obj (.cells (cW aE σ.aW)), .cells [.ms 1 bt bt], .cells [.own (W.map bB), .own (bN.map (bj aE)), .own (cG.map (bj aE))], .cells [.loc 3 0], .cells [.own (σ.st.map aE)], .cells [.aH (.err 115 σ.cH)]]) (m:=m) false fS Tryz.mixed Tryz.func188 rfl (k:=2) (by show cu [] _ _ _=true;decide+kernel) rfl (gd.hn rfl) ?_
 refine ⟨fun bq=>?_⟩
 have jy:S.name.length≤140737488355328:=(bq 0 0 (Nat.le_of_ble_eq_true rfl))
 have wj:S.ins.length≤140737488355328:=cN (bq 0 1 (Nat.le_of_ble_eq_true rfl))
 have nq:S.res.length≤140737488355328:=cN (bq 0 2 (Nat.le_of_ble_eq_true rfl))
 have jx:S.outs.length≤140737488355328:=cN (bq 0 3 (Nat.le_of_ble_eq_true rfl))
 refine az ?_
 refine br ?_
 refine b7 (σ:=Int×c1) [] [1,2,11,12,13] 8 (fun ⟨i,eh⟩=>([(1, .fn 189 [] [.loc 0 0, .loc 2 0, .loc 4 0, .loc 5 0, .loc 6 0]),(2, .loc 7 0),(11,an (S.res.map bK)),(12,aj (S.res.length:Int)),(13,aj i)],[.cells [aw S.name,an (S.ins.map bM),an (S.res.map bK),an (S.outs.map bz)], .obj (.cells (cW aE eh.aW)), .cells [.ms 1 bt bt], .cells [.own (W.map bB), .own (bN.map (bj aE)), .own (cG.map (bj aE))], .cells [.loc 3 0], .cells [.own (eh.st.map aE)], .cells [.aH (.err 115 eh.cH)], .cells [aw S.name,an (S.ins.map bM),an (S.res.map bK),an (S.outs.map bz)]],m)) (fun ⟨i,eh⟩=>0≤i∧i≤S.res.length∧(l5 (S.res.drop i.toNat) i++S.outs.map (lq (-1))).foldl (oS S W) eh=ev S W σ∧fK (1000*i) bt eh) (fun ⟨i,eh⟩=>S.res.length- i.toNat) (0,σ) ⟨rfl,rfl⟩ ?_ ?_
 · try dsimp only
   exact ⟨by omega,by omega,rfl,cd.mono (by omega)⟩
 rintro ⟨i,eh⟩ ay
 dsimp only at ay
 refine az ?_
 refine ah (fun J=>?_) (fun J=>?_)
 · have IT:=(al.r _ (cb ay.1 J)).1
   refine az ?_
   refine ck (by omega) ?_
   refine br ?_
   refine b7 (σ:=Int×c1) [] [1,2,4,11,12,13,19,20,21] 9 (fun ⟨k,hv⟩=>([(1, .fn 189 [] [.loc 0 0, .loc 2 0, .loc 4 0, .loc 5 0, .loc 6 0]),(2, .loc 7 0),(4,aj i),(11,an (S.res.map bK)),(12,aj (S.res.length:Int)),(13,aj i),(19,an (((I S.res i).parts).map bz)),(20,aj (((I S.res i).parts).length:Int)),(21,aj k)],[.cells [aw S.name,an (S.ins.map bM),an (S.res.map bK),an (S.outs.map bz)], .obj (.cells (cW aE hv.aW)), .cells [.ms 1 bt bt], .cells [.own (W.map bB), .own (bN.map (bj aE)), .own (cG.map (bj aE))], .cells [.loc 3 0], .cells [.own (hv.st.map aE)], .cells [.aH (.err 115 hv.cH)], .cells [aw S.name,an (S.ins.map bM),an (S.res.map bK),an (S.outs.map bz)], .cells [aw ((I S.res i).kind),aw ((I S.res i).name),an (((I S.res i).parts).map bz)]],m)) (fun ⟨k,hv⟩=>0≤k∧k≤(I S.res i).parts.length∧(((I S.res i).parts.drop k.toNat).map (lq i)++(l5 (S.res.drop (i+1).toNat) (i+1)++S.outs.map (lq (-1)))).foldl (oS S W) hv=ev S W σ∧fK (1000*i+60*k) bt hv) (fun ⟨k,hv⟩=>(I S.res i).parts.length- k.toNat) (0,eh) ⟨rfl,rfl⟩ ?_ ?_
   · try dsimp only
     exact ⟨by omega,by omega,by rw [←ay.2.2.1,I3 ay.1 J,List.append_assoc];rfl,ay.2.2.2.mono (by omega)⟩
   rintro ⟨k,hv⟩ a1
   dsimp only at a1
   refine az ?_
   refine ah (fun aa=>?_) (fun aa=>?_)
   · refine az ?_
     refine ck (by omega) ?_
     refine gn [0,1,2,3,4,5,6] [.cells [aw S.name,an (S.ins.map bM),an (S.res.map bK),an (S.outs.map bz)], .obj (.cells (cW aE ((en S W i hv ((I ((I S.res i).parts) k).2)).aW))), .cells [.ms 1 bt bt], .cells [.own (W.map bB), .own (bN.map (bj aE)), .own (cG.map (bj aE))], .cells [.loc 3 0], .cells [.own (((en S W i hv ((I ((I S.res i).parts) k).2)).st).map aE)], .cells [.aH (.err 115 ((en S W i hv ((I ((I S.res i).parts) k).2)).cH))]] (.dw []) rfl (fun bs aF gd=>I4 S W bN cG i bt (bs.getD 0 0) (bs.getD 2 0) (bs.getD 1 0) (bs.getD 4 0) (bs.getD 3 0) (bs.getD 5 0) (bs.getD 6 0) hv ((I ((I S.res i).parts) k).2) _ (by omega) (by first|exact a1.2.2.2|exact ay.2.2.2) (by first|(have:=(lj ((al.r _ (cb ay.1 (by assumption))).2 _ (cb a1.1 (by assumption)))).2.1;omega)|(have:=(lj (al.o _ (cb a1.1 (by assumption)))).2.1;omega)) gH aF gd) ?_
     refine ah (by omega) ?_
     refine ⟨(k+1,(en S W i hv ((I ((I S.res i).parts) k).2))),⟨rfl,rfl⟩,?_,?_⟩
     · try dsimp only
       have aq:=(lj ((al.r _ (cb ay.1 J)).2 _ (cb a1.1 aa))).2.1
       exact ⟨by omega,by omega,by rw [←a1.2.2.1,yE a1.1 aa];rfl,(a1.2.2.2.walk (by omega) _).mono (by omega)⟩
     try dsimp only
     omega
   refine ah (by omega) ?_
   refine ⟨(i+1,hv),⟨rfl,rfl⟩,?_,?_⟩
   · try dsimp only
     have q:=a1.2.2.1
     rw [List.drop_eq_nil_of_le (by omega)] at q
     exact ⟨by omega,by omega,q,a1.2.2.2.mono (by omega)⟩
   try dsimp only
   omega
 refine br ?_
 refine b7 (σ:=Int×c1) [] [1,33,34,35] 8 (fun ⟨j,fa⟩=>([(1, .fn 189 [] [.loc 0 0, .loc 2 0, .loc 4 0, .loc 5 0, .loc 6 0]),(33,an (S.outs.map bz)),(34,aj (S.outs.length:Int)),(35,aj j)],[.cells [aw S.name,an (S.ins.map bM),an (S.res.map bK),an (S.outs.map bz)], .obj (.cells (cW aE fa.aW)), .cells [.ms 1 bt bt], .cells [.own (W.map bB), .own (bN.map (bj aE)), .own (cG.map (bj aE))], .cells [.loc 3 0], .cells [.own (fa.st.map aE)], .cells [.aH (.err 115 fa.cH)], .cells [aw S.name,an (S.ins.map bM),an (S.res.map bK),an (S.outs.map bz)]],m)) (fun ⟨j,fa⟩=>0≤j∧j≤S.outs.length∧((S.outs.drop j.toNat).map (lq (-1))++[]).foldl (oS S W) fa=ev S W σ∧fK (10000+60*j) bt fa) (fun ⟨j,fa⟩=>S.outs.length- j.toNat) (0,eh) ⟨rfl,rfl⟩ ?_ ?_
 · try dsimp only
   have q:=ay.2.2.1
   rw [List.drop_eq_nil_of_le (by omega)] at q
   exact ⟨by omega,by omega,by rw [List.append_nil];exact q,ay.2.2.2.mono (by omega)⟩
 rintro ⟨j,fa⟩ a1
 dsimp only at a1
 refine az ?_
 refine ah (fun ai=>?_) (fun ai=>?_)
 · refine az ?_
   refine ck (by omega) ?_
   refine gn [0,1,2,3,4,5,6] [.cells [aw S.name,an (S.ins.map bM),an (S.res.map bK),an (S.outs.map bz)], .obj (.cells (cW aE ((en S W (-1) fa ((I S.outs j).2)).aW))), .cells [.ms 1 bt bt], .cells [.own (W.map bB), .own (bN.map (bj aE)), .own (cG.map (bj aE))], .cells [.loc 3 0], .cells [.own (((en S W (-1) fa ((I S.outs j).2)).st).map aE)], .cells [.aH (.err 115 ((en S W (-1) fa ((I S.outs j).2)).cH))]] (.dw []) rfl (fun bs aF gd=>I4 S W bN cG (-1) bt (bs.getD 0 0) (bs.getD 2 0) (bs.getD 1 0) (bs.getD 4 0) (bs.getD 3 0) (bs.getD 5 0) (bs.getD 6 0) fa ((I S.outs j).2) _ (by omega) (by first|exact a1.2.2.2|exact ay.2.2.2) (by first|(have:=(lj ((al.r _ (cb ay.1 (by assumption))).2 _ (cb a1.1 (by assumption)))).2.1;omega)|(have:=(lj (al.o _ (cb a1.1 (by assumption)))).2.1;omega)) gH aF gd) ?_
   refine ah (by omega) ?_
   refine ⟨(j+1,(en S W (-1) fa ((I S.outs j).2))),⟨rfl,rfl⟩,?_,?_⟩
   · try dsimp only
     have aq:=(lj (al.o _ (cb a1.1 ai))).2.1
     exact ⟨by omega,by omega,by rw [←a1.2.2.1,yE a1.1 ai];rfl,(a1.2.2.2.walk (by omega) _).mono (by omega)⟩
   try dsimp only
   omega
 refine rt rfl fun _=>?_
 show K (.tuple []) (ae.bf m [(dv, .cells [.str S.name, .slice false (S.ins.map bM), .slice false (S.res.map bK), .slice false (S.outs.map bz)]),(c6, .cells (cW aE fa.aW)),(dH, .cells [.ms ⟨c6,0,none⟩ bt bt]),(e6, .cells [.slice true (W.map bB), .slice true (bN.map (bj aE)), .slice true (cG.map (bj aE))]),(fC, .cells [.ptr ⟨e6,0,none⟩]),(dI, .cells [.slice true (fa.st.map aE)]),(dJ, .cells [.err 115 fa.cH])])
 have q:=a1.2.2.1
 rw [List.drop_eq_nil_of_le (by omega)] at q
 rw [←q] at ab;exact ab
end Go.Proofs
end
section
namespace Go.Proofs
open Go Go.ba Go.bV
set_option maxRecDepth 100000
def eo (S:a6):c1:=⟨0,[],List.replicate ((S.res.length:Int)).toNat []⟩
def gX (S:a6) (W:List a6):Int:=if (ev S W (eo S)).cH≠0 then (ev S W (eo S)).cH else (iI (ev S W (eo S)).aW).2
def kY (S:a6) (W:List a6) (bN:List (List Int)):List (List Int):=if gX S W=0 then bN++[(ev S W (eo S)).st] else bN
def kZ (S:a6) (W:List a6) (cG:List (List Int)):List (List Int):=if gX S W=0 then cG++[(iI (ev S W (eo S)).aW).1] else cG
theorem CG (S:a6):fK 0 ((S.res.length:Int)).toNat (eo S):=by
 refine ⟨by simp [eo],fun z ao=>?_,by simp [eo]⟩
 rw [eo] at ao
 rw [List.eq_of_mem_replicate ao];simp
theorem fK.I5 {bt:Nat} {S:a6} {W:List a6} (ad:∀q∈qB S,q.1<bt∧ec q.2≤60):∀(l:List (Int×ax)),(∀q∈l,q∈qB S)→∀{n:Int} {σ:c1},fK n bt σ→fK (n+60*l.length) bt (l.foldl (oS S W) σ)
 |[],_,n,σ,h=>by simpa using h
 |q::r,au,n,σ,h=>by
  have aG:=ad q (au q (List.mem_cons_self ..))
  have J:=fK.I5 (S:=S) (W:=W) ad r (fun x aq=>au x (List.mem_cons_of_mem _ aq)) ((h.walk (S:=S) (W:=W) aG.1 q.2).mono (show n+ec q.2≤n+60 by omega))
  rw [List.foldl_cons,List.length_cons]
  exact J.mono (by omega)
theorem I6:∀{l:List cz} {i:Int} {q:Int×ax},q∈l5 l i→i≤q.1∧q.1<i+l.length∧∃x∈l,∃p∈x.parts,p.2=q.2
 |[],_,_,h=>by cases h
 |x::r,i,q,h=>by
  rw [l5] at h
  rcases List.mem_append.1 h with h|h
  · obtain ⟨p,aU,rfl⟩:=List.mem_map.1 h
    exact ⟨Int.le_refl _,by rw [List.length_cons];simp only [lq];omega,x,List.mem_cons_self ..,p,aU,rfl⟩
  · obtain ⟨J,aa,y,aK,ai⟩:=I6 h
    exact ⟨by omega,by rw [List.length_cons];omega,y,List.mem_cons_of_mem _ aK,ai⟩
theorem I7:∀{l:List cz} {i:Int},(∀x∈l,x.parts.length≤6)→(l5 l i).length≤6*l.length
 |[],_,_=>by simp [l5]
 |x::r,i,h=>by
  have J:=h x (List.mem_cons_self ..)
  have aa:=I7 (l:=r) (i:=i+1) fun y aK=>h y (List.mem_cons_of_mem _ aK)
  rw [l5,List.length_append,List.length_map,List.length_cons];omega
theorem tO {S:a6} (al:pJ S) (W:List a6):fK 10000 ((S.res.length:Int)).toNat (ev S W (eo S)):=by
 have av:(qB S).length≤60:=by
  have J:=I7 (l:=S.res) (i:=0) fun x aq=>(al.r x aq).1
  have aa:=al.rX
  have ai:=al.bw
  rw [qB,List.length_append,List.length_map];omega
 refine ((CG S).I5 (S:=S) (W:=W) (fun q aO=>?_) (qB S) fun _ h=>h).mono (by omega)
 rcases List.mem_append.1 aO with h|h
 · obtain ⟨J,aa,x,aq,p,aU,e⟩:=I6 h
   exact ⟨by omega,by rw [←e];exact (lj ((al.r x aq).2 p aU)).2.1⟩
 · obtain ⟨p,aU,rfl⟩:=List.mem_map.1 h
   exact ⟨by simp only [lq];omega,(lj (al.o p aU)).2.1⟩
set_option maxHeartbeats 4000000 in
theorem SY (W:List a6) (bN cG:List (List Int)) (n:Int) (w:Nat) (aG:0≤n) (aI:n<W.length) (al:pJ (I W n)) (gH:W.length≤8) (hi:bN.length≤8) (kj:cG.length≤8) (m:ae) (gd:eE [w] m) (K:U→ae→Prop) (ab:K (.err 115 (gX (I W n) W)) (ae.bf m [(w, .cells [.slice true (W.map bB), .slice true ((kY (I W n) W bN).map (bj aE)), .slice true ((kZ (I W n) W cG).map (bj aE))])])):bg Tryz.prog 139 [.ptr ⟨w,0,none⟩, .int .i64 n] (ae.bf m [(w, .cells [.slice true (W.map bB), .slice true (bN.map (bj aE)), .slice true (cG.map (bj aE))])]) K:=by
 have CF:=al.rX
 have tP:=tO al W
 have tN:=tP.l
 refine enter (c:=kt [] [] [] [11999,12999] [5,8,11,12] [w]) (vs:=[.loc 0 0, .aH (.int .i64 n)]) (L:=[.cells [.own (W.map bB), .own (bN.map (bj aE)), .own (cG.map (bj aE))]]) (m:=m) true fS Tryz.mixed Tryz.func139 rfl (k:=2) (by show cu [11999,12999] _ _ _=true;decide+kernel) rfl (gd.hn rfl) ?_
 refine ck (by omega) ?_
 refine br ?_
 refine By fS (fun l:(List Int)=>U.slice true (l.map aE)) [] (((I W n).res).length:Int) rfl rfl rfl rfl rfl rfl rfl (by omega) (by rw [show Tryz.prog.bytesOf 136=24 from rfl];omega) (by omega) rfl ?_
 refine Gp 115 (a:=3) (j:=0) rfl rfl ?_
 refine F2 ?_
 refine gn [2,5,6,0,1,4,3] [.cells [aw ((I W n).name),an (((I W n).ins).map bM),an (((I W n).res).map bK),an (((I W n).outs).map bz)], .obj (.cells (cW aE ((ev (I W n) W (eo (I W n))).aW))), .cells [.ms 5 ((((I W n).res.length:Int)).toNat) ((((I W n).res.length:Int)).toNat)], .cells [.own (W.map bB), .own (bN.map (bj aE)), .own (cG.map (bj aE))], .cells [.loc 0 0], .cells [.own (((ev (I W n) W (eo (I W n))).st).map aE)], .cells [.aH (.err 115 ((ev (I W n) W (eo (I W n))).cH))]] (.dw []) rfl (fun bs aF gd=>SX (I W n) W bN cG _ (bs.getD 2 0) (bs.getD 6 0) (bs.getD 5 0) (bs.getD 1 0) (bs.getD 0 0) (bs.getD 4 0) (bs.getD 3 0) (eo (I W n)) al (CG _) (Int.toNat_natCast _) (by omega) aF gd) ?_
 refine az ?_
 refine ah (fun J=>?_) (fun J=>?_)
 · refine xZ 5 _ _ rfl rfl rfl ?_
   refine Gg (i:=6) aE ((ev (I W n) W (eo (I W n))).aW) rfl ?_
   refine FZ (i:=6) (a:=5) (j:=0) (w:=1) (f:=(bj aE)) ((ev (I W n) W (eo (I W n))).aW) (((ev (I W n) W (eo (I W n))).aW).map (bj aE)) rfl rfl rfl rfl (fun _=>rfl) (by decide) (fun _=>rfl) (by exact ⟨by omega,by omega⟩) (by rw [List.take_of_length_le (by omega)]) ?_
   refine b2 (fun _=>Ig ((ev (I W n) W (eo (I W n))).aW) (by omega) (fun z ao=>by have:=tP.z z ao;omega)) rfl ?_
   refine az ?_
   refine ah (fun aa=>?_) (fun aa=>?_)
   · refine gp fS Tryz.mixed (σ:=Unit) (.o 0 (.o 1 (.f 2 (.f 3 (.f 4 (.o 5 (.s 6 (.s 7 (.s 8 (.f 9 (.f 10 (.f 11 (.s 12 .d))))))) (.o 6 (.o 5 (.s 7 (.s 8 (.f 9 (.f 10 (.f 11 (.s 12 .d)))))) (.o 7 (.s 5 (.s 8 (.f 9 (.f 10 (.f 11 (.s 12 .d)))))) .z)) .z))))) (.o 6 (.o 1 (.f 2 (.f 3 (.f 4 (.o 5 (.s 7 (.s 8 (.f 9 (.f 10 (.f 11 (.s 12 .d)))))) (.o 7 (.s 5 (.s 8 (.f 9 (.f 10 (.f 11 (.s 12 .d)))))) .z))))) (.o 7 (.s 1 (.f 2 (.f 3 (.f 4 (.s 5 (.s 8 (.f 9 (.f 10 (.f 11 (.s 12 .d)))))))))) .z)) .z)) (.o 1 (.f 2 (.f 3 (.f 4 (.o 0 (.o 5 (.s 6 (.s 7 (.s 8 (.f 9 (.f 10 (.f 11 (.s 12 .d))))))) (.o 6 (.o 5 (.s 7 (.s 8 (.f 9 (.f 10 (.f 11 (.s 12 .d)))))) (.o 7 (.s 5 (.s 8 (.f 9 (.f 10 (.f 11 (.s 12 .d)))))) .z)) .z)) (.o 5 (.o 0 (.s 6 (.s 7 (.s 8 (.f 9 (.f 10 (.f 11 (.s 12 .d))))))) (.o 6 (.o 0 (.s 7 (.s 8 (.f 9 (.f 10 (.f 11 (.s 12 .d)))))) (.o 7 (.o 0 (.s 8 (.f 9 (.f 10 (.f 11 (.s 12 .d))))) (.o 8 (.s 0 (.f 9 (.f 10 (.f 11 (.s 12 .d))))) .z)) .z)) .z)) (.o 6 (.o 0 (.o 5 (.s 7 (.s 8 (.f 9 (.f 10 (.f 11 (.s 12 .d)))))) (.o 7 (.s 5 (.s 8 (.f 9 (.f 10 (.f 11 (.s 12 .d)))))) .z)) (.o 5 (.o 0 (.s 7 (.s 8 (.f 9 (.f 10 (.f 11 (.s 12 .d)))))) (.o 7 (.o 0 (.s 8 (.f 9 (.f 10 (.f 11 (.s 12 .d))))) (.o 8 (.s 0 (.f 9 (.f 10 (.f 11 (.s 12 .d))))) .z)) .z)) (.o 7 (.o 0 (.s 5 (.s 8 (.f 9 (.f 10 (.f 11 (.s 12 .d)))))) (.o 5 (.o 0 (.s 8 (.f 9 (.f 10 (.f 11 (.s 12 .d))))) (.o 8 (.s 0 (.f 9 (.f 10 (.f 11 (.s 12 .d))))) .z)) .z)) .z))) .z)))))) (.o 6 (.o 0 (.o 1 (.f 2 (.f 3 (.f 4 (.o 5 (.s 7 (.s 8 (.f 9 (.f 10 (.f 11 (.s 12 .d)))))) (.o 7 (.s 5 (.s 8 (.f 9 (.f 10 (.f 11 (.s 12 .d)))))) .z))))) (.o 7 (.s 1 (.f 2 (.f 3 (.f 4 (.s 5 (.s 8 (.f 9 (.f 10 (.f 11 (.s 12 .d)))))))))) .z)) (.o 1 (.f 2 (.f 3 (.f 4 (.o 0 (.o 5 (.s 7 (.s 8 (.f 9 (.f 10 (.f 11 (.s 12 .d)))))) (.o 7 (.s 5 (.s 8 (.f 9 (.f 10 (.f 11 (.s 12 .d)))))) .z)) (.o 5 (.o 0 (.s 7 (.s 8 (.f 9 (.f 10 (.f 11 (.s 12 .d)))))) (.o 7 (.o 0 (.s 8 (.f 9 (.f 10 (.f 11 (.s 12 .d))))) (.o 8 (.s 0 (.f 9 (.f 10 (.f 11 (.s 12 .d))))) .z)) .z)) (.o 7 (.o 0 (.s 5 (.s 8 (.f 9 (.f 10 (.f 11 (.s 12 .d)))))) (.o 5 (.o 0 (.s 8 (.f 9 (.f 10 (.f 11 (.s 12 .d))))) (.o 8 (.s 0 (.f 9 (.f 10 (.f 11 (.s 12 .d))))) .z)) .z)) .z)))))) (.o 7 (.o 0 (.s 1 (.f 2 (.f 3 (.f 4 (.s 5 (.s 8 (.f 9 (.f 10 (.f 11 (.s 12 .d)))))))))) (.o 1 (.f 2 (.f 3 (.f 4 (.o 0 (.s 5 (.s 8 (.f 9 (.f 10 (.f 11 (.s 12 .d)))))) (.o 5 (.o 0 (.s 8 (.f 9 (.f 10 (.f 11 (.s 12 .d))))) (.o 8 (.s 0 (.f 9 (.f 10 (.f 11 (.s 12 .d))))) .z)) .z))))) .z)) .z))) .z))) [] [2,9] 6 (fun _=>([(2, .loc 1 0),(9,an (((iI ((ev (I W n) W (eo (I W n))).aW)).1).map aE))],[.cells [.own (W.map bB), .own ((bN++([(ev (I W n) W (eo (I W n))).st]:List (List Int))).map (bj aE)), .own (cG.map (bj aE))], .cells [.loc 0 0], .cells [aw ((I W n).name),an (((I W n).ins).map bM),an (((I W n).res).map bK),an (((I W n).outs).map bz)], .cells [.aH (.err 115 ((iI ((ev (I W n) W (eo (I W n))).aW)).2))], .cells [.own (((ev (I W n) W (eo (I W n))).st).map aE)], .cells [an (((ev (I W n) W (eo (I W n))).aW).map (bj aE))]],m)) (fun _=>True) (by decide+kernel) ?_ ?_
     · rintro _ ef
       try dsimp only at ef
       refine gp fS Tryz.mixed (σ:=Unit) (.f 6 (.o 0 (.o 1 (.f 2 (.f 3 (.f 4 (.o 5 (.s 7 (.s 8 (.f 9 (.f 10 (.f 11 (.s 12 .d)))))) (.o 7 (.s 5 (.s 8 (.f 9 (.f 10 (.f 11 (.s 12 .d)))))) .z))))) (.o 7 (.s 1 (.f 2 (.f 3 (.f 4 (.s 5 (.s 8 (.f 9 (.f 10 (.f 11 (.s 12 .d)))))))))) .z)) (.o 1 (.f 2 (.f 3 (.f 4 (.o 0 (.o 5 (.s 7 (.s 8 (.f 9 (.f 10 (.f 11 (.s 12 .d)))))) (.o 7 (.s 5 (.s 8 (.f 9 (.f 10 (.f 11 (.s 12 .d)))))) .z)) (.o 5 (.o 0 (.s 7 (.s 8 (.f 9 (.f 10 (.f 11 (.s 12 .d)))))) (.o 7 (.o 0 (.s 8 (.f 9 (.f 10 (.f 11 (.s 12 .d))))) (.o 8 (.s 0 (.f 9 (.f 10 (.f 11 (.s 12 .d))))) .z)) .z)) (.o 7 (.o 0 (.s 5 (.s 8 (.f 9 (.f 10 (.f 11 (.s 12 .d)))))) (.o 5 (.o 0 (.s 8 (.f 9 (.f 10 (.f 11 (.s 12 .d))))) (.o 8 (.s 0 (.f 9 (.f 10 (.f 11 (.s 12 .d))))) .z)) .z)) .z)))))) (.o 7 (.o 0 (.s 1 (.f 2 (.f 3 (.f 4 (.s 5 (.s 8 (.f 9 (.f 10 (.f 11 (.s 12 .d)))))))))) (.o 1 (.f 2 (.f 3 (.f 4 (.o 0 (.s 5 (.s 8 (.f 9 (.f 10 (.f 11 (.s 12 .d)))))) (.o 5 (.o 0 (.s 8 (.f 9 (.f 10 (.f 11 (.s 12 .d))))) (.o 8 (.s 0 (.f 9 (.f 10 (.f 11 (.s 12 .d))))) .z)) .z))))) .z)) .z)))) [] [] 6 (fun _=>([],[.cells [.own (W.map bB), .own ((bN++([(ev (I W n) W (eo (I W n))).st]:List (List Int))).map (bj aE)), .own ((cG++([(iI ((ev (I W n) W (eo (I W n))).aW)).1]:List (List Int))).map (bj aE))], .cells [.loc 0 0], .cells [aw ((I W n).name),an (((I W n).ins).map bM),an (((I W n).res).map bK),an (((I W n).outs).map bz)], .cells [.aH (.err 115 ((iI ((ev (I W n) W (eo (I W n))).aW)).2))], .cells [.own (((ev (I W n) W (eo (I W n))).st).map aE)], .cells [an (((ev (I W n) W (eo (I W n))).aW).map (bj aE))]],m)) (fun _=>True) (by decide+kernel) ?_ ?_
       · rintro _ SZ
         try dsimp only at SZ
         have bA:gX (I W n) W=(0:Int):=by
          simp [gX,kY,kZ,J,aa]
         have aM:kY (I W n) W bN=(bN++([(ev (I W n) W (eo (I W n))).st]:List (List Int)):List (List Int)):=by
          simp [gX,kY,kZ,J,aa]
         have aC:kZ (I W n) W cG=(cG++([(iI ((ev (I W n) W (eo (I W n))).aW)).1]:List (List Int)):List (List Int)):=by
          simp [gX,kY,kZ,J,aa]
         rw [bA,aM,aC] at ab
         exact rt rfl fun _=>ab
       repeat' first
        |refine ⟨(),⟨rfl,rfl⟩,trivial⟩
        |refine ap (bj aE) cG ([(iI ((ev (I W n) W (eo (I W n))).aW)).1]:List (List Int)) rfl rfl (fun _=>⟨rfl,rfl⟩) (by (simp only [List.length_append,List.length_cons,List.length_nil];omega)) ?_
        |refine ⟨?_,?_,?_,trivial⟩
        |refine ⟨?_,?_,trivial⟩
     repeat' first
      |refine ⟨(),⟨rfl,rfl⟩,trivial⟩
      |refine ap (bj aE) bN ([(ev (I W n) W (eo (I W n))).st]:List (List Int)) rfl rfl (fun _=>⟨rfl,rfl⟩) (by (simp only [List.length_append,List.length_cons,List.length_nil];omega)) ?_
      |refine ⟨?_,?_,?_,trivial⟩
      |refine ⟨?_,?_,trivial⟩
   have bA:gX (I W n) W=((iI ((ev (I W n) W (eo (I W n))).aW)).2:Int):=by
    simp [gX,kY,kZ,J,aa]
   have aM:kY (I W n) W bN=(bN:List (List Int)):=by
    simp [gX,kY,kZ,J,aa]
   have aC:kZ (I W n) W cG=(cG:List (List Int)):=by
    simp [gX,kY,kZ,J,aa]
   rw [bA,aM,aC] at ab
   exact rt rfl fun _=>ab
 have bA:gX (I W n) W=((ev (I W n) W (eo (I W n))).cH:Int):=by
  simp [gX,kY,kZ,J]
 have aM:kY (I W n) W bN=(bN:List (List Int)):=by
  simp [gX,kY,kZ,J]
 have aC:kZ (I W n) W cG=(cG:List (List Int)):=by
  simp [gX,kY,kZ,J]
 rw [bA,aM,aC] at ab
 exact rt rfl fun _=>ab
end Go.Proofs
end
section
namespace Go.Proofs
open Go Go.ba Go.bV
set_option maxRecDepth 100000
def hf {α:Type} (f:α→Int):List α→Int
 |[]=>0
 |x::r=>if f x=0 then hf f r else f x
theorem qC {α:Type} [Inhabited α] {f:α→Int} {l:List α} {i:Int} (aG:0≤i) (ad:i<l.length):hf f (l.drop i.toNat)=if f (I l i)=0 then hf f (l.drop (i+1).toNat) else f (I l i):=by rw [iP aG ad,hf]
theorem qD {α:Type} {f:α→Int}:∀{l:List α},hf f l=0↔∀x∈l,f x=0
 |[]=>by simp [hf]
 |x::r=>by
  rw [hf]
  split
  · rename_i h;rw [qD];simp [h]
  · rename_i h;simp [h]
def iJ (s:a6):Bool:=(decide (¬(s.ins.map Prod.fst).Nodup)||decide (¬(s.res.map cz.name).Nodup))||decide (¬(s.outs.map Prod.fst).Nodup)
def tQ (l:List a6) (s:a6):List Int:=(ev s l (eo s)).st
def tR (l:List a6) (s:a6):List Int:=(iI (ev s l (eo s)).aW).1
def jE (l:List a6):List (List Int):=l.map (tQ l)
def oc (l:List a6):List (List Int):=l.map (tR l)
def pK (l:List a6) (a:Int):Int:=if a≠0 then a else (iI (jE l)).2
def rY (l:List a6) (b:Bool):Int:=if b=true then 6 else pK l (hf (fun s=>gX s l) l)
def od (l:List a6) (a:Int):Int:=if a≠0 then a else if ¬(l.map a6.name).Nodup then 6 else rY l (l.any iJ)
noncomputable def dW (l:List a6):Int:=if 8<(l.length:Int) then 2 else od l (hf dx l)
theorem yF {α:Type} [Inhabited α] {f:α→Bool} {l:List α} {i:Int} (aG:0≤i) (ad:i<l.length):(l.drop i.toNat).any f=(f (I l i)||(l.drop (i+1).toNat).any f):=by rw [iP aG ad];rfl
theorem CH {l:List a6} {s:a6} (al:pJ s):((tQ l s).length:Int)≤10000:=(tO al l).s
theorem yG {α β:Type} [Inhabited α] (f:α→β) {l:List α} {i:Int} (aG:0≤i) (ad:i<l.length):(l.take (i+1).toNat).map f=(l.take i.toNat).map f++[f (I l i)]:=by
 rw [gz aG ad,List.map_append];rfl
set_option maxHeartbeats 8000000 in
theorem I8 (l:List a6) (m:ae) (K:U→ae→Prop) (fp:dW l≠0→K (.tuple [.eM, .err 115 (dW l)]) m) (ab:dW l=0→∀b,m b=none→K (.tuple [.ptr ⟨b,0,none⟩, .err 115 0]) (m.cQ b (some (.cells [.slice true (l.map bB), .slice true ((jE l).map (bj aE)), .slice true ((oc l).map (bj aE))])))):bg Tryz.prog 72 [.slice false (l.map bB)] m K:=by
 refine enter (c:=kt [] [0] [15] [22999] [22] []) (vs:=[.aH (.slice false (l.map bB))]) (L:=[]) (m:=m) true fS Tryz.mixed Tryz.func72 rfl (k:=1) (by show cu [22999] _ _ _=true;decide+kernel) rfl (Good.nil m) ?_
 refine ⟨fun bq=>?_⟩
 have jy:l.length≤140737488355328:=cN (o:=false) (bq 0).1
 refine az ?_
 refine br ?_
 refine ah (fun J=>?_) (fun J=>?_)
 · refine bh rfl fun _=>?_
   show K (.tuple [.eM, .err 115 2]) m
   have e:dW l=2:=by
    rw [dW,if_pos J]
   rw [e] at fp;exact fp (by first|decide|assumption)
 have pr:dW l=od l (hf dx l):=by rw [dW,if_neg (by omega)]
 refine az ?_
 refine br ?_
 refine b7 (σ:=Int) [] [0,20,21,22] 0 (fun i=>([(0,an (l.map bB)),(20,an (l.map bB)),(21,aj (l.length:Int)),(22,aj i)],[],m)) (fun i=>0≤i∧i≤l.length∧hf dx l=hf dx (l.drop i.toNat)) (fun i=>l.length- i.toNat) (0) ⟨rfl,rfl⟩ ?_ ?_
 · try dsimp only
   exact ⟨by omega,by omega,rfl⟩
 rintro i ay
 refine az ?_
 refine ah (fun aa=>?_) (fun aa=>?_)
 · refine az ?_
   refine ck (by omega) ?_
   refine b2 (fun _=>Sd (I l i)) rfl ?_
   refine ah (fun ai=>?_) (fun ai=>?_)
   · refine ah (by omega) ?_
     refine ⟨(i+1),⟨rfl,rfl⟩,?_,?_⟩
     · try dsimp only
       exact ⟨by omega,by omega,by rw [ay.2.2,qC ay.1 aa,if_pos ai]⟩
     try dsimp only
     omega
   refine bh rfl fun _=>?_
   show K (.tuple [.eM, .err 115 (dx (I l i))]) m
   have e:dW l=(dx (I l i)):=by
    have q:hf dx l=dx (I l i):=by rw [ay.2.2,qC ay.1 aa,if_neg ai]
    rw [pr,q,od,if_pos ai]
   rw [e] at fp;exact fp (by first|decide|assumption)
 have rZ:hf dx l=0:=by rw [ay.2.2,List.drop_eq_nil_of_le (by omega)];rfl
 have hx:=qD.1 rZ
 refine az ?_
 refine b2 (fun _=>R9 l) rfl ?_
 refine ah (fun aJ=>?_) (fun aJ=>?_)
 · refine bh rfl fun _=>?_
   show K (.tuple [.eM, .err 115 6]) m
   have e:dW l=6:=by
    rw [pr,od,if_neg (not_not_intro rZ),if_pos (of_decide_eq_true aJ)]
   rw [e] at fp;exact fp (by first|decide|assumption)
 have tz:(l.map a6.name).Nodup:=Classical.not_not.1 (of_decide_eq_false aJ)
 have CI:dW l=rY l (l.any iJ):=by rw [pr,od,if_neg (not_not_intro rZ),if_neg (not_not_intro tz)]
 refine az ?_
 refine br ?_
 refine b7 (σ:=Int) [] [0,35,36,37] 0 (fun i2=>([(0,an (l.map bB)),(35,an (l.map bB)),(36,aj (l.length:Int)),(37,aj i2)],[],m)) (fun i2=>0≤i2∧i2≤l.length∧dW l=rY l ((l.drop i2.toNat).any iJ)) (fun i2=>l.length- i2.toNat) (0) ⟨rfl,rfl⟩ ?_ ?_
 · try dsimp only
   exact ⟨by omega,by omega,CI⟩
 rintro i2 a1
 refine az ?_
 refine ah (fun aY=>?_) (fun aY=>?_)
 · refine az ?_
   refine ck (by omega) ?_
   refine cq [0,35,36,37] 53 (((decide (¬(((I l i2).ins).map Prod.fst).Nodup))||(decide (¬(((I l i2).res).map cz.name).Nodup)))||(decide (¬(((I l i2).outs).map Prod.fst).Nodup))) ?_ ?_
   · repeat' first
      |exact ⟨⟨_,rfl,by grind [bD.val]⟩,rfl⟩
      |refine ah (fun _=>?_) (fun _=>?_)
      |refine b2 (fun _=>Sa ((I l i2).ins)) rfl ?_
      |refine b2 (fun _=>Sb ((I l i2).res)) rfl ?_
      |refine b2 (fun _=>Sc ((I l i2).outs)) rfl ?_
   refine ah (fun bG=>?_) (fun bG=>?_)
   · replace bG:((decide (¬(((I l i2).ins).map Prod.fst).Nodup)=true)∨(decide (¬(((I l i2).res).map cz.name).Nodup)=true))∨(decide (¬(((I l i2).outs).map Prod.fst).Nodup)=true):=((dj bG).imp (fun q=>((dj q).imp (fun q=>q) (fun q=>q))) (fun q=>q))
     refine bh rfl fun _=>?_
     show K (.tuple [.eM, .err 115 6]) m
     have e:dW l=6:=by
      have q:iJ (I l i2)=true:=by rcases bG with (h|h)|h<;>simp [iJ,h]
      rw [a1.2.2,yF a1.1 aY,q];rfl
     rw [e] at fp;exact fp (by first|decide|assumption)
   replace bG:((decide (¬(((I l i2).ins).map Prod.fst).Nodup)=false)∧(decide (¬(((I l i2).res).map cz.name).Nodup)=false))∧(decide (¬(((I l i2).outs).map Prod.fst).Nodup)=false):=⟨⟨(b8 (b8 bG)),(di (b8 bG))⟩,(di bG)⟩
   refine ah (by omega) ?_
   refine ⟨(i2+1),⟨rfl,rfl⟩,?_,?_⟩
   · try dsimp only
     exact ⟨by omega,by omega,by rw [a1.2.2,yF a1.1 aY,iJ,bG.1.1,bG.1.2,bG.2];rfl⟩
   try dsimp only
   omega
 have CJ:dW l=pK l (hf (fun s=>gX s l) l):=by rw [a1.2.2,List.drop_eq_nil_of_le (by omega)];rfl
 refine az ?_
 refine br ?_
 refine b7 (σ:=Int×List a6) [] [0,9,58,59,60] 1 (fun ⟨i3,xs⟩=>([(0,an (l.map bB)),(9, .loc 0 0),(58,an (l.map bB)),(59,aj (l.length:Int)),(60,aj i3)],[.cells [.own (xs.map bB), .own [], .own []]],m)) (fun ⟨i3,xs⟩=>0≤i3∧i3≤l.length∧xs=l.take i3.toNat) (fun ⟨i3,xs⟩=>l.length- i3.toNat) (0,[]) ⟨rfl,rfl⟩ ?_ ?_
 · try dsimp only
   exact ⟨by omega,by omega,rfl⟩
 rintro ⟨i3,xs⟩ cg
 dsimp only at cg
 have sx:(xs.length:Int)=i3:=by rw [cg.2.2,List.length_take];omega
 refine az ?_
 refine ah (fun c7=>?_) (fun c7=>?_)
 · refine az ?_
   refine ck (by omega) ?_
   refine gp fS Tryz.mixed (σ:=Unit) (.f 0 (.f 1 (.f 2 (.f 3 (.f 4 (.o 5 (.s 6 (.s 7 (.s 8 (.s 9 (.f 10 (.f 11 (.f 12 (.s 13 .d)))))))) (.o 6 (.o 5 (.s 7 (.s 8 (.s 9 (.f 10 (.f 11 (.f 12 (.s 13 .d))))))) (.o 7 (.o 5 (.s 8 (.s 9 (.f 10 (.f 11 (.f 12 (.s 13 .d)))))) (.o 8 (.s 5 (.s 9 (.f 10 (.f 11 (.f 12 (.s 13 .d)))))) .z)) .z)) .z))))))) [] [0,9,58,59,60] 2 (fun _=>([(0,an (l.map bB)),(9, .loc 0 0),(58,an (l.map bB)),(59,aj (l.length:Int)),(60,aj i3)],[.cells [.own ((xs++([(I l i3)]:List a6)).map bB), .own [], .own []], .cells [aw ((I l i3).name),an (((I l i3).ins).map bM),an (((I l i3).res).map bK),an (((I l i3).outs).map bz)]],m)) (fun _=>True) (by decide+kernel) ?_ ?_
   · rintro _ S0
     try dsimp only at S0
     refine ah (by omega) ?_
     refine ⟨(i3+1,xs++([(I l i3)]:List a6)),⟨rfl,rfl⟩,?_,?_⟩
     · try dsimp only
       exact ⟨by omega,by omega,by rw [gz cg.1 (by assumption),←cg.2.2]⟩
     try dsimp only
     omega
   repeat' first
    |refine ⟨(),⟨rfl,rfl⟩,trivial⟩
    |refine b2 (fun _=>SO (I l i3) (hx _ (cb cg.1 (by assumption)))) rfl ?_
    |refine ap bB xs ([(I l i3)]:List a6) rfl rfl (fun _=>⟨rfl,rfl⟩) (by (simp only [List.length_append,List.length_cons,List.length_nil];omega)) ?_
    |refine ⟨?_,?_,trivial⟩
 obtain rfl:l=xs:=by have:=cg.2.2;rw [fm (by omega)] at this;exact this.symm
 refine az ?_
 refine br ?_
 refine b7 (σ:=Int×List (List Int)×List (List Int)) [] [9,79,80] 1 (fun ⟨i4,bN,cG⟩=>([(9, .loc 0 0),(79,aj (l.length:Int)),(80,aj i4)],[.cells [.own (l.map bB), .own (bN.map (bj aE)), .own (cG.map (bj aE))]],m)) (fun ⟨i4,bN,cG⟩=>0≤i4∧i4≤l.length∧dW l=pK l (hf (fun s=>gX s l) (l.drop i4.toNat))∧bN=(l.take i4.toNat).map (tQ l)∧cG=(l.take i4.toNat).map (tR l)) (fun ⟨i4,bN,cG⟩=>l.length- i4.toNat) (0,[],[]) ⟨rfl,rfl⟩ ?_ ?_
 · try dsimp only
   exact ⟨by omega,by omega,CJ,rfl,rfl⟩
 rintro ⟨i4,bN,cG⟩ fh
 dsimp only at fh
 have S1:(bN.length:Int)=i4:=by rw [fh.2.2.2.1,List.length_map,List.length_take];omega
 have S2:(cG.length:Int)=i4:=by rw [fh.2.2.2.2,List.length_map,List.length_take];omega
 refine az ?_
 refine ah (fun cV=>?_) (fun cV=>?_)
 · refine az ?_
   refine gn [0] [.cells [.own (l.map bB), .own ((kY (I l i4) l bN).map (bj aE)), .own ((kZ (I l i4) l cG).map (bj aE))]] (.aH (.err 115 (gX (I l i4) l))) rfl (fun bs aF gd=>SY l bN cG i4 (bs.getD 0 0) fh.1 (by assumption) (oa (hx _ (cb fh.1 (by assumption)))) (by omega) (by omega) (by omega) aF gd) ?_
   refine ah (fun cU=>?_) (fun cU=>?_)
   · refine ah (by omega) ?_
     refine ⟨(i4+1,(kY (I l i4) l bN),(kZ (I l i4) l cG)),⟨rfl,rfl⟩,?_,?_⟩
     · try dsimp only
       exact ⟨by omega,by omega,by rw [fh.2.2.1,qC fh.1 cV,if_pos cU],by rw [kY,if_pos cU,yG _ fh.1 cV,←fh.2.2.2.1];rfl,by rw [kZ,if_pos cU,yG _ fh.1 cV,←fh.2.2.2.2];rfl⟩
     try dsimp only
     omega
   refine bh rfl fun _=>?_
   show K (.tuple [.eM, .err 115 (gX (I l i4) l)]) m
   have e:dW l=(gX (I l i4) l):=by
    rw [fh.2.2.1,qC fh.1 cV,if_neg cU,pK,if_pos cU]
   rw [e] at fp;exact fp (by first|decide|assumption)
 have tr:dW l=(iI (jE l)).2:=by rw [fh.2.2.1,List.drop_eq_nil_of_le (by omega)];rfl
 have hi:bN=jE l:=by rw [fh.2.2.2.1,fm (by omega)];rfl
 have kj:cG=oc l:=by rw [fh.2.2.2.2,fm (by omega)];rfl
 have CK:∀z∈bN,z.length≤1048576:=fun z ao=>by
  rw [hi] at ao
  obtain ⟨s,al,rfl⟩:=List.mem_map.1 ao
  have:=CH (l:=l) (oa (hx s al));omega
 refine b2 (fun _=>Ig bN (by omega) (fun z ao=>CK z ao)) rfl ?_
 refine az ?_
 refine ah (fun eH=>?_) (fun eH=>?_)
 · subst hi
   subst kj
   exact FL fun new g=>by
    obtain ⟨b,rfl,ag⟩:=Gn g
    have ao:dW l=0:=tr.trans eH
    exact ab ao b ag
 refine bh rfl fun _=>?_
 show K (.tuple [.eM, .err 115 ((iI bN).2)]) m
 have e:dW l=(iI bN).2:=by
  rw [hi];exact tr
 rw [e] at fp;exact fp (by first|decide|assumption)
end Go.Proofs
end
section
namespace Go.Proofs
open Go Go.ba Go.bV
set_option maxRecDepth 100000
set_option maxHeartbeats 8000000 in
theorem CL (l:List a6) (m:ae) (K:U→ae→Prop) (fp:dW l≠0→K (.tuple [.agg [.slice false [], .slice false [], .slice false []], .err 115 (dW l)]) m) (ab:dW l=0→K (.tuple [.agg [.slice false (l.map bB), .slice false ((jE l).map (bj aE)), .slice false ((oc l).map (bj aE))], .err 115 0]) m):bg Tryz.prog 22 [.slice false (l.map bB)] m K:=by
 refine enter (c:=kt [] [1] [] [] [] []) (vs:=[.aH (.slice false (l.map bB))]) (L:=[]) (m:=m) true fS Tryz.mixed Tryz.func22 rfl (k:=1) (by show cu [] _ _ _=true;decide+kernel) rfl (Good.nil m) ?_
 refine ⟨fun _=>?_⟩
 rcases Classical.em (dW l=0) with ar|ar
 · refine Gq 115 (.cells [.own (l.map bB), .own ((jE l).map (bj aE)), .own ((oc l).map (bj aE))]) (.cells [.slice true (l.map bB), .slice true ((jE l).map (bj aE)), .slice true ((oc l).map (bj aE))]) (fun _=>rfl) rfl (fun bs aF av aB K ab=>I8 l aF K (fun h=>absurd ar h) (fun _=>ab)) ?_
   refine az ?_
   refine ah (fun J=>?_) (fun J=>?_)
   · refine bh rfl fun _=>?_
     show K (.tuple [.agg [.slice false (l.map bB), .slice false ((jE l).map (bj aE)), .slice false ((oc l).map (bj aE))], .err 115 0]) m
     exact ab ar
   refine bh rfl fun _=>?_
   show K (.tuple [.agg [.slice false [], .slice false [], .slice false []], .err 115 0]) m
   exact absurd rfl J
 · refine b2 (fun _=>fun m K ab=>I8 l m K (fun _=>ab) (fun h=>absurd h ar)) rfl ?_
   refine az ?_
   refine ah (fun aa=>?_) (fun aa=>?_)
   · exact absurd aa ar
   refine bh rfl fun _=>?_
   show K (.tuple [.agg [.slice false [], .slice false [], .slice false []], .err 115 (dW l)]) m
   exact fp ar
end Go.Proofs
end
section
namespace Go.Proofs
open Go Go.ba Go.bV
set_option maxRecDepth 100000
set_option maxHeartbeats 4000000 in
theorem I9 (l:List a6) (m:ae) (K:U→ae→Prop) (ab:∀b:Bool,(b=true→(l.length:Int)≤12)→K (.bool b) m):bg Tryz.prog 21 [.slice false (l.map bB)] m K:=by
 refine enter (c:=kt [28,64,72,93,97,121,129,149,157] [0] [9,16,23,27] [] [] []) (vs:=[.aH (.slice false (l.map bB))]) (L:=[]) (m:=m) false fS Tryz.mixed Tryz.func21 rfl (k:=1) (by show cu [] _ _ _=true;decide+kernel) rfl (Good.nil m) ?_
 refine ⟨fun bq=>?_⟩
 have jy:l.length≤140737488355328:=cN (o:=false) (bq 0).1
 refine az ?_
 refine br ?_
 refine ah (fun J=>?_) (fun J=>?_)
 · refine bh rfl fun _=>?_
   show K (.bool false) m
   exact ab _ (fun ag=>by first|omega|cases ag)
 refine az ?_
 refine b7 (σ:=Int×Int) [] [0,3,4] 0 (fun ⟨h2,i⟩=>([(0,an (l.map bB)),(3,aj h2),(4,aj i)],[],m)) (fun ⟨h2,i⟩=>0≤i∧i≤l.length) (fun ⟨h2,i⟩=>l.length- i.toNat) (0,0) ⟨rfl,rfl⟩ ?_ ?_
 · try dsimp only
   first|omega|(refine ⟨?_,?_⟩<;>first|omega|simp)|simp
 rintro ⟨h2,i⟩ ay
 dsimp only at ay
 refine az ?_
 refine br ?_
 refine ah (fun aa=>?_) (fun aa=>?_)
 · refine az ?_
   refine ck (by omega) ?_
   refine az ?_
   refine cq [0,3,4,5] 48 ((((decide (9000<IntKind.i64.wrap (h2+(((I l i).name).length:Int))))||(decide (12<(((I l i).ins).length:Int))))||(decide (12<(((I l i).res).length:Int))))||(decide (12<(((I l i).outs).length:Int)))) ?_ ?_
   · repeat' first
      |exact ⟨⟨_,rfl,by grind [bD.val]⟩,rfl⟩
      |refine ah (fun _=>?_) (fun _=>?_)
      |refine br ?_
   refine ah (fun ai=>?_) (fun ai=>?_)
   · replace ai:(((9000<IntKind.i64.wrap (h2+(((I l i).name).length:Int)))∨(12<(((I l i).ins).length:Int)))∨(12<(((I l i).res).length:Int)))∨(12<(((I l i).outs).length:Int)):=((dj ai).imp (fun q=>((dj q).imp (fun q=>((dj q).imp (fun q=>(of_decide_eq_true q)) (fun q=>(of_decide_eq_true q)))) (fun q=>(of_decide_eq_true q)))) (fun q=>(of_decide_eq_true q)))
     refine bh rfl fun _=>?_
     show K (.bool false) m
     exact ab _ (fun ag=>by first|omega|cases ag)
   replace ai:(((IntKind.i64.wrap (h2+(((I l i).name).length:Int))≤9000)∧((((I l i).ins).length:Int)≤12))∧((((I l i).res).length:Int)≤12))∧((((I l i).outs).length:Int)≤12):=⟨⟨⟨(Int.not_lt.1 (of_decide_eq_false (b8 (b8 (b8 ai))))),(Int.not_lt.1 (of_decide_eq_false (di (b8 (b8 ai)))))⟩,(Int.not_lt.1 (of_decide_eq_false (di (b8 ai))))⟩,(Int.not_lt.1 (of_decide_eq_false (di ai)))⟩
   refine az ?_
   refine b7 (σ:=Int×Int) [] [0,3,4,5,6] 1 (fun ⟨e3,fj⟩=>([(0,an (l.map bB)),(3,aj e3),(4,aj i),(5, .loc 0 0),(6,aj fj)],[.cells [aw ((I l i).name),an (((I l i).ins).map bM),an (((I l i).res).map bK),an (((I l i).outs).map bz)]],m)) (fun ⟨e3,fj⟩=>0≤fj∧fj≤(I l i).ins.length) (fun ⟨e3,fj⟩=>(I l i).ins.length- fj.toNat) (IntKind.i64.wrap (h2+(((I l i).name).length:Int)),0) ⟨rfl,rfl⟩ ?_ ?_
   · try dsimp only
     first|omega|(refine ⟨?_,?_⟩<;>first|omega|simp)|simp
   rintro ⟨e3,fj⟩ a1
   dsimp only at a1
   refine az ?_
   refine br ?_
   refine ah (fun aJ=>?_) (fun aJ=>?_)
   · refine az ?_
     refine ck (by omega) ?_
     refine ck (by omega) ?_
     refine ih (fun _=>BD 9000 (bP ((I ((I l i).ins) fj).2)+1) ((I ((I l i).ins) fj).2) (Nat.lt_succ_self _)) ?_
     refine ah (by omega) ?_
     refine ⟨(IntKind.i64.wrap ((IntKind.i64.wrap (e3+(((I ((I l i).ins) fj).1).length:Int)))+(kT 9000 ((I ((I l i).ins) fj).2))),fj+1),⟨rfl,rfl⟩,?_,?_⟩
     · try dsimp only
       (first|omega|(simp_all;done)|(simp_all;omega))
     try dsimp only
     omega
   refine az ?_
   refine b7 (σ:=Int×Int) [] [0,3,4,5,7] 1 (fun ⟨nW,ej⟩=>([(0,an (l.map bB)),(3,aj nW),(4,aj i),(5, .loc 0 0),(7,aj ej)],[.cells [aw ((I l i).name),an (((I l i).ins).map bM),an (((I l i).res).map bK),an (((I l i).outs).map bz)]],m)) (fun ⟨nW,ej⟩=>0≤ej∧ej≤(I l i).res.length) (fun ⟨nW,ej⟩=>(I l i).res.length- ej.toNat) (e3,0) ⟨rfl,rfl⟩ ?_ ?_
   · try dsimp only
     first|omega|(refine ⟨?_,?_⟩<;>first|omega|simp)|simp
   rintro ⟨nW,ej⟩ cg
   dsimp only at cg
   refine az ?_
   refine cq [0,3,4,5,7] 81 ((decide (ej<(((I l i).res).length:Int)))&&(decide (nW<9000))) ?_ ?_
   · repeat' first
      |exact ⟨⟨_,rfl,by grind [bD.val]⟩,rfl⟩
      |refine ah (fun _=>?_) (fun _=>?_)
      |refine br ?_
   refine ah (fun aY=>?_) (fun aY=>?_)
   · replace aY:(ej<(((I l i).res).length:Int))∧(nW<9000):=⟨(of_decide_eq_true (eO aY)),(of_decide_eq_true (fk aY))⟩
     refine az ?_
     refine ck (by omega) ?_
     refine az ?_
     refine br ?_
     refine ah (fun bG=>?_) (fun bG=>?_)
     · refine bh rfl fun _=>?_
       show K (.bool false) m
       exact ab _ (fun ag=>by first|omega|cases ag)
     refine b7 (σ:=Int×Int) [] [0,3,4,5,7,8,9] 2 (fun ⟨nX,ic⟩=>([(0,an (l.map bB)),(3,aj nX),(4,aj i),(5, .loc 0 0),(7,aj ej),(8, .loc 1 0),(9,aj ic)],[.cells [aw ((I l i).name),an (((I l i).ins).map bM),an (((I l i).res).map bK),an (((I l i).outs).map bz)], .cells [aw ((I ((I l i).res) ej).kind),aw ((I ((I l i).res) ej).name),an (((I ((I l i).res) ej).parts).map bz)]],m)) (fun ⟨nX,ic⟩=>0≤ic∧ic≤(I (I l i).res ej).parts.length) (fun ⟨nX,ic⟩=>(I (I l i).res ej).parts.length- ic.toNat) (IntKind.i64.wrap ((IntKind.i64.wrap (nW+(((I ((I l i).res) ej).kind).length:Int)))+(((I ((I l i).res) ej).name).length:Int)),0) ⟨rfl,rfl⟩ ?_ ?_
     · try dsimp only
       first|omega|(refine ⟨?_,?_⟩<;>first|omega|simp)|simp
     rintro ⟨nX,ic⟩ fh
     dsimp only at fh
     refine az ?_
     refine cq [0,3,4,5,7,8,9] 110 ((decide (ic<(((I ((I l i).res) ej).parts).length:Int)))&&(decide (nX<9000))) ?_ ?_
     · repeat' first
        |exact ⟨⟨_,rfl,by grind [bD.val]⟩,rfl⟩
        |refine ah (fun _=>?_) (fun _=>?_)
        |refine br ?_
     refine ah (fun c7=>?_) (fun c7=>?_)
     · replace c7:(ic<(((I ((I l i).res) ej).parts).length:Int))∧(nX<9000):=⟨(of_decide_eq_true (eO c7)),(of_decide_eq_true (fk c7))⟩
       refine az ?_
       refine ck (by omega) ?_
       refine ck (by omega) ?_
       refine ih (fun _=>Cl 9000 (eg ((I ((I ((I l i).res) ej).parts) ic).2)+1) ((I ((I ((I l i).res) ej).parts) ic).2) (Nat.lt_succ_self _)) ?_
       refine ah (by omega) ?_
       refine ⟨(IntKind.i64.wrap ((IntKind.i64.wrap (nX+(((I ((I ((I l i).res) ej).parts) ic).1).length:Int)))+(nt 9000 ((I ((I ((I l i).res) ej).parts) ic).2))),ic+1),⟨rfl,rfl⟩,?_,?_⟩
       · try dsimp only
         (first|omega|(simp_all;done)|(simp_all;omega))
       try dsimp only
       omega
     replace c7:((((I ((I l i).res) ej).parts).length:Int)≤ic)∨(9000≤nX):=((fl c7).imp (fun q=>(Int.not_lt.1 (of_decide_eq_false q))) (fun q=>(Int.not_lt.1 (of_decide_eq_false q))))
     refine ah (by omega) ?_
     refine ⟨(nX,ej+1),⟨rfl,rfl⟩,?_,?_⟩
     · try dsimp only
       (first|omega|(simp_all;done)|(simp_all;omega))
     try dsimp only
     omega
   replace aY:((((I l i).res).length:Int)≤ej)∨(9000≤nW):=((fl aY).imp (fun q=>(Int.not_lt.1 (of_decide_eq_false q))) (fun q=>(Int.not_lt.1 (of_decide_eq_false q))))
   refine az ?_
   refine b7 (σ:=Int×Int) [] [0,3,4,5,10] 1 (fun ⟨pL,lr⟩=>([(0,an (l.map bB)),(3,aj pL),(4,aj i),(5, .loc 0 0),(10,aj lr)],[.cells [aw ((I l i).name),an (((I l i).ins).map bM),an (((I l i).res).map bK),an (((I l i).outs).map bz)]],m)) (fun ⟨pL,lr⟩=>0≤lr∧lr≤(I l i).outs.length) (fun ⟨pL,lr⟩=>(I l i).outs.length- lr.toNat) (nW,0) ⟨rfl,rfl⟩ ?_ ?_
   · try dsimp only
     first|omega|(refine ⟨?_,?_⟩<;>first|omega|simp)|simp
   rintro ⟨pL,lr⟩ fh
   dsimp only at fh
   refine az ?_
   refine cq [0,3,4,5,10] 138 ((decide (lr<(((I l i).outs).length:Int)))&&(decide (pL<9000))) ?_ ?_
   · repeat' first
      |exact ⟨⟨_,rfl,by grind [bD.val]⟩,rfl⟩
      |refine ah (fun _=>?_) (fun _=>?_)
      |refine br ?_
   refine ah (fun cV=>?_) (fun cV=>?_)
   · replace cV:(lr<(((I l i).outs).length:Int))∧(pL<9000):=⟨(of_decide_eq_true (eO cV)),(of_decide_eq_true (fk cV))⟩
     refine az ?_
     refine ck (by omega) ?_
     refine ck (by omega) ?_
     refine ih (fun _=>Cl 9000 (eg ((I ((I l i).outs) lr).2)+1) ((I ((I l i).outs) lr).2) (Nat.lt_succ_self _)) ?_
     refine ah (by omega) ?_
     refine ⟨(IntKind.i64.wrap ((IntKind.i64.wrap (pL+(((I ((I l i).outs) lr).1).length:Int)))+(nt 9000 ((I ((I l i).outs) lr).2))),lr+1),⟨rfl,rfl⟩,?_,?_⟩
     · try dsimp only
       (first|omega|(simp_all;done)|(simp_all;omega))
     try dsimp only
     omega
   replace cV:((((I l i).outs).length:Int)≤lr)∨(9000≤pL):=((fl cV).imp (fun q=>(Int.not_lt.1 (of_decide_eq_false q))) (fun q=>(Int.not_lt.1 (of_decide_eq_false q))))
   refine ah (fun cU=>?_) (fun cU=>?_)
   · refine bh rfl fun _=>?_
     show K (.bool false) m
     exact ab _ (fun ag=>by first|omega|cases ag)
   refine ah (by omega) ?_
   refine ⟨(pL,i+1),⟨rfl,rfl⟩,?_,?_⟩
   · try dsimp only
     (first|omega|(simp_all;done)|(simp_all;omega))
   try dsimp only
   omega
 refine bh rfl fun _=>?_
 show K (.bool true) m
 exact ab _ (fun ag=>by first|omega|cases ag)
end Go.Proofs
end
