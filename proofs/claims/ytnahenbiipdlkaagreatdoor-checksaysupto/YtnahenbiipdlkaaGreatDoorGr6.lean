import Derived.Test.YtnahenbiipdlkaaGreatDoorPx4
import Derived.Test.YtnahenbiipdlkaaGreatDoorWzL
import Derived.Test.YtnahenbiipdlkaaGreatDoorProg
import Derived.Test.YtnahenbiipdlkaaGreatDoorSv9
import Derived.Test.YtnahenbiipdlkaaGreatDoorWyA
section
namespace Go.Proofs
open Go Go.ba Go.bV
set_option maxRecDepth 100000
structure fE {eJ:Type} (P:bR eJ) (e q:Int) (Q:bR eJ):Prop where
 y:e=0→P=Q
 z:e≠0→P.f=e∧P.p=q
section
variable {l:List Tok} {α eJ:Type} {P R:bR eJ} {p:bR α} {x:α} {cn aM cM a2 aC bI f s:Int}
theorem fE.step [Inhabited eJ] {g:α→Int→bR eJ} (c:fE P aM cM (p.bind g)) (o:bx l p x cn aM cM a2 aC bI):fE P aC bI (g x a2):=by
 by_cases ao:aM=0
 · have J:=o.ok ao
   have ar:=c.y ao
   refine ⟨fun h=>?_,fun h=>?_⟩
   · obtain ⟨rfl,rfl⟩:=J.y h
     rw [ar,bR.bind,if_pos (by rw [←J.f];exact h)]
   · rw [ar,bR.bind,if_neg (by rw [←J.f];exact h)]
     exact ⟨J.f.symm,(J.z h).symm⟩
 · obtain ⟨_,rfl,rfl⟩:=o.st ao
   exact ⟨fun h=>absurd h ao,c.z⟩
theorem fE.fail [Inhabited eJ] (c:fE P aM cM (.bad f s)) (J:aM=0→aC=f∧bI=s) (aa:aM≠0→aC=aM∧bI=cM) (ai:0<aC):fE P aC bI R:=by
 refine ⟨fun h=>by omega,fun _=>?_⟩
 by_cases ao:aM=0
 · obtain ⟨rfl,rfl⟩:=J ao;rw [c.y ao];exact ⟨rfl,rfl⟩
 · obtain ⟨rfl,rfl⟩:=aa ao;exact c.z ao
theorem fE.to {Q hH:bR eJ} (c:fE P aM cM Q) (h:aM=0→Q=hH):fE P aM cM hH:=⟨fun z=>(c.y z).trans (h z),c.z⟩
theorem fE.done {a e q:Int} {y:eJ} (c:fE P aM cM (.ok y (cn+1))) (ao:aM=0) (he:e=0) (aX:a≤cn) (h:cn<l.length):bx l P y a e q (cn+1) aM cM:=
 ⟨fun _=>by rw [c.y ao];exact ⟨ao,fun _=>⟨rfl,rfl⟩,fun h=>absurd ao h⟩,fun h=>absurd he h,by omega,by omega,by omega,fun _=>by omega⟩
theorem fE.bad {Q:bR eJ} {a e q:Int} {y:eJ} (c:fE P aM cM Q) (ao:aM≠0) (he:e=0) (aX:a≤cn) (h:cn≤l.length) (aI:0≤aM):bx l P y a e q cn aM cM:=
 ⟨fun _=>⟨(c.z ao).1.symm,fun h=>absurd h ao,fun _=>(c.z ao).2.symm⟩,fun h=>absurd he h,aX,h,aI,fun h=>absurd h ao⟩
end
theorem Cc {α β:Type} [Inhabited β] {l:List Tok} {n a:Int} {xs:List α} {g:Int→bR β} (h:0<(xs.length:Int)):nu l n xs a g=(cK l n 4 [44] a).bind fun _ a=>g a:=by
 rw [nu,if_neg (fun e=>by subst e;simp at h)]
theorem Cd {α β:Type} [Inhabited β] {l:List Tok} {n a:Int} {xs:List α} {g:Int→bR β} (h:(xs.length:Int)≤0):nu l n xs a g=g a:=by
 rw [nu,if_pos (List.eq_nil_of_length_eq_zero (by omega))]
section
variable (f:Int→bR ax) (l:List Tok) (n:Int) (k:Nat) (dd:List aD) (xs:List ax)
def recC (m:aD) (a:Int):bR ax:=(cK l n 4 [58] a).bind fun _ a=>(f a).bind fun x a=>lg f l n k a (dd++[m]) (xs++[x])
def Ce (m:aD) (a:Int):bR ax:=if vY dd m then .bad 3 (dm l n a) else recC f l n k dd xs m a
def Cf (a:Int):bR ax:=(cK l n 1 [] a).bind fun m a=>Ce f l n k dd xs m a
end
theorem Q4 {f:Int→bR ax} {l:List Tok} {n a:Int} {k:Nat} {dd:List aD} {xs:List ax} {m:aD} (h:vY dd m):Ce f l n k dd xs m a= .bad 3 (dm l n a):=if_pos h
theorem Q5 {f:Int→bR ax} {l:List Tok} {n a:Int} {k:Nat} {dd:List aD} {xs:List ax} {m:aD} (h:(dd.length:Int)≤0∨Op.bytesLess (I dd ((dd.length:Int)- 1)) m=true):Ce f l n k dd xs m a=recC f l n k dd xs m a:=
 if_neg fun ag=>by
  obtain ⟨ia,jX⟩:=ag
  rcases h with h|h
  · omega
  · rw [jX] at h;cases h
theorem Q6 {f:Int→bR ax} {l:List Tok} {n a:Int} {k:Nat} {dd:List aD} {xs:List ax} (h:cI l 4 [125] a=false):lg f l n (k+1) a dd xs=nu l n xs a fun a=>Cf f l n k dd xs a:=by
 rw [lg,if_neg (dE h)];rfl
theorem Q7 {f:Int→bR ax} {l:List Tok} {n a:Int} {k:Nat} {dd:List aD} {xs:List ax} (h:cI l 4 [125] a=true):lg f l n (k+1) a dd xs= .ok (.mk 9 eb [] [] xs dd) (a+1):=by
 rw [lg,if_pos h]
theorem Q8 {f:Int→bR ax} {l:List Tok} {n a:Int} {k:Nat} {xs:List ax} (h:cI l 4 [93] a=false):nv f l n (k+1) a xs=nu l n xs a fun a=>(f a).bind fun x a=>nv f l n k a (xs++[x]):=by
 rw [nv,if_neg (dE h)]
theorem Q9 {f:Int→bR ax} {l:List Tok} {n a:Int} {k:Nat} {xs:List ax} (h:cI l 4 [93] a=true):nv f l n (k+1) a xs= .ok (.mk 8 eb [] [] xs []) (a+1):=by
 rw [nv,if_pos h]
set_option maxHeartbeats 4000000 in
theorem Ra (l:List Tok) (n a e q:Int) (k:Nat) (d:Int) (r:Nat) (aQ:∀a e q d:Int,d=7- (k:Int)→0≤a→a≤l.length→0≤e→∀(r:Nat) (m:ae),eE [r] m→eF m→∀(K:U→ae→Prop),(∀bX cR cD cY,bx l (du l n k a) bX a e q cR cD cY→K (cy bX) (ae.bf m [(r, .cells [.slice false (l.map ch), .int .i64 cR, .int .i64 n, .err 115 cD, .int .i64 cY])]))→bg Tryz.prog 127 [.ptr ⟨r,0,none⟩, .int .i64 d] (ae.bf m [(r, .cells [.slice false (l.map ch), .int .i64 a, .int .i64 n, .err 115 e, .int .i64 q])]) K) (av:l.length≤5000) (aG:0≤a) (aX:a≤l.length) (he:0≤e) (ak:k≤7) (bo:d+1=7- (k:Int)) (ao:e=0) (m:ae) (gd:eE [r] m) (K:U→ae→Prop) (aV:eF m) (ab:∀bX cR cD cY,bx l (lg (du l n k) l n (l.length+1) a [] []) bX a e q cR cD cY→K (cy bX) (ae.bf m [(r, .cells [.slice false (l.map ch), .int .i64 cR, .int .i64 n, .err 115 cD, .int .i64 cY])])):bg Tryz.prog 178 [.ptr ⟨r,0,none⟩, .int .i64 d] (ae.bf m [(r, .cells [.slice false (l.map ch), .int .i64 a, .int .i64 n, .err 115 e, .int .i64 q])]) K:=by
 refine enter (c:=cX [] [] [7] [11999] [11] [r]) (vs:=[.loc 0 0, .aH (.int .i64 d)]) (L:=[bp l n a e q]) (m:=m) false b9 Tryz.mixed Tryz.func178 rfl (k:=2) (by show cu [11999] _ _ _=true;decide+kernel) rfl (gd.hn rfl) ?_
 refine az ?_
 refine b7 (σ:=Int×Int×Int×List ax×List aD) [] [0,1,4,5] 3 (fun ⟨a2,aC,bI,xs,dd⟩=>([(0, .loc 0 0),(1,aj d),(4, .loc 1 0),(5, .loc 2 0)],[bp l n a2 aC bI, .cells [aj 0,aj 0,aj 0,aw ([]), .own [], .own [],aw ([]),aw ([]), .own [], .own []], .cells [aj 9,aj 0,aj 0,aw ([]:aD), .own [], .own [],aw ([]:aD),aw ([]:aD), .own (xs.map cx), .own (dd.map cS)]],m)) (fun ⟨a2,aC,bI,xs,dd⟩=>0≤a2∧a≤a2∧a2≤l.length∧0≤aC∧(aC=0→(xs.length:Int)≤a2∧(dd.length:Int)≤a2)∧xs.length≤5001∧dd.length≤5001∧∃cC:Nat,(aC=0→l.length- a2<cC)∧fE (lg (du l n k) l n (l.length+1) a [] []) aC bI (lg (du l n k) l n cC a2 dd xs)) (fun ⟨a2,aC,bI,xs,dd⟩=>if aC=0 then l.length- a2.toNat+1 else 0) (a,e,q,[],[]) ⟨rfl,rfl⟩ ?_ ?_
 · try dsimp only
   exact ⟨by omega,by omega,by omega,by omega,fun _=>⟨by simp;omega,by simp;omega⟩,by simp,by simp,l.length+1,fun _=>by omega,⟨fun _=>rfl,fun h=>absurd ao h⟩⟩
 rintro ⟨a2,aC,bI,xs,dd⟩ ay
 dsimp only at ay
 obtain ⟨i1,i2,i3,i4,i5,i6,i7,cC,i8,i9⟩:=ay
 refine az ?_
 refine cF 115 [0] (σ:=(Unit) ⊕ (Unit)) (Sum.elim (fun _=>aC=0∧cI l 4 ([125]:List UInt8) a2=true) (fun _=>aC=0→cI l 4 ([125]:List UInt8) a2=false)) (Sum.elim (fun _=> .b (.lit true)) (fun _=> .b (.lit false))) (Sum.elim (fun _=>[bp l n (a2+1) aC bI]) (fun _=>[bp l n a2 aC bI])) rfl (fun x=>by rcases x with _|_<;>rfl) (fun bs aF gd aB K ab=>h6 l n a2 aC bI 4 ([125]:List UInt8) (bs.getD 0 0) av (by omega) (by omega) (by omega) aF gd K (fun z w=>ab (.inl ()) ⟨z,w⟩) (fun z=>ab (.inr ()) z)) ?_
 rintro (_|_) bU
 · try dsimp only [Sum.elim_inl,Sum.elim_inr] at bU
   dsimp only [Sum.elim_inl,Sum.elim_inr]
   have vV:=il bU.2
   refine rt rfl fun _=>?_
   show K (.agg [.int .i64 9, .int .i64 0, .int .i64 0, .str ([]:aD), .slice false [], .slice false [], .str ([]:aD), .str ([]:aD), .slice false (xs.map cx), .slice false (dd.map cS)]) (ae.bf m [(r, .cells [.slice false (l.map ch), .int .i64 (a2+1), .int .i64 n, .err 115 aC, .int .i64 bI])])
   obtain ⟨cC,rfl⟩:∃k,cC=k+1:=⟨cC- 1,by have:=i8 bU.1;omega⟩
   refine df (ab (.mk 9 eb [] [] xs dd) _ _ _ ?_) ?_
   · exact fE.done (i9.to fun _=>Q7 bU.2) bU.1 ao (by omega) vV
   · simp only [cy,ax.a,ax.n];rfl
 try dsimp only [Sum.elim_inl,Sum.elim_inr] at bU
 dsimp only [Sum.elim_inl,Sum.elim_inr]
 refine ah (fun J=>?_) (fun J=>?_)
 · obtain ⟨cC,rfl⟩:∃k,cC=k+1:=⟨cC- 1,by have:=i8 J;omega⟩
   rw [Q6 (bU J)] at i9
   have i10:=i8 J
   have i11:=i5 J
   refine sU (σ:=Int×Int×Int) [] [0,1,4,5] 3 (fun ⟨hM,f3,mF⟩=>([(0, .loc 0 0),(1,aj d),(4, .loc 1 0),(5, .loc 2 0)],[bp l n hM f3 mF, .cells [aj 0,aj 0,aj 0,aw ([]), .own [], .own [],aw ([]),aw ([]), .own [], .own []], .cells [aj 9,aj 0,aj 0,aw ([]:aD), .own [], .own [],aw ([]:aD),aw ([]:aD), .own (xs.map cx), .own (dd.map cS)]],m)) (fun ⟨hM,f3,mF⟩=>a2≤hM∧hM≤l.length∧0≤f3∧fE (lg (du l n k) l n (l.length+1) a [] []) f3 mF (Cf (du l n k) l n cC dd xs hM)) ?_ ?_
   · rintro ⟨hM,f3,mF⟩ kS
     refine cF 115 [0] (σ:=aD×Int×Int×Int) (fun ⟨ek,eI,dt,dD⟩=>bx l (cK l n 1 [] hM) ek hM f3 mF eI dt dD) (fun ⟨ek,eI,dt,dD⟩=>aw ek) (fun ⟨ek,eI,dt,dD⟩=>[bp l n eI dt dD]) rfl (fun _=>rfl) (fun bs aF gd aB K ab=>n0 l n hM f3 mF (bs.getD 0 0) av (by omega) (by omega) (by omega) aF gd K (fun dq cc bZ b1 aT=>ab (dq,cc,bZ,b1) aT)) ?_
     rintro ⟨ek,eI,dt,dD⟩ dc
     dsimp only at dc
     have vW:=dc.bw
     have ie:=dc.ad
     have vX:=dc.cm
     refine sU (σ:=Int×Int×Int) [] [0,1,4,5,6] 3 (fun ⟨c3,g3,nj⟩=>([(0, .loc 0 0),(1,aj d),(4, .loc 1 0),(5, .loc 2 0),(6,aw ek)],[bp l n c3 g3 nj, .cells [aj 0,aj 0,aj 0,aw ([]), .own [], .own [],aw ([]),aw ([]), .own [], .own []], .cells [aj 9,aj 0,aj 0,aw ([]:aD), .own [], .own [],aw ([]:aD),aw ([]:aD), .own (xs.map cx), .own (dd.map cS)]],m)) (fun ⟨c3,g3,nj⟩=>hM≤c3∧c3≤l.length∧0≤g3∧fE (lg (du l n k) l n (l.length+1) a [] []) g3 nj (recC (du l n k) l n cC dd xs ek c3)) ?_ ?_
     · rintro ⟨c3,g3,nj⟩ vE
       refine cF 115 [0] (σ:=aD×Int×Int×Int) (fun ⟨jz,gA,ft,fG⟩=>(bx l (cK l n 4 ([58]:List UInt8) c3) jz c3 g3 nj gA ft fG)∧(ft≠0→jz=[])) (fun ⟨jz,gA,ft,fG⟩=>aw jz) (fun ⟨jz,gA,ft,fG⟩=>[bp l n gA ft fG]) rfl (fun _=>rfl) (fun bs aF gd aB K ab=>ji l n c3 g3 nj 4 ([58]:List UInt8) (bs.getD 0 0) av (by omega) (by omega) (by omega) aF gd K (fun dq cc bZ b1 aT ao=>ab (dq,cc,bZ,b1) ⟨aT,ao⟩)) ?_
       rintro ⟨jz,gA,ft,fG⟩ dZ
       dsimp only at dZ
       obtain ⟨dZ,nL⟩:=dZ
       have BW:=dZ.bw
       have BX:=dZ.ad
       have ya:=dZ.cm
       refine ap cS dd ([ek]:List (List UInt8)) rfl rfl (fun _=>⟨rfl,rfl⟩) (by (simp only [List.length_append,List.length_cons,List.length_nil];omega)) ?_
       refine gp b9 Tryz.mixed (σ:=Int×Int×Int×ax) (.f 0 (.f 2 (.f 3 (.o 1 (.s 4 (.s 5 (.s 6 (.s 7 (.f 8 (.s 9 .d)))))) (.o 4 (.o 1 (.s 5 (.s 6 (.s 7 (.f 8 (.s 9 .d))))) (.o 5 (.o 1 (.s 6 (.s 7 (.f 8 (.s 9 .d)))) (.o 6 (.s 1 (.s 7 (.f 8 (.s 9 .d)))) .z)) .z)) .z))))) [] [0,1,4,5] 3 (fun ⟨a9,dA,dB,dR⟩=>([(0, .loc 0 0),(1,aj d),(4, .loc 1 0),(5, .loc 2 0)],[bp l n a9 dA dB, .cells [aj 0,aj 0,aj 0,aw ([]), .own [], .own [],aw ([]),aw ([]), .own [], .own []], .cells [aj 9,aj 0,aj 0,aw ([]:aD), .own [], .own [],aw ([]:aD),aw ([]:aD), .own ((xs++([dR]:List ax)).map cx), .own ((dd++([ek]:List (List UInt8))).map cS)]],m)) (fun ⟨a9,dA,dB,dR⟩=>bx l (du l n k gA) dR gA ft fG a9 dA dB) (by decide+kernel) ?_ ?_
       · rintro ⟨a9,dA,dB,dR⟩ ef
         try dsimp only at ef
         have tn:=ef.bw
         have tp:=ef.ad
         have tq:=ef.cm
         refine ⟨(a9,dA,dB,xs++([dR]:List ax),dd++([ek]:List (List UInt8))),⟨rfl,rfl⟩,?_,?_⟩
         · try dsimp only
           have bl:=ef.gt
           have c:=fE.step (fE.step vE.2.2.2 dZ) ef
           simp only [List.length_append,List.length_cons,List.length_nil]
           exact ⟨by omega,by omega,by omega,by omega,fun aO=>by have:=bl aO;omega,by omega,by omega,cC,fun aO=>by have:=bl aO;omega,c⟩
         try dsimp only
         rw [if_pos J]
         have bl:=ef.gt
         split<;>omega
       repeat' first
        |refine ⟨(hp,hq,hB,rK),⟨rfl,rfl⟩,eu⟩
        |(refine cF 115 [0] (σ:=ax×Int×Int×Int) (fun ⟨rK,hp,hq,hB⟩=>bx l (du l n k gA) rK gA ft fG hp hq hB) (fun ⟨rK,hp,hq,hB⟩=>iS rK) (fun ⟨rK,hp,hq,hB⟩=>[bp l n hp hq hB]) rfl (fun _=>rfl) (fun bs aF gd aB K ab=>aQ gA ft fG (d+1) (by omega) (by omega) (by omega) (by omega) (bs.getD 0 0) aF gd (eF.up aB aV) K (fun fg cc bZ b1 aT=>ab (fg,cc,bZ,b1) aT)) ?_;rintro ⟨rK,hp,hq,hB⟩ eu;dsimp only at eu;have BY:=eu.bw;have BZ:=eu.ad;have B0:=eu.cm)
        |refine ap cx xs ([rK]:List ax) rfl (by simp only [List.map_cons,List.map_nil,e9];try rfl) (fun a=>by rw [e9];exact ⟨rfl,rfl⟩) (by (simp only [List.length_append,List.length_cons,List.length_nil];omega)) ?_
        |refine ah (by omega) ?_
        |refine ⟨?_,?_,trivial⟩
     refine br ?_
     refine cq [0,1,4,5,6] 41 ((decide (0<(dd.length:Int)))&&(!(Op.bytesLess (I dd ((dd.length:Int)- 1)) ek))) ?_ ?_
     · repeat' first
        |exact ⟨⟨_,rfl,by grind [bD.val]⟩,rfl⟩
        |refine ah (fun _=>?_) (fun _=>?_)
        |refine ah (by omega) ?_
        |refine ck (by omega) ?_
     refine ah (fun aa=>?_) (fun aa=>?_)
     · replace aa:(0<(dd.length:Int))∧(Op.bytesLess (I dd ((dd.length:Int)- 1)) ek=false):=⟨(of_decide_eq_true (eO aa)),(ds (fk aa))⟩
       refine cF 115 [0] (σ:=Int×Int) (fun ⟨e2,fo⟩=>(dt=0→e2=3∧fo=dm l n eI)∧(dt≠0→e2=dt∧fo=dD)∧0<e2) (fun ⟨e2,fo⟩=> .dw []) (fun ⟨e2,fo⟩=>[bp l n eI e2 fo]) rfl (fun _=>rfl) (fun bs aF gd aB K ab=>oI l n eI dt dD 3 (bs.getD 0 0) (by decide) av (by omega) (by omega) (by omega) aF gd K (fun z=>ab (3,dm l n eI) ⟨fun _=>⟨rfl,rfl⟩,fun y=>absurd z y,by decide⟩) (fun z=>ab (dt,dD) ⟨fun y=>absurd y z,fun _=>⟨rfl,rfl⟩,by omega⟩)) ?_
       rintro ⟨e2,fo⟩ e4
       dsimp only at e4
       obtain ⟨Rb,Rc,Re⟩:=e4
       refine ⟨(eI,e2,fo),⟨rfl,rfl⟩,⟨by omega,by omega,by omega,fE.fail ((fE.step kS.2.2.2 dc).to fun _=>Q4 aa) Rb Rc Re⟩⟩
     replace aa:((dd.length:Int)≤0)∨(Op.bytesLess (I dd ((dd.length:Int)- 1)) ek=true):=((fl aa).imp (fun q=>(Int.not_lt.1 (of_decide_eq_false q))) (fun q=>(dn q)))
     refine ⟨(eI,dt,dD),⟨rfl,rfl⟩,⟨by omega,by omega,by omega,(fE.step kS.2.2.2 dc).to fun _=>Q5 aa⟩⟩
   refine br ?_
   refine ah (fun ai=>?_) (fun ai=>?_)
   · refine cF 115 [0] (σ:=aD×Int×Int×Int) (fun ⟨gU,eA,eG,e5⟩=>(bx l (cK l n 4 ([44]:List UInt8) a2) gU a2 aC bI eA eG e5)∧(eG≠0→gU=[])) (fun ⟨gU,eA,eG,e5⟩=>aw gU) (fun ⟨gU,eA,eG,e5⟩=>[bp l n eA eG e5]) rfl (fun _=>rfl) (fun bs aF gd aB K ab=>ji l n a2 aC bI 4 ([44]:List UInt8) (bs.getD 0 0) av (by omega) (by omega) (by omega) aF gd K (fun dq cc bZ b1 aT ao=>ab (dq,cc,bZ,b1) ⟨aT,ao⟩)) ?_
     rintro ⟨gU,eA,eG,e5⟩ fA
     dsimp only at fA
     obtain ⟨fA,U4⟩:=fA
     have v7:=fA.bw
     have v8:=fA.ad
     have wa:=fA.cm
     refine ⟨(eA,eG,e5),⟨rfl,rfl⟩,⟨by omega,by omega,by omega,fE.step (p:=cK l n 4 [44] a2) (x:=gU) (g:=fun _ a=>Cf (du l n k) l n cC dd xs a) (i9.to fun _=>Cc ai) fA⟩⟩
   refine ⟨(a2,aC,bI),⟨rfl,rfl⟩,⟨by omega,by omega,by omega,i9.to fun _=>Cd ai⟩⟩
 refine rt rfl fun _=>?_
 show K (.agg [.int .i64 9, .int .i64 0, .int .i64 0, .str ([]:aD), .slice false [], .slice false [], .str ([]:aD), .str ([]:aD), .slice false (xs.map cx), .slice false (dd.map cS)]) (ae.bf m [(r, .cells [.slice false (l.map ch), .int .i64 a2, .int .i64 n, .err 115 aC, .int .i64 bI])])
 refine df (ab (.mk 9 eb [] [] xs dd) _ _ _ ?_) ?_
 · exact fE.bad i9 J ao (by omega) (by omega) (by omega)
 · simp only [cy,ax.a,ax.n];rfl
end Go.Proofs
end
section
namespace Go.Proofs
open Go Go.ba Go.bV
set_option maxRecDepth 100000
theorem Rf {l:List Tok} {n k a e q cn aM cM:Int} {s x:aD} (ao:e=0) (aB:cI l k s a=true) (o:bx l (cK l n k s a) x a e q cn aM cM):x=(I l a).2.2∧cn=a+1∧aM=0:=by
 have h:=o.ok ao
 rw [cK,if_pos aB] at h
 have bA:aM=0:=h.f
 obtain ⟨J,aa⟩:=h.y bA
 exact ⟨J,aa,bA⟩
theorem bx.Rg {l:List Tok} {α:Type} {x:α} {a e q aM cM:Int} (aG:a<l.length) (he:e=0) (J:aM=0):bx l (.ok x (a+1):bR α) x a e q (a+1) aM cM:=
 ⟨fun _=>⟨J,fun _=>⟨rfl,rfl⟩,fun h=>absurd J h⟩,fun h=>absurd he h,by omega,by omega,by omega,fun _=>by omega⟩
set_option maxHeartbeats 4000000 in
theorem Rh (l:List Tok) (n a e q:Int) (k:Nat) (d:Int) (r:Nat) (aQ:∀a e q d:Int,d=7- (k:Int)→0≤a→a≤l.length→0≤e→∀(r:Nat) (m:ae),eE [r] m→eF m→∀(K:U→ae→Prop),(∀bX cR cD cY,bx l (du l n k a) bX a e q cR cD cY→K (cy bX) (ae.bf m [(r, .cells [.slice false (l.map ch), .int .i64 cR, .int .i64 n, .err 115 cD, .int .i64 cY])]))→bg Tryz.prog 127 [.ptr ⟨r,0,none⟩, .int .i64 d] (ae.bf m [(r, .cells [.slice false (l.map ch), .int .i64 a, .int .i64 n, .err 115 e, .int .i64 q])]) K) (av:l.length≤5000) (aG:0≤a) (aX:a≤l.length) (he:0≤e) (hw:n3 l) (ak:k≤7) (bo:d+1=7- (k:Int)) (ao:e=0) (m:ae) (gd:eE [r] m) (K:U→ae→Prop) (aV:eF m) (ab:∀bX cR cD cY,bx l (du l n (k+1) a) bX a e q cR cD cY→K (cy bX) (ae.bf m [(r, .cells [.slice false (l.map ch), .int .i64 cR, .int .i64 n, .err 115 cD, .int .i64 cY])])):bg Tryz.prog 127 [.ptr ⟨r,0,none⟩, .int .i64 d] (ae.bf m [(r, .cells [.slice false (l.map ch), .int .i64 a, .int .i64 n, .err 115 e, .int .i64 q])]) K:=by
 refine enter (c:=cX [] [] [] [11999] [11] [r]) (vs:=[.loc 0 0, .aH (.int .i64 d)]) (L:=[bp l n a e q]) (m:=m) false b9 Tryz.mixed Tryz.func127 rfl (k:=2) (by show cu [11999] _ _ _=true;decide+kernel) rfl (gd.hn rfl) ?_
 refine az ?_
 refine ah (fun J=>?_) (fun J=>?_)
 · omega
 refine az ?_
 refine ah (fun aa=>?_) (fun aa=>?_)
 · refine cF 115 [0] (σ:=(Unit) ⊕ (Unit)) (Sum.elim (fun _=>e=0∧cI l 4 ([40]:List UInt8) a=true) (fun _=>e=0→cI l 4 ([40]:List UInt8) a=false)) (Sum.elim (fun _=> .b (.lit true)) (fun _=> .b (.lit false))) (Sum.elim (fun _=>[bp l n (a+1) e q]) (fun _=>[bp l n a e q])) rfl (fun x=>by rcases x with _|_<;>rfl) (fun bs aF gd aB K ab=>h6 l n a e q 4 ([40]:List UInt8) (bs.getD 0 0) av (by omega) (by omega) (by omega) aF gd K (fun z w=>ab (.inl ()) ⟨z,w⟩) (fun z=>ab (.inr ()) z)) ?_
   rintro (_|_) bU
   · try dsimp only [Sum.elim_inl,Sum.elim_inr] at bU
     dsimp only [Sum.elim_inl,Sum.elim_inr]
     have vV:=il bU.2
     refine cF 115 [0] (σ:=ax×Int×Int×Int) (fun ⟨hN,eI,dt,dD⟩=>bx l (pB (du l n k) l n (a+1)) hN (a+1) e q eI dt dD) (fun ⟨hN,eI,dt,dD⟩=>iS hN) (fun ⟨hN,eI,dt,dD⟩=>[bp l n eI dt dD]) rfl (fun _=>rfl) (fun bs aF gd aB K ab=>QT l n (a+1) e q k d (bs.getD 0 0) aQ av (by omega) (by omega) (by omega) ak bo aF gd K (eF.up aB aV) (fun fg cc bZ b1 aT=>ab (fg,cc,bZ,b1) aT)) ?_
     rintro ⟨hN,eI,dt,dD⟩ dc
     dsimp only at dc
     have vW:=dc.bw
     have ie:=dc.ad
     have vX:=dc.cm
     refine rt rfl fun _=>?_
     show K (.agg [.int .i64 hN.kind, .int .i64 hN.v.kind, .int .i64 hN.v.n, .str hN.v.s, .slice false (hN.v.l.map cj), .slice false (hN.v.f.map ct), .str hN.s, .str hN.t, .slice false (hN.a.map cx), .slice false (hN.n.map cS)]) (ae.bf m [(r, .cells [.slice false (l.map ch), .int .i64 eI, .int .i64 n, .err 115 dt, .int .i64 dD])])
     refine ab hN _ _ _ ?_
     rw [du,if_pos bU.2]
     exact bx.from ao (by omega) dc
   try dsimp only [Sum.elim_inl,Sum.elim_inr] at bU
   dsimp only [Sum.elim_inl,Sum.elim_inr]
   refine cF 115 [0] (σ:=(Unit) ⊕ (Unit)) (Sum.elim (fun _=>e=0∧cI l 4 ([91]:List UInt8) a=true) (fun _=>e=0→cI l 4 ([91]:List UInt8) a=false)) (Sum.elim (fun _=> .b (.lit true)) (fun _=> .b (.lit false))) (Sum.elim (fun _=>[bp l n (a+1) e q]) (fun _=>[bp l n a e q])) rfl (fun x=>by rcases x with _|_<;>rfl) (fun bs aF gd aB K ab=>h6 l n a e q 4 ([91]:List UInt8) (bs.getD 0 0) av (by omega) (by omega) (by omega) aF gd K (fun z w=>ab (.inl ()) ⟨z,w⟩) (fun z=>ab (.inr ()) z)) ?_
   rintro (_|_) dZ
   · try dsimp only [Sum.elim_inl,Sum.elim_inr] at dZ
     dsimp only [Sum.elim_inl,Sum.elim_inr]
     have Hb:=il dZ.2
     refine az ?_
     refine b7 (σ:=Int×Int×Int×List ax) [] [0,1,4,5] 3 (fun ⟨a2,aC,bI,xs⟩=>([(0, .loc 0 0),(1,aj d),(4, .loc 1 0),(5, .loc 2 0)],[bp l n a2 aC bI, .cells [aj 0,aj 0,aj 0,aw ([]), .own [], .own [],aw ([]),aw ([]), .own [], .own []], .cells [aj 8,aj 0,aj 0,aw ([]:aD), .own [], .own [],aw ([]:aD),aw ([]:aD), .own (xs.map cx), .own []]],m)) (fun ⟨a2,aC,bI,xs⟩=>0≤a2∧a+1≤a2∧a2≤l.length∧0≤aC∧(aC=0→(xs.length:Int)≤a2)∧xs.length≤5001∧∃cC:Nat,(aC=0→l.length- a2<cC)∧fE (nv (du l n k) l n (l.length+1) (a+1) []) aC bI (nv (du l n k) l n cC a2 xs)) (fun ⟨a2,aC,bI,xs⟩=>if aC=0 then l.length- a2.toNat+1 else 0) (a+1,e,q,[]) ⟨rfl,rfl⟩ ?_ ?_
     · try dsimp only
       exact ⟨by omega,by omega,by omega,by omega,fun _=>by simp;omega,by simp,l.length+1,fun _=>by omega,⟨fun _=>rfl,fun h=>absurd ao h⟩⟩
     rintro ⟨a2,aC,bI,xs⟩ ay
     dsimp only at ay
     obtain ⟨i1,i2,i3,i4,i5,i6,cC,i8,i9⟩:=ay
     refine az ?_
     refine cF 115 [0] (σ:=(Unit) ⊕ (Unit)) (Sum.elim (fun _=>aC=0∧cI l 4 ([93]:List UInt8) a2=true) (fun _=>aC=0→cI l 4 ([93]:List UInt8) a2=false)) (Sum.elim (fun _=> .b (.lit true)) (fun _=> .b (.lit false))) (Sum.elim (fun _=>[bp l n (a2+1) aC bI]) (fun _=>[bp l n a2 aC bI])) rfl (fun x=>by rcases x with _|_<;>rfl) (fun bs aF gd aB K ab=>h6 l n a2 aC bI 4 ([93]:List UInt8) (bs.getD 0 0) av (by omega) (by omega) (by omega) aF gd K (fun z w=>ab (.inl ()) ⟨z,w⟩) (fun z=>ab (.inr ()) z)) ?_
     rintro (_|_) eu
     · try dsimp only [Sum.elim_inl,Sum.elim_inr] at eu
       dsimp only [Sum.elim_inl,Sum.elim_inr]
       have yc:=il eu.2
       refine rt rfl fun _=>?_
       show K (.agg [.int .i64 8, .int .i64 0, .int .i64 0, .str ([]:aD), .slice false [], .slice false [], .str ([]:aD), .str ([]:aD), .slice false (xs.map cx), .slice false []]) (ae.bf m [(r, .cells [.slice false (l.map ch), .int .i64 (a2+1), .int .i64 n, .err 115 aC, .int .i64 bI])])
       obtain ⟨cC,rfl⟩:∃k,cC=k+1:=⟨cC- 1,by have:=i8 eu.1;omega⟩
       refine df (ab (.mk 8 eb [] [] xs []) _ _ _ ?_) ?_
       · rw [du,if_neg (dE (bU ao)),if_pos dZ.2]
         exact bx.from ao (by omega) (fE.done (a:=a+1) (e:=e) (q:=q) (i9.to fun _=>Q9 eu.2) eu.1 ao (by omega) yc)
       · simp only [cy,ax.a,ax.n];rfl
     try dsimp only [Sum.elim_inl,Sum.elim_inr] at eu
     dsimp only [Sum.elim_inl,Sum.elim_inr]
     refine ah (fun ai=>?_) (fun ai=>?_)
     · obtain ⟨cC,rfl⟩:∃k,cC=k+1:=⟨cC- 1,by have:=i8 ai;omega⟩
       rw [Q8 (eu ai)] at i9
       have i10:=i8 ai
       have i11:=i5 ai
       refine az ?_
       refine br ?_
       refine ah (fun aJ=>?_) (fun aJ=>?_)
       · refine cF 115 [0] (σ:=aD×Int×Int×Int) (fun ⟨jj,gK,e2,fo⟩=>(bx l (cK l n 4 ([44]:List UInt8) a2) jj a2 aC bI gK e2 fo)∧(e2≠0→jj=[])) (fun ⟨jj,gK,e2,fo⟩=>aw jj) (fun ⟨jj,gK,e2,fo⟩=>[bp l n gK e2 fo]) rfl (fun _=>rfl) (fun bs aF gd aB K ab=>ji l n a2 aC bI 4 ([44]:List UInt8) (bs.getD 0 0) av (by omega) (by omega) (by omega) aF gd K (fun dq cc bZ b1 aT ao=>ab (dq,cc,bZ,b1) ⟨aT,ao⟩)) ?_
         rintro ⟨jj,gK,e2,fo⟩ e4
         dsimp only at e4
         obtain ⟨e4,Hc⟩:=e4
         have Hd:=e4.bw
         have He:=e4.ad
         have B3:=e4.cm
         refine gp b9 Tryz.mixed (σ:=Int×Int×Int×ax) (.f 0 (.f 2 (.f 3 (.o 1 (.s 4 (.s 5 (.s 6 (.s 7 (.f 8 (.s 9 .d)))))) (.o 4 (.o 1 (.s 5 (.s 6 (.s 7 (.f 8 (.s 9 .d))))) (.o 5 (.o 1 (.s 6 (.s 7 (.f 8 (.s 9 .d)))) (.o 6 (.s 1 (.s 7 (.f 8 (.s 9 .d)))) .z)) .z)) .z))))) [] [0,1,4,5] 3 (fun ⟨a9,dA,dB,dR⟩=>([(0, .loc 0 0),(1,aj d),(4, .loc 1 0),(5, .loc 2 0)],[bp l n a9 dA dB, .cells [aj 0,aj 0,aj 0,aw ([]), .own [], .own [],aw ([]),aw ([]), .own [], .own []], .cells [aj 8,aj 0,aj 0,aw ([]:aD), .own [], .own [],aw ([]:aD),aw ([]:aD), .own ((xs++([dR]:List ax)).map cx), .own []]],m)) (fun ⟨a9,dA,dB,dR⟩=>bx l (du l n k gK) dR gK e2 fo a9 dA dB) (by decide+kernel) ?_ ?_
         · rintro ⟨a9,dA,dB,dR⟩ ef
           try dsimp only at ef
           have tn:=ef.bw
           have tp:=ef.ad
           have tq:=ef.cm
           refine ⟨(a9,dA,dB,xs++([dR]:List ax)),⟨rfl,rfl⟩,?_,?_⟩
           · try dsimp only
             have bl:=ef.gt
             have c:=fE.step (fE.step (p:=cK l n 4 [44] a2) (x:=jj) (g:=fun _ a=>(du l n k a).bind fun x a=>nv (du l n k) l n cC a (xs++[x])) (i9.to fun _=>Cc aJ) e4) ef
             simp only [List.length_append,List.length_cons,List.length_nil]
             exact ⟨by omega,by omega,by omega,by omega,fun aO=>by have:=bl aO;omega,by omega,cC,fun aO=>by have:=bl aO;omega,c⟩
           try dsimp only
           rw [if_pos ai]
           have bl:=ef.gt
           split<;>omega
         repeat' first
          |refine ⟨(eA,eG,e5,gN),⟨rfl,rfl⟩,fA⟩
          |(refine cF 115 [0] (σ:=ax×Int×Int×Int) (fun ⟨gN,eA,eG,e5⟩=>bx l (du l n k gK) gN gK e2 fo eA eG e5) (fun ⟨gN,eA,eG,e5⟩=>iS gN) (fun ⟨gN,eA,eG,e5⟩=>[bp l n eA eG e5]) rfl (fun _=>rfl) (fun bs aF gd aB K ab=>aQ gK e2 fo (d+1) (by omega) (by omega) (by omega) (by omega) (bs.getD 0 0) aF gd (eF.up aB aV) K (fun fg cc bZ b1 aT=>ab (fg,cc,bZ,b1) aT)) ?_;rintro ⟨gN,eA,eG,e5⟩ fA;dsimp only at fA;have v7:=fA.bw;have v8:=fA.ad;have wa:=fA.cm)
          |refine ap cx xs ([gN]:List ax) rfl (by simp only [List.map_cons,List.map_nil,e9];try rfl) (fun a=>by rw [e9];exact ⟨rfl,rfl⟩) (by (simp only [List.length_append,List.length_cons,List.length_nil];omega)) ?_
          |refine ah (by omega) ?_
          |refine ⟨?_,?_,trivial⟩
       refine gp b9 Tryz.mixed (σ:=Int×Int×Int×ax) (.f 0 (.f 2 (.f 3 (.o 1 (.s 4 (.s 5 (.s 6 (.s 7 (.f 8 (.s 9 .d)))))) (.o 4 (.o 1 (.s 5 (.s 6 (.s 7 (.f 8 (.s 9 .d))))) (.o 5 (.o 1 (.s 6 (.s 7 (.f 8 (.s 9 .d)))) (.o 6 (.s 1 (.s 7 (.f 8 (.s 9 .d)))) .z)) .z)) .z))))) [] [0,1,4,5] 3 (fun ⟨a9,dA,dB,dR⟩=>([(0, .loc 0 0),(1,aj d),(4, .loc 1 0),(5, .loc 2 0)],[bp l n a9 dA dB, .cells [aj 0,aj 0,aj 0,aw ([]), .own [], .own [],aw ([]),aw ([]), .own [], .own []], .cells [aj 8,aj 0,aj 0,aw ([]:aD), .own [], .own [],aw ([]:aD),aw ([]:aD), .own ((xs++([dR]:List ax)).map cx), .own []]],m)) (fun ⟨a9,dA,dB,dR⟩=>bx l (du l n k a2) dR a2 aC bI a9 dA dB) (by decide+kernel) ?_ ?_
       · rintro ⟨a9,dA,dB,dR⟩ ef
         try dsimp only at ef
         have tn:=ef.bw
         have tp:=ef.ad
         have tq:=ef.cm
         refine ⟨(a9,dA,dB,xs++([dR]:List ax)),⟨rfl,rfl⟩,?_,?_⟩
         · try dsimp only
           have bl:=ef.gt
           have c:=fE.step (i9.to fun _=>Cd aJ) ef
           simp only [List.length_append,List.length_cons,List.length_nil]
           exact ⟨by omega,by omega,by omega,by omega,fun aO=>by have:=bl aO;omega,by omega,cC,fun aO=>by have:=bl aO;omega,c⟩
         try dsimp only
         rw [if_pos ai]
         have bl:=ef.gt
         split<;>omega
       repeat' first
        |refine ⟨(mB,gC,gV,rL),⟨rfl,rfl⟩,hr⟩
        |(refine cF 115 [0] (σ:=ax×Int×Int×Int) (fun ⟨rL,mB,gC,gV⟩=>bx l (du l n k a2) rL a2 aC bI mB gC gV) (fun ⟨rL,mB,gC,gV⟩=>iS rL) (fun ⟨rL,mB,gC,gV⟩=>[bp l n mB gC gV]) rfl (fun _=>rfl) (fun bs aF gd aB K ab=>aQ a2 aC bI (d+1) (by omega) (by omega) (by omega) (by omega) (bs.getD 0 0) aF gd (eF.up aB aV) K (fun fg cc bZ b1 aT=>ab (fg,cc,bZ,b1) aT)) ?_;rintro ⟨rL,mB,gC,gV⟩ hr;dsimp only at hr;have QU:=hr.bw;have QV:=hr.ad;have Hj:=hr.cm)
        |refine ap cx xs ([rL]:List ax) rfl (by simp only [List.map_cons,List.map_nil,e9];try rfl) (fun a=>by rw [e9];exact ⟨rfl,rfl⟩) (by (simp only [List.length_append,List.length_cons,List.length_nil];omega)) ?_
        |refine ah (by omega) ?_
        |refine ⟨?_,?_,trivial⟩
     refine rt rfl fun _=>?_
     show K (.agg [.int .i64 8, .int .i64 0, .int .i64 0, .str ([]:aD), .slice false [], .slice false [], .str ([]:aD), .str ([]:aD), .slice false (xs.map cx), .slice false []]) (ae.bf m [(r, .cells [.slice false (l.map ch), .int .i64 a2, .int .i64 n, .err 115 aC, .int .i64 bI])])
     refine df (ab (.mk 8 eb [] [] xs []) _ _ _ ?_) ?_
     · rw [du,if_neg (dE (bU ao)),if_pos dZ.2]
       exact bx.from ao (by omega) (fE.bad (a:=a+1) (e:=e) (q:=q) i9 ai ao (by omega) (by omega) (by omega))
     · simp only [cy,ax.a,ax.n];rfl
   try dsimp only [Sum.elim_inl,Sum.elim_inr] at dZ
   dsimp only [Sum.elim_inl,Sum.elim_inr]
   refine cF 115 [0] (σ:=(Unit) ⊕ (Unit)) (Sum.elim (fun _=>e=0∧cI l 4 ([123]:List UInt8) a=true) (fun _=>e=0→cI l 4 ([123]:List UInt8) a=false)) (Sum.elim (fun _=> .b (.lit true)) (fun _=> .b (.lit false))) (Sum.elim (fun _=>[bp l n (a+1) e q]) (fun _=>[bp l n a e q])) rfl (fun x=>by rcases x with _|_<;>rfl) (fun bs aF gd aB K ab=>h6 l n a e q 4 ([123]:List UInt8) (bs.getD 0 0) av (by omega) (by omega) (by omega) aF gd K (fun z w=>ab (.inl ()) ⟨z,w⟩) (fun z=>ab (.inr ()) z)) ?_
   rintro (_|_) fH
   · try dsimp only [Sum.elim_inl,Sum.elim_inr] at fH
     dsimp only [Sum.elim_inl,Sum.elim_inr]
     have QW:=il fH.2
     refine cF 115 [0] (σ:=ax×Int×Int×Int) (fun ⟨gP,jA,hC,hD⟩=>bx l (lg (du l n k) l n (l.length+1) (a+1) [] []) gP (a+1) e q jA hC hD) (fun ⟨gP,jA,hC,hD⟩=>iS gP) (fun ⟨gP,jA,hC,hD⟩=>[bp l n jA hC hD]) rfl (fun _=>rfl) (fun bs aF gd aB K ab=>Ra l n (a+1) e q k d (bs.getD 0 0) aQ av (by omega) (by omega) (by omega) ak bo ao aF gd K (eF.up aB aV) (fun fg cc bZ b1 aT=>ab (fg,cc,bZ,b1) aT)) ?_
     rintro ⟨gP,jA,hC,hD⟩ hs
     dsimp only at hs
     have Hn:=hs.bw
     have Ho:=hs.ad
     have Cb:=hs.cm
     refine rt rfl fun _=>?_
     show K (.agg [.int .i64 gP.kind, .int .i64 gP.v.kind, .int .i64 gP.v.n, .str gP.v.s, .slice false (gP.v.l.map cj), .slice false (gP.v.f.map ct), .str gP.s, .str gP.t, .slice false (gP.a.map cx), .slice false (gP.n.map cS)]) (ae.bf m [(r, .cells [.slice false (l.map ch), .int .i64 jA, .int .i64 n, .err 115 hC, .int .i64 hD])])
     refine ab gP _ _ _ ?_
     rw [du,if_neg (dE (bU ao)),if_neg (dE (dZ ao)),if_pos fH.2]
     exact bx.from ao (by omega) hs
   try dsimp only [Sum.elim_inl,Sum.elim_inr] at fH
   dsimp only [Sum.elim_inl,Sum.elim_inr]
   refine cF 115 [0] (σ:=(Unit) ⊕ (Unit)) (Sum.elim (fun _=>e=0∧cI l 4 ([45]:List UInt8) a=true) (fun _=>e=0→cI l 4 ([45]:List UInt8) a=false)) (Sum.elim (fun _=> .b (.lit true)) (fun _=> .b (.lit false))) (Sum.elim (fun _=>[bp l n (a+1) e q]) (fun _=>[bp l n a e q])) rfl (fun x=>by rcases x with _|_<;>rfl) (fun bs aF gd aB K ab=>h6 l n a e q 4 ([45]:List UInt8) (bs.getD 0 0) av (by omega) (by omega) (by omega) aF gd K (fun z w=>ab (.inl ()) ⟨z,w⟩) (fun z=>ab (.inr ()) z)) ?_
   rintro (_|_) fU
   · try dsimp only [Sum.elim_inl,Sum.elim_inr] at fU
     dsimp only [Sum.elim_inl,Sum.elim_inr]
     have U5:=il fU.2
     refine cF 115 [0] (σ:=ax×Int×Int×Int) (fun ⟨gO,gW,hd,ht⟩=>bx l (n4 l n (-1) (a+1)) gO a e q gW hd ht) (fun ⟨gO,gW,hd,ht⟩=>iS gO) (fun ⟨gO,gW,hd,ht⟩=>[bp l n gW hd ht]) rfl (fun _=>rfl) (fun bs aF gd aB K ab=>G8 l n (a+1) e q (-1) (bs.getD 0 0) av (by omega) (by omega) (by omega) hw (by omega) ao a (by omega) (by omega) (by omega) aF gd K (eF.up aB aV) (fun fg cc bZ b1 aT=>ab (fg,cc,bZ,b1) aT)) ?_
     rintro ⟨gO,gW,hd,ht⟩ gM
     dsimp only at gM
     have B8:=gM.bw
     have B9:=gM.ad
     have Ca:=gM.cm
     refine rt rfl fun _=>?_
     show K (.agg [.int .i64 gO.kind, .int .i64 gO.v.kind, .int .i64 gO.v.n, .str gO.v.s, .slice false (gO.v.l.map cj), .slice false (gO.v.f.map ct), .str gO.s, .str gO.t, .slice false (gO.a.map cx), .slice false (gO.n.map cS)]) (ae.bf m [(r, .cells [.slice false (l.map ch), .int .i64 gW, .int .i64 n, .err 115 hd, .int .i64 ht])])
     refine ab gO _ _ _ ?_
     rw [du,if_neg (dE (bU ao)),if_neg (dE (dZ ao)),if_neg (dE (fH ao)),if_pos fU.2]
     exact gM
   try dsimp only [Sum.elim_inl,Sum.elim_inr] at fU
   dsimp only [Sum.elim_inl,Sum.elim_inr]
   refine gn [0] [bp l n a e q] (eY (mx l 2 ([]) a e)) rfl (fun bs aF gd=>ti l n a e q 2 ([]) (bs.getD 0 0) av (by omega) (by omega) (by omega) aF gd) ?_
   refine ah (fun aY=>?_) (fun aY=>?_)
   · refine cF 115 [0] (σ:=ax×Int×Int×Int) (fun ⟨dF,fI,fJ,gb⟩=>bx l (n4 l n 1 a) dF a e q fI fJ gb) (fun ⟨dF,fI,fJ,gb⟩=>iS dF) (fun ⟨dF,fI,fJ,gb⟩=>[bp l n fI fJ gb]) rfl (fun _=>rfl) (fun bs aF gd aB K ab=>G8 l n a e q 1 (bs.getD 0 0) av (by omega) (by omega) (by omega) hw (by omega) ao a (by omega) (by omega) (by omega) aF gd K (eF.up aB aV) (fun fg cc bZ b1 aT=>ab (fg,cc,bZ,b1) aT)) ?_
     rintro ⟨dF,fI,fJ,gb⟩ gB
     dsimp only at gB
     have yd:=gB.bw
     have ye:=gB.ad
     have yf:=gB.cm
     refine rt rfl fun _=>?_
     show K (.agg [.int .i64 dF.kind, .int .i64 dF.v.kind, .int .i64 dF.v.n, .str dF.v.s, .slice false (dF.v.l.map cj), .slice false (dF.v.f.map ct), .str dF.s, .str dF.t, .slice false (dF.a.map cx), .slice false (dF.n.map cS)]) (ae.bf m [(r, .cells [.slice false (l.map ch), .int .i64 fI, .int .i64 n, .err 115 fJ, .int .i64 gb])])
     refine ab dF _ _ _ ?_
     rw [du,if_neg (dE (bU ao)),if_neg (dE (dZ ao)),if_neg (dE (fH ao)),if_neg (dE (fU ao)),if_pos (qs aY).2]
     exact gB
   refine gn [0] [bp l n a e q] (eY (mx l 3 ([]) a e)) rfl (fun bs aF gd=>ti l n a e q 3 ([]) (bs.getD 0 0) av (by omega) (by omega) (by omega) aF gd) ?_
   refine ah (fun bG=>?_) (fun bG=>?_)
   · refine cF 115 [0] (σ:=aD×Int×Int×Int) (fun ⟨lW,mA,h7,iG⟩=>(bx l (cK l n 3 ([]) a) lW a e q mA h7 iG)∧(h7≠0→lW=[])) (fun ⟨lW,mA,h7,iG⟩=>aw lW) (fun ⟨lW,mA,h7,iG⟩=>[bp l n mA h7 iG]) rfl (fun _=>rfl) (fun bs aF gd aB K ab=>ji l n a e q 3 ([]) (bs.getD 0 0) av (by omega) (by omega) (by omega) aF gd K (fun dq cc bZ b1 aT ao=>ab (dq,cc,bZ,b1) ⟨aT,ao⟩)) ?_
     rintro ⟨lW,mA,h7,iG⟩ kW
     dsimp only at kW
     obtain ⟨kW,U6⟩:=kW
     have QN:=kW.bw
     have QO:=kW.ad
     have QP:=kW.cm
     refine rt rfl fun _=>?_
     show K (.agg [.int .i64 1, .int .i64 2, .int .i64 0, .str lW, .slice false [], .slice false [], .str ([]), .str ([]), .slice false [], .slice false []]) (ae.bf m [(r, .cells [.slice false (l.map ch), .int .i64 mA, .int .i64 n, .err 115 h7, .int .i64 iG])])
     obtain ⟨fD,jS,k6⟩:=Rf ao (qs bG).2 kW
     have cl:=il (qs bG).2
     subst fD;subst jS
     refine ab (lf (.mk 2 0 (I l a).2.2 [] [])) _ _ _ ?_
     rw [du,if_neg (dE (bU ao)),if_neg (dE (dZ ao)),if_neg (dE (fH ao)),if_neg (dE (fU ao)),if_neg (dE (rD aY ao)),if_pos (qs bG).2]
     exact bx.Rg cl ao k6
   refine cF 115 [0] (σ:=ax×Int×Int×Int) (fun ⟨iq,mE,iU,jk⟩=>bx l (mz (du l n k) l n a) iq a e q mE iU jk) (fun ⟨iq,mE,iU,jk⟩=>iS iq) (fun ⟨iq,mE,iU,jk⟩=>[bp l n mE iU jk]) rfl (fun _=>rfl) (fun bs aF gd aB K ab=>QM l n a e q k d (bs.getD 0 0) aQ av (by omega) (by omega) (by omega) ao ak bo aF gd K (eF.up aB aV) (fun fg cc bZ b1 aT=>ab (fg,cc,bZ,b1) aT)) ?_
   rintro ⟨iq,mE,iU,jk⟩ lX
   dsimp only at lX
   have Q1:=lX.bw
   have Q2:=lX.ad
   have Q3:=lX.cm
   refine rt rfl fun _=>?_
   show K (.agg [.int .i64 iq.kind, .int .i64 iq.v.kind, .int .i64 iq.v.n, .str iq.v.s, .slice false (iq.v.l.map cj), .slice false (iq.v.f.map ct), .str iq.s, .str iq.t, .slice false (iq.a.map cx), .slice false (iq.n.map cS)]) (ae.bf m [(r, .cells [.slice false (l.map ch), .int .i64 mE, .int .i64 n, .err 115 iU, .int .i64 jk])])
   refine ab iq _ _ _ ?_
   rw [du,if_neg (dE (bU ao)),if_neg (dE (dZ ao)),if_neg (dE (fH ao)),if_neg (dE (fU ao)),if_neg (dE (rD aY ao)),if_neg (dE (rD bG ao))]
   exact lX
 exact absurd ao aa
end Go.Proofs
end
section
namespace Go.Proofs
open Go Go.ba Go.bV
set_option maxRecDepth 100000
set_option maxHeartbeats 2000000 in
theorem Hq (l:List Tok) (n a e q:Int) (k:Nat) (d:Int) (r:Nat) (av:l.length≤5000) (aG:0≤a) (aX:a≤l.length) (he:0≤e) (aO:e≠0∨(k=0∧d=7)) (m:ae) (gd:eE [r] m) (K:U→ae→Prop) (aV:eF m) (ab:∀bX cR cD cY,bx l (du l n k a) bX a e q cR cD cY→K (cy bX) (ae.bf m [(r, .cells [.slice false (l.map ch), .int .i64 cR, .int .i64 n, .err 115 cD, .int .i64 cY])])):bg Tryz.prog 127 [.ptr ⟨r,0,none⟩, .int .i64 d] (ae.bf m [(r, .cells [.slice false (l.map ch), .int .i64 a, .int .i64 n, .err 115 e, .int .i64 q])]) K:=by
 refine enter (c:=cX [] [] [] [] [] [r]) (vs:=[.loc 0 0, .aH (.int .i64 d)]) (L:=[bp l n a e q]) (m:=m) false b9 Tryz.mixed Tryz.func127 rfl (k:=2) (by show cu [] _ _ _=true;decide+kernel) rfl (gd.hn rfl) ?_
 refine az ?_
 refine ah (fun J=>?_) (fun J=>?_)
 · refine cF 115 [0] (σ:=Int×Int) (fun ⟨bQ,cf⟩=>(e=0→bQ=2∧cf=dm l n a)∧(e≠0→bQ=e∧cf=q)∧0<bQ) (fun ⟨bQ,cf⟩=> .dw []) (fun ⟨bQ,cf⟩=>[bp l n a bQ cf]) rfl (fun _=>rfl) (fun bs aF gd aB K ab=>oI l n a e q 2 (bs.getD 0 0) (by decide) av (by omega) (by omega) (by omega) aF gd K (fun z=>ab (2,dm l n a) ⟨fun _=>⟨rfl,rfl⟩,fun y=>absurd z y,by decide⟩) (fun z=>ab (e,q) ⟨fun y=>absurd y z,fun _=>⟨rfl,rfl⟩,by omega⟩)) ?_
   rintro ⟨bQ,cf⟩ bU
   dsimp only at bU
   obtain ⟨tl,qt,vZ⟩:=bU
   refine az ?_
   refine ah (fun aa=>?_) (fun aa=>?_)
   · exact absurd aa (by omega)
   refine gn [0] [bp l n a bQ cf] (iS hW) rfl (fun bs aF gd=>G9 l n a bQ cf d (bs.getD 0 0) av (by omega) (by omega) (by omega) (by omega) aF gd) ?_
   refine rt rfl fun _=>?_
   show K (.agg [.int .i64 hW.kind, .int .i64 hW.v.kind, .int .i64 hW.v.n, .str hW.v.s, .slice false (hW.v.l.map cj), .slice false (hW.v.f.map ct), .str hW.s, .str hW.t, .slice false (hW.a.map cx), .slice false (hW.n.map cS)]) (ae.bf m [(r, .cells [.slice false (l.map ch), .int .i64 a, .int .i64 n, .err 115 bQ, .int .i64 cf])])
   refine ab hW _ _ _ ?_
   by_cases ao:e=0
   · obtain ⟨rfl,_⟩:=aO.resolve_left (fun h=>h ao)
     rw [du]
     exact bx.bad _ aX tl qt vZ
   · obtain ⟨rfl,rfl⟩:=qt ao
     exact bx.stuck ao he aX
 refine az ?_
 refine ah (fun ai=>?_) (fun ai=>?_)
 · exact absurd ai (by omega)
 refine gn [0] [bp l n a e q] (iS hW) rfl (fun bs aF gd=>G9 l n a e q d (bs.getD 0 0) av (by omega) (by omega) (by omega) (by omega) aF gd) ?_
 refine rt rfl fun _=>?_
 show K (.agg [.int .i64 hW.kind, .int .i64 hW.v.kind, .int .i64 hW.v.n, .str hW.v.s, .slice false (hW.v.l.map cj), .slice false (hW.v.f.map ct), .str hW.s, .str hW.t, .slice false (hW.a.map cx), .slice false (hW.n.map cS)]) (ae.bf m [(r, .cells [.slice false (l.map ch), .int .i64 a, .int .i64 n, .err 115 e, .int .i64 q])])
 refine ab hW _ _ _ ?_
 exact bx.stuck (by omega) he aX
theorem wb (l:List Tok) (n:Int) (av:l.length≤5000) (hw:n3 l):∀(k:Nat),k≤7→∀a e q d:Int,d=7- (k:Int)→0≤a→a≤l.length→0≤e→∀(r:Nat) (m:ae),eE [r] m→eF m→∀(K:U→ae→Prop),(∀bX cR cD cY,bx l (du l n k a) bX a e q cR cD cY→K (cy bX) (ae.bf m [(r, .cells [.slice false (l.map ch), .int .i64 cR, .int .i64 n, .err 115 cD, .int .i64 cY])]))→bg Tryz.prog 127 [.ptr ⟨r,0,none⟩, .int .i64 d] (ae.bf m [(r, .cells [.slice false (l.map ch), .int .i64 a, .int .i64 n, .err 115 e, .int .i64 q])]) K
 |0,_=>fun a e q d bo aG aX he r m gd aV K ab=>Hq l n a e q 0 d r av aG aX he (.inr ⟨rfl,by omega⟩) m gd K aV ab
 |k+1,ak=>fun a e q d bo aG aX he r m gd aV K ab=>by
  by_cases ao:e=0
  · exact Rh l n a e q k d r (wb l n av hw k (by omega)) av aG aX he hw (by omega) (by omega) ao m gd K aV ab
  · exact Hq l n a e q (k+1) d r av aG aX he (.inl ao) m gd K aV ab
end Go.Proofs
end
section
namespace Go.Proofs
open Go Go.ba Go.bV
set_option maxRecDepth 100000
theorem Hr (f:UInt8→Bool):∀(l:aD),l.take (l.takeWhile f).length=l.takeWhile f
 |[]=>rfl
 |c::r=>by
  cases h:f c with
  |true=>simp only [List.takeWhile_cons,h,if_true,List.length_cons,List.take_succ_cons,Hr f r]
  |false=>simp [h]
theorem Ri (f:UInt8→Bool) (s:aD) {a:Int} (aG:0≤a):sub s a (ez f s a)=(s.drop a.toNat).takeWhile f:=by
 have e:(ez f s a- a).toNat=((s.drop a.toNat).takeWhile f).length:=by
  simp only [ez,runN];omega
 rw [sub,e,Hr]
theorem Hs (f:UInt8→Bool):∀(l:aD),∀c∈l.takeWhile f,f c=true
 |[],c,h=>by cases h
 |x::r,c,h=>by
  cases aq:f x with
  |true=>
   simp only [List.takeWhile_cons,aq,if_true,List.mem_cons] at h
   rcases h with rfl|h
   · exact aq
   · exact Hs f r c h
  |false=>simp [aq] at h
theorem Rj {s:aD} {a:Int} (aG:0≤a) (aX:a<s.length) (h:(gr s a).1=2):(gr s a).2.1≠[]∧(gr s a).2.1.length≤10∧∀c∈(gr s a).2.1,48≤c.toNat∧c.toNat≤57:=by
 unfold gr at h ⊢
 split at h
 · split at h<;>simp at h
 · rename_i J
   split at h
   · rename_i aa
     split at h
     · simp at h
     · rename_i ai
       rw [if_neg J,if_pos aa,if_neg ai]
       have e:=Ri ga s aG
       have av:(ez ga s a- a)=(((s.drop a.toNat).takeWhile ga).length:Int):=by
        simp only [ez,runN];omega
       refine ⟨?_,?_,?_⟩
       · rw [e]
         have bo:=iP aG aX
         rw [bo,List.takeWhile_cons,aa];simp
       · rw [e];show (List.takeWhile ga (List.drop a.toNat s)).length≤10;omega
       · rw [e];intro c ar
         have:=GW.1 (Hs ga _ c ar)
         omega
   · split at h
     · split at h<;>simp at h
     · split at h
       · simp at h
       · split at h<;>simp at h
theorem yg (s:aD):∀(n:Nat) (a:Int) (out:List Tok),0≤a→n3 out→n3 (hb n s a out).1
 |0,a,out,_,h=>by rw [hb];exact h
 |n+1,a,out,aG,h=>by
  rw [hb]
  split
  · rename_i aX
    split
    · exact yg s n _ _ (by omega) h
    · split
      · exact yg s n _ _ (by have:=th pA (s:=s) aG;omega) h
      · split
        · intro t aB;cases aB
        · rename_i ag
          have he:(gr s a).2.2.2=0:=by simpa using ag
          refine yg s n _ _ (by have:=(Ql aG aX he).1;omega) fun t aB aa=>?_
          rcases List.mem_append.1 aB with aB|aB
          · exact h t aB aa
          · rw [List.mem_singleton.1 aB] at aa ⊢
            exact Rj aG aX aa
  · exact h
theorem Rk (s:aD):n3 (e1 s).1:=by
 unfold e1
 split
 · intro t aB;cases aB
 · exact yg s _ _ _ (by omega) fun t aB=>by cases aB
end Go.Proofs
end
section
namespace Go.Proofs
open Go Go.ba Go.bV
set_option maxRecDepth 100000
mutual
def ec:ax→Int
 | .mk _ _ _ _ a _=>hO a+1
def hO:List ax→Int
 |[]=>0
 |e::r=>ec e+hO r
end
mutual
def gD:ax→Int
 | .mk _ _ _ _ a _=>j8 a+1
def j8:List ax→Int
 |[]=>0
 |e::r=>max (gD e) (j8 r)
end
theorem yh (e:ax):ec e=hO e.a+1:=by cases e with|mk k v s t a n=>simp only [ec,ax.a]
theorem Ht (e:ax):gD e=j8 e.a+1:=by cases e with|mk k v s t a n=>simp only [gD,ax.a]
theorem yi {l:List ax} {i:Int} (aG:0≤i) (ad:i<l.length):hO (l.drop i.toNat)=ec (I l i)+hO (l.drop (i+1).toNat):=by rw [iP aG ad,hO]
theorem Hu {l:List ax} {i:Int} (aG:0≤i) (ad:i<l.length):j8 (l.drop i.toNat)=max (gD (I l i)) (j8 (l.drop (i+1).toNat)):=by rw [iP aG ad,j8]
mutual
theorem rM:∀e:ax,1≤ec e∧ec e≤eg e∧1≤gD e∧gD e≤ec e
 | .mk k v s t a n=>by
   have h:=oJ a
   simp only [ec,gD,eg]
   omega
theorem oJ:∀l:List ax,0≤hO l∧hO l≤n1 l∧0≤j8 l∧j8 l≤hO l
 |[]=>by simp [hO,j8,n1]
 |e::r=>by
  have J:=rM e
  have aa:=oJ r
  simp only [hO,j8,n1]
  omega
end
set_option maxHeartbeats 1000000 in
theorem Rl (k:Nat) (e:ax) (aQ:∀x:ax,eg x<k→eg x≤1000000000→∀(m:ae) (K:U→ae→Prop),K (.tuple [.int .i64 (ec x), .int .i64 (gD x)]) m→bg Tryz.prog 55 [cy x] m K) (bo:eg e<k+1) (ag:eg e≤1000000000) (m:ae) (K:U→ae→Prop) (ab:K (.tuple [.int .i64 (ec e), .int .i64 (gD e)]) m):bg Tryz.prog 55 [cy e] m K:=by
 have aq:=rM e
 refine enter (c:=cX [] [0] [] [] [] []) (vs:=[.aH (cy e)]) (L:=[]) (m:=m) false b9 Tryz.mixed Tryz.func55 rfl (k:=1) (by show cu [] _ _ _=true;decide+kernel) rfl (Good.nil m) ?_
 refine ⟨fun bq=>?_⟩
 have jx:e.v.s.length≤140737488355328:=(bq 0 3 (Nat.le_of_ble_eq_true rfl))
 have lN:e.v.l.length≤140737488355328:=cN (bq 0 4 (Nat.le_of_ble_eq_true rfl))
 have rN:e.v.f.length≤140737488355328:=cN (bq 0 5 (Nat.le_of_ble_eq_true rfl))
 have rO:e.s.length≤140737488355328:=(bq 0 6 (Nat.le_of_ble_eq_true rfl))
 have rP:e.t.length≤140737488355328:=(bq 0 7 (Nat.le_of_ble_eq_true rfl))
 have rQ:e.a.length≤140737488355328:=cN (bq 0 8 (Nat.le_of_ble_eq_true rfl))
 have rR:e.n.length≤140737488355328:=cN (bq 0 9 (Nat.le_of_ble_eq_true rfl))
 refine az ?_
 refine b7 (σ:=Int×Int×Int) [] [1,4,5,6] 1 (fun ⟨fR,oK,i⟩=>([(1, .loc 0 0),(4,aj fR),(5,aj oK),(6,aj i)],[.cells [aj e.kind,aj e.v.kind,aj e.v.n,aw e.v.s,an (e.v.l.map cj),an (e.v.f.map ct),aw e.s,aw e.t,an (e.a.map cx),an (e.n.map cS)]],m)) (fun ⟨fR,oK,i⟩=>0≤i∧i≤e.a.length∧1≤fR∧0≤oK∧ec e=fR+hO (e.a.drop i.toNat)∧gD e=max oK (j8 (e.a.drop i.toNat))+1) (fun ⟨fR,oK,i⟩=>e.a.length- i.toNat) (1,0,0) ⟨rfl,rfl⟩ ?_ ?_
 · try dsimp only
   exact ⟨by omega,by omega,by omega,by omega,by rw [yh];show _=1+hO e.a;omega,by rw [Ht];show _=max 0 (j8 e.a)+1;have:=(oJ e.a).2.2.1;omega⟩
 rintro ⟨fR,oK,i⟩ ay
 dsimp only at ay
 refine az ?_
 refine br ?_
 refine ah (fun J=>?_) (fun J=>?_)
 · have ua:=yi ay.1 J
   have wC:=Hu ay.1 J
   have aU:=rM (I e.a i)
   have aO:=oJ (e.a.drop (i+1).toNat)
   refine az ?_
   refine gj cy e9 (by omega) ?_
   refine b2 (fun _=>aQ (I e.a i) (by have:=ns (cb (l:=e.a) (i:=i) ay.1 (by assumption));omega) (by have:=ns (cb (l:=e.a) (i:=i) ay.1 (by assumption));omega)) rfl ?_
   refine ah (by omega) ?_
   refine ah (by omega) ?_
   refine ⟨(fR+(ec (I e.a i)),if gD (I e.a i)>oK then gD (I e.a i) else oK,i+1),⟨rfl,rfl⟩,?_,?_⟩
   · try dsimp only
     refine ⟨by omega,by omega,by omega,?_,by omega,?_⟩<;>(first|omega|(split<;>omega))
   try dsimp only
   omega
 rw [List.drop_eq_nil_of_le (by omega)] at ay
 simp only [hO,j8] at ay
 refine ah (by omega) ?_
 refine bh rfl fun _=>?_
 show K (.tuple [.int .i64 fR, .int .i64 (oK+1)]) m
 rw [show ec e=fR by omega,show gD e=oK+1 by omega] at ab;exact ab
end Go.Proofs
end
section
namespace Go.Proofs
open Go Go.ba Go.bV
set_option maxRecDepth 100000
theorem Hv:∀(k:Nat) (e:ax),eg e<k→eg e≤1000000000→∀(m:ae) (K:U→ae→Prop),K (.tuple [.int .i64 (ec e), .int .i64 (gD e)]) m→bg Tryz.prog 55 [cy e] m K
 |0,_,h=>absurd h (Nat.not_lt_zero _)
 |k+1,e,h=>fun ag m K ab=>Rl k e (fun x aq nV=>Hv k x aq nV) h ag m K ab
theorem Rm (e:ax) (ag:eg e≤1000000000) (m:ae) (K:U→ae→Prop) (ab:K (.tuple [.int .i64 (ec e), .int .i64 (gD e)]) m):bg Tryz.prog 55 [cy e] m K:=Hv (eg e+1) e (Nat.lt_succ_self _) ag m K ab
set_option maxHeartbeats 1000000 in
theorem Rn (k:Nat) (e:ax) (d gE:Int) (p:Nat) (aQ:∀x:ax,eg x<k→∀d gE:Int,0≤d→d≤100→0≤gE→gE≤60→∀(p:Nat) (m:ae),eE [p] m→∀(K:U→ae→Prop),(∀fe,fe=gE- ec x∧gD x+d≤7∧ec x≤gE→K (.bool true) (ae.bf m [(p, .cells [.int .i64 fe])]))→(∀fe,¬(gD x+d≤7∧ec x≤gE)∧-1≤fe∧fe≤gE→K (.bool false) (ae.bf m [(p, .cells [.int .i64 fe])]))→bg Tryz.prog 59 [cy x, .int .i64 d, .ptr ⟨p,0,none⟩] (ae.bf m [(p, .cells [.int .i64 gE])]) K) (bo:eg e<k+1) (Ro:0≤d) (cM:d≤100) (bI:0≤gE) (gI:gE≤60) (m:ae) (gd:eE [p] m) (K:U→ae→Prop) (fj:∀fe,fe=gE- ec e∧gD e+d≤7∧ec e≤gE→K (.bool true) (ae.bf m [(p, .cells [.int .i64 fe])])) (ej:∀fe,¬(gD e+d≤7∧ec e≤gE)∧-1≤fe∧fe≤gE→K (.bool false) (ae.bf m [(p, .cells [.int .i64 fe])])):bg Tryz.prog 59 [cy e, .int .i64 d, .ptr ⟨p,0,none⟩] (ae.bf m [(p, .cells [.int .i64 gE])]) K:=by
 have Hw:=rM e
 have fD:=yh e
 have jS:=Ht e
 have k6:=oJ e.a
 refine enter (c:=cX [] [0] [2] [] [] [p]) (vs:=[.aH (cy e), .aH (.int .i64 d), .loc 0 0]) (L:=[.cells [aj gE]]) (m:=m) false b9 Tryz.mixed Tryz.func59 rfl (k:=3) (by show cu [] _ _ _=true;decide+kernel) rfl (gd.hn rfl) ?_
 refine ⟨fun bq=>?_⟩
 have jx:e.v.s.length≤140737488355328:=(bq 0 3 (Nat.le_of_ble_eq_true rfl))
 have lN:e.v.l.length≤140737488355328:=cN (bq 0 4 (Nat.le_of_ble_eq_true rfl))
 have rN:e.v.f.length≤140737488355328:=cN (bq 0 5 (Nat.le_of_ble_eq_true rfl))
 have rO:e.s.length≤140737488355328:=(bq 0 6 (Nat.le_of_ble_eq_true rfl))
 have rP:e.t.length≤140737488355328:=(bq 0 7 (Nat.le_of_ble_eq_true rfl))
 have rQ:e.a.length≤140737488355328:=cN (bq 0 8 (Nat.le_of_ble_eq_true rfl))
 have rR:e.n.length≤140737488355328:=cN (bq 0 9 (Nat.le_of_ble_eq_true rfl))
 refine ah (by omega) ?_
 refine az ?_
 refine cq [1,2,3] 21 ((decide (6<d))||(decide (gE- 1<0))) ?_ ?_
 · repeat' first
    |exact ⟨⟨_,rfl,by grind [bD.val]⟩,rfl⟩
    |refine ah (fun _=>?_) (fun _=>?_)
 refine ah (fun J=>?_) (fun J=>?_)
 · replace J:(6<d)∨(gE- 1<0):=((dj J).imp (fun q=>(of_decide_eq_true q)) (fun q=>(of_decide_eq_true q)))
   refine rt rfl fun _=>?_
   show K (.bool false) (ae.bf m [(p, .cells [.int .i64 (gE- 1)])])
   exact ej _ ⟨by omega,by omega,by omega⟩
 replace J:(d≤6)∧(0≤gE- 1):=⟨(Int.not_lt.1 (of_decide_eq_false (b8 J))),(Int.not_lt.1 (of_decide_eq_false (di J)))⟩
 refine az ?_
 refine br ?_
 refine b7 (σ:=Int×Int) [] [1,2,23,24,25] 2 (fun ⟨i,f2⟩=>([(1,aj d),(2, .loc 0 0),(23,an (e.a.map cx)),(24,aj (e.a.length:Int)),(25,aj i)],[.cells [aj f2], .cells [aj e.kind,aj e.v.kind,aj e.v.n,aw e.v.s,an (e.v.l.map cj),an (e.v.f.map ct),aw e.s,aw e.t,an (e.a.map cx),an (e.n.map cS)]],m)) (fun ⟨i,f2⟩=>0≤i∧i≤e.a.length∧0≤f2∧f2≤gE∧ec e=gE- f2+hO (e.a.drop i.toNat)∧gD e≤max (7- d) (j8 (e.a.drop i.toNat)+1)∧j8 (e.a.drop i.toNat)≤j8 e.a) (fun ⟨i,f2⟩=>e.a.length- i.toNat) (0,gE- 1) ⟨rfl,rfl⟩ ?_ ?_
 · try dsimp only
   exact ⟨by omega,by omega,by omega,by omega,by show _=_+hO e.a;omega,by show _≤max _ (j8 e.a+1);omega,Int.le_refl _⟩
 rintro ⟨i,f2⟩ ay
 dsimp only at ay
 refine az ?_
 refine ah (fun aa=>?_) (fun aa=>?_)
 · have s1:=yi ay.1 aa
   have s2:=Hu ay.1 aa
   have mS:=rM (I e.a i)
   have FI:=oJ (e.a.drop (i+1).toNat)
   refine az ?_
   refine gj cy e9 (by omega) ?_
   refine ah (by omega) ?_
   refine cF 115 [0] (σ:=(Int) ⊕ (Int)) (Sum.elim (fun hP=>hP=f2- ec (I e.a i)∧gD (I e.a i)+(d+1)≤7∧ec (I e.a i)≤f2) (fun hP=>¬(gD (I e.a i)+(d+1)≤7∧ec (I e.a i)≤f2)∧-1≤hP∧hP≤f2)) (Sum.elim (fun hP=> .b (.lit true)) (fun hP=> .b (.lit false))) (Sum.elim (fun hP=>[.cells [aj hP]]) (fun hP=>[.cells [aj hP]])) rfl (fun x=>by rcases x with _|_<;>rfl) (fun bs aF gd aB K ab=>aQ (I e.a i) (by have:=ns (cb (l:=e.a) (i:=i) ay.1 (by assumption));omega) (d+1) f2 (by omega) (by omega) (by omega) (by omega) (bs.getD 0 0) aF gd K (fun f aT=>ab (.inl f) aT) (fun f aT=>ab (.inr f) aT)) ?_
   rintro (hP|hP) bU
   · try dsimp only [Sum.elim_inl,Sum.elim_inr] at bU
     dsimp only [Sum.elim_inl,Sum.elim_inr]
     refine ah (by omega) ?_
     refine ⟨(i+1,hP),⟨rfl,rfl⟩,?_,?_⟩
     · try dsimp only
       (first|omega|(simp_all;done)|(simp_all;omega))
     try dsimp only
     omega
   try dsimp only [Sum.elim_inl,Sum.elim_inr] at bU
   dsimp only [Sum.elim_inl,Sum.elim_inr]
   refine rt rfl fun _=>?_
   show K (.bool false) (ae.bf m [(p, .cells [.int .i64 hP])])
   exact ej _ ⟨by omega,by omega,by omega⟩
 rw [List.drop_eq_nil_of_le (by omega)] at ay
 simp only [hO,j8] at ay
 refine rt rfl fun _=>?_
 show K (.bool true) (ae.bf m [(p, .cells [.int .i64 f2])])
 exact fj _ ⟨by omega,by omega,by omega⟩
end Go.Proofs
end
section
namespace Go.Proofs
open Go Go.ba Go.bV
set_option maxRecDepth 100000
theorem Hx:∀(k:Nat) (e:ax),eg e<k→∀d gE:Int,0≤d→d≤100→0≤gE→gE≤60→∀(p:Nat) (m:ae),eE [p] m→∀(K:U→ae→Prop),(∀fe,fe=gE- ec e∧gD e+d≤7∧ec e≤gE→K (.bool true) (ae.bf m [(p, .cells [.int .i64 fe])]))→(∀fe,¬(gD e+d≤7∧ec e≤gE)∧-1≤fe∧fe≤gE→K (.bool false) (ae.bf m [(p, .cells [.int .i64 fe])]))→bg Tryz.prog 59 [cy e, .int .i64 d, .ptr ⟨p,0,none⟩] (ae.bf m [(p, .cells [.int .i64 gE])]) K
 |0,_,h=>absurd h (Nat.not_lt_zero _)
 |k+1,e,h=>fun d gE aG J aa ai p m gd K fj ej=>Rn k e d gE p (fun x aq=>Hx k x aq) h aG J aa ai m gd K fj ej
def wc (l:List aD):Prop:=∀i:Int,0≤i→i<l.length→cr (I l i)=true∧(0<i→Op.bytesLess (I l (i- 1)) (I l i)=true)
structure Hy (e:ax) (many names:Int) (s t:Bool):Prop where
 h:(e.kind=1∧many=0∧names=0∧s=(e.s==[])∧t=(e.t==[]))∨(e.kind=2∧many=0∧names=0∧s=cr e.s∧t=(e.t==[]))∨((e.kind=3∨e.kind=4)∧many=0∧names=0∧s=cr e.s∧t=cr e.t)∨
  ((e.kind=5∨e.kind=6)∧many=2∧names=0∧s=(e.s==[])∧t=(e.t==[]))∨(e.kind=7∧many=3∧names=0∧s=(e.s==[])∧t=(e.t==[]))∨(e.kind=8∧many=e.a.length∧names=0∧s=(e.s==[])∧t=(e.t==[]))∨
  (e.kind=9∧wc e.n∧many=e.a.length∧names=e.a.length∧s=(e.s==[])∧t=(e.t==[]))∨(e.kind=10∧many=1∧names=0∧s=cr e.s∧t=(e.t==[]))
def fV (e:ax):Prop:=
 (e.kind=1∧e.s=[]∧e.t=[]∧(e.v.kind≤3∧b5 e.v=0)∧e.a=[]∧e.n=[])∨
 (e.v=eb∧((e.kind=2∧cr e.s=true∧e.t=[]∧e.a=[]∧e.n=[])∨((e.kind=3∨e.kind=4)∧cr e.s=true∧cr e.t=true∧e.a=[]∧e.n=[])∨((e.kind=5∨e.kind=6)∧e.s=[]∧e.t=[]∧e.a.length=2∧e.n=[])∨
   (e.kind=7∧e.s=[]∧e.t=[]∧e.a.length=3∧e.n=[])∨(e.kind=8∧e.s=[]∧e.t=[]∧e.n=[])∨(e.kind=9∧e.s=[]∧e.t=[]∧e.a.length=e.n.length∧wc e.n)∨(e.kind=10∧cr e.s=true∧e.t=[]∧e.a.length=1∧e.n=[])))
theorem fV.Hz {e:ax} {many names:Int} {s t:Bool} (w:Hy e many names s t):fV e↔s=true∧t=true∧((e.kind=1∧e.v.kind≤3∧b5 e.v=0)∨(e.kind≠1∧e.v=eb))∧(e.a.length:Int)=many∧(e.n.length:Int)=names:=by
 have hg:(e.a.length:Int)=0↔e.a=[]:=by rw [←List.length_eq_zero_iff];omega
 have gR:(e.n.length:Int)=0↔e.n=[]:=by rw [←List.length_eq_zero_iff];omega
 unfold fV
 rcases w.h with ⟨ak,rfl,rfl,rfl,rfl⟩|⟨ak,rfl,rfl,rfl,rfl⟩|⟨ak|ak,rfl,rfl,rfl,rfl⟩|⟨ak|ak,rfl,rfl,rfl,rfl⟩|⟨ak,rfl,rfl,rfl,rfl⟩|⟨ak,rfl,rfl,rfl,rfl⟩|⟨ak,aI,rfl,rfl,rfl,rfl⟩|⟨ak,rfl,rfl,rfl,rfl⟩<;>simp only [ak,hg,gR]<;>simp<;>grind
theorem fV.no {e:ax} (h:¬(1≤e.kind∧e.kind≤10)):¬fV e:=by
 unfold fV;omega
theorem fV.Rp {e:ax} (h:e.kind=9) (aI:¬wc e.n):¬fV e:=by
 unfold fV;simp only [h];simp [aI]
mutual
def lY:ax→Prop
 | .mk k v s t a n=>fV (.mk k v s t a n)∧hY a
def hY:List ax→Prop
 |[]=>True
 |e::r=>lY e∧hY r
end
theorem pC (e:ax):lY e↔fV e∧hY e.a:=by cases e with|mk k v s t a n=>simp only [lY,ax.a]
theorem Cg {l:List ax} {i:Int} (aG:0≤i) (ad:i<l.length):hY (l.drop i.toNat)↔lY (I l i)∧hY (l.drop (i+1).toNat):=by rw [iP aG ad,hY]
open Classical in
noncomputable def jl (e:ax):Int:=if lY e then 0 else 3
open Classical in
noncomputable def eS (e:ax):Int:=if 60<ec e∨6<gD e then 2 else jl e
theorem Ch (v:a7) (m:ae) (K:U→ae→Prop) (ab:K (.bool (decide (v.kind≤3)&&(b5 v==0))) m):bg Tryz.prog 78 [cZ v] m K:=by
 refine enter (c:=cX [] [] [1] [] [] []) (vs:=[.aH (cZ v)]) (L:=[]) (m:=m) false b9 Tryz.mixed Tryz.func78 rfl (k:=1) (by show cu [] _ _ _=true;decide+kernel) rfl (Good.nil m) ?_
 refine cq [] 2 ((decide (v.kind≤3))&&((b5 v)==0)) ?_ ?_
 · repeat' first
    |exact ⟨⟨_,rfl,by grind [bD.val]⟩,rfl⟩
    |refine ah (fun _=>?_) (fun _=>?_)
    |refine b2 (fun _=>PD v) rfl ?_
 exact bh rfl fun _=>ab
end Go.Proofs
end
section
namespace Go.Proofs
open Go Go.ba Go.bV
set_option maxRecDepth 100000
theorem tw {e:ax}:jl e=0↔lY e:=by unfold jl;split<;>simp [*]
theorem yj {e:ax} (h:lY e):jl e=0:=tw.2 h
theorem yk {e:ax} (h:¬lY e):jl e=3:=by unfold jl;rw [if_neg h]
theorem Rq {e:ax} (h:jl e≠0):jl e=3:=yk fun aT=>h (tw.2 aT)
theorem Ci {e:ax} (h:¬fV e):jl e=3:=yk fun aT=>h ((pC e).1 aT).1
theorem Rr {e:ax} {i:Int} (aG:0≤i) (ad:i<e.a.length) (aN:hY e.a↔hY (e.a.drop i.toNat)) (h:jl (I e.a i)≠0):jl e=jl (I e.a i):=by
 rw [Rq h]
 refine yk fun aT=>h (tw.2 ?_)
 exact ((Cg aG ad).1 (aN.1 ((pC e).1 aT).2)).1
theorem HA {e:ax} {i:Int} (aG:0≤i) (ad:i<e.a.length) (aN:hY e.a↔hY (e.a.drop i.toNat)) (h:jl (I e.a i)=0):hY e.a↔hY (e.a.drop (i+1).toNat):=
 aN.trans ((Cg aG ad).trans ⟨fun h=>h.2,fun aa=>⟨tw.1 h,aa⟩⟩)
theorem Rs {e:ax} {i:Int} (ad:(e.a.length:Int)≤i) (aN:hY e.a↔hY (e.a.drop i.toNat)) (h:fV e):jl e=0:=by
 rw [List.drop_eq_nil_of_le (by omega)] at aN
 exact yj ((pC e).2 ⟨h,aN.2 (by simp only [hY])⟩)
open Classical in
noncomputable def rS (e:ax):Bool:=decide (lY e)
theorem tx {e:ax}:rS e=true↔lY e:=by simp [rS]
theorem nx {v:a7}:v=eb↔v.kind=0∧v.n=0∧v.s=[]∧v.l=[]∧v.f=[]:=by
 cases v with
 |mk k n s l f=>simp [eb,a7.kind,a7.n,a7.s,a7.l,a7.f]
theorem lj {e:ax} (h:eS e=0):lY e∧ec e≤60∧gD e≤6:=by
 unfold eS at h
 split at h
 · cases h
 · rename_i aT
   exact ⟨tw.1 h,by omega,by omega⟩
theorem we (e:ax):0≤eS e:=by
 unfold eS jl;split
 · decide
 · split<;>decide
mutual
def dG:ax→Nat
 | .mk _ v _ _ a n=>bP v+n.length+gv a+1
def gv:List ax→Nat
 |[]=>0
 |e::r=>dG e+gv r
end
theorem yl (e:ax):dG e=bP e.v+e.n.length+gv e.a+1:=by
 cases e with
 |mk k v s t a n=>simp only [dG,ax.a,ax.v,ax.n]
theorem HB {l:List ax} {e:ax} (h:e∈l):dG e≤gv l:=by
 induction l with
 |nil=>cases h
 |cons a r aQ=>
  simp only [gv]
  rcases List.mem_cons.1 h with rfl|h
  · omega
  · have:=aQ h;omega
theorem Rt (l:List ax):l.length≤gv l:=by
 induction l with
 |nil=>simp
 |cons a r aQ=>simp only [gv,List.length_cons];have:=yl a;omega
theorem HC:∀(k:Nat) (e:ax),eg e<k→eg e≤dG e
 |0,_,h=>absurd h (Nat.not_lt_zero _)
 |k+1,e,h=>by
  have av:∀l:List ax,(∀x∈l,eg x≤dG x)→n1 l≤gv l:=fun l=>by
   induction l with
   |nil=>intro _;simp [gv,n1]
   |cons a r aQ=>
    intro aT
    simp only [gv,n1]
    have:=aT a (List.mem_cons_self ..)
    have:=aQ fun x aq=>aT x (List.mem_cons_of_mem _ aq)
    omega
  have:=av e.a fun x aq=>HC k x (by have:=ns aq;omega)
  rw [G6,yl];omega
theorem ny {e:ax} {b:Bool} (lZ:lY e↔fV e) (h:fV e↔b=true):rS e=b:=by
 rw [Bool.eq_iff_iff,tx,lZ];exact h
theorem HD {l:List aD} {i:Int} (h:∀j:Int,0≤j→j<i→cr (I l j)=true∧(0<j→Op.bytesLess (I l (j- 1)) (I l j)=true)) (J:cr (I l i)=true) (aa:0<i→Op.bytesLess (I l (i- 1)) (I l i)=true):
 ∀j:Int,0≤j→j<i+1→cr (I l j)=true∧(0<j→Op.bytesLess (I l (j- 1)) (I l j)=true):=fun j aG aA=>by
 rcases Int.lt_or_le j i with aT|aT
 · exact h j aG aT
 · obtain rfl:j=i:=by omega
   exact ⟨J,aa⟩
set_option maxHeartbeats 4000000 in
theorem Ru (k:Nat) (e:ax) (aQ:∀x:ax,eg x<k→∀(m:ae) (K:U→ae→Prop),K (.err 115 (jl x)) m→bg Tryz.prog 60 [cy x] m K) (bo:eg e<k+1) (m:ae) (K:U→ae→Prop) (ab:K (.err 115 (jl e)) m):bg Tryz.prog 60 [cy e] m K:=by
 refine enter (c:=cX [] [0,23] [23,28,29] [] [] []) (vs:=[.aH (cy e)]) (L:=[]) (m:=m) true b9 Tryz.mixed Tryz.func60 rfl (k:=1) (by show cu [] _ _ _=true;decide+kernel) rfl (Good.nil m) ?_
 refine ⟨fun bq=>?_⟩
 have jx:e.v.s.length≤140737488355328:=(bq 0 3 (Nat.le_of_ble_eq_true rfl))
 have lN:e.v.l.length≤140737488355328:=cN (bq 0 4 (Nat.le_of_ble_eq_true rfl))
 have rN:e.v.f.length≤140737488355328:=cN (bq 0 5 (Nat.le_of_ble_eq_true rfl))
 have rO:e.s.length≤140737488355328:=(bq 0 6 (Nat.le_of_ble_eq_true rfl))
 have rP:e.t.length≤140737488355328:=(bq 0 7 (Nat.le_of_ble_eq_true rfl))
 have rQ:e.a.length≤140737488355328:=cN (bq 0 8 (Nat.le_of_ble_eq_true rfl))
 have rR:e.n.length≤140737488355328:=cN (bq 0 9 (Nat.le_of_ble_eq_true rfl))
 refine sU (σ:=Int×Int×Bool×Bool) [(3,0),(4,0),(5,0),(6,0)] [1,3,4,5,6] 1 (fun ⟨iA,cm,rT,tb⟩=>([(1, .loc 0 0),(3,aj iA),(4,aj cm),(5,eY rT),(6,eY tb)],[.cells [aj e.kind,aj e.v.kind,aj e.v.n,aw e.v.s,an (e.v.l.map cj),an (e.v.f.map ct),aw e.s,aw e.t,an (e.a.map cx),an (e.n.map cS)]],m)) (fun ⟨iA,cm,rT,tb⟩=>Hy e iA cm rT tb) ?_ ?_
 · rintro ⟨iA,cm,rT,tb⟩ kS
   refine cq [1,3,4,5,6] 9 (((e.kind==1)&&(decide (e.v.kind≤3)&&(b5 e.v==0)))||((!(e.kind==1))&&(gT e.v eb))) ?_ ?_
   · repeat' first
      |exact ⟨⟨_,rfl,by grind [bD.val]⟩,rfl⟩
      |refine ah (fun _=>?_) (fun _=>?_)
      |refine b2 (fun _=>Ch e.v) rfl ?_
      |refine b2 (fun _=>PG e.v eb) rfl ?_
   refine az ?_
   refine cq [1] 130 (((((!rT)||(!tb))||(!(((e.kind==1)&&(decide (e.v.kind≤3)&&(b5 e.v==0)))||((!(e.kind==1))&&(gT e.v eb)))))||(!((e.a.length:Int)==iA)))||(!((e.n.length:Int)==cm))) ?_ ?_
   · repeat' first
      |exact ⟨⟨_,rfl,by grind [bD.val]⟩,rfl⟩
      |refine ah (fun _=>?_) (fun _=>?_)
      |refine br ?_
   refine ah (fun J=>?_) (fun J=>?_)
   · replace J:((((rT=false)∨(tb=false))∨(((e.kind≠1)∨((decide (e.v.kind≤3)&&(b5 e.v==0))=false))∧((e.kind=1)∨(gT e.v eb=false))))∨((e.a.length:Int)≠iA))∨((e.n.length:Int)≠cm):=((dj J).imp (fun q=>((dj q).imp (fun q=>((dj q).imp (fun q=>((dj q).imp (fun q=>(ds q)) (fun q=>(ds q)))) (fun q=>⟨((fl (b8 (ds q))).imp (fun q=>(ne_of_beq_false q)) (fun q=>q)),((fl (di (ds q))).imp (fun q=>(eq_of_beq (dn q))) (fun q=>q))⟩))) (fun q=>(ne_of_beq_false (ds q))))) (fun q=>(ne_of_beq_false (ds q))))
     refine bh rfl fun _=>?_
     show K (.err 115 3) m
     rw [Ci fun aT=>by have:=(fV.Hz kS).1 aT;have:=@rA e.v eb;grind] at ab;exact ab
   replace J:((((rT=true)∧(tb=true))∧(((e.kind=1)∧((decide (e.v.kind≤3)&&(b5 e.v==0))=true))∨((e.kind≠1)∧(gT e.v eb=true))))∧((e.a.length:Int)=iA))∧((e.n.length:Int)=cm):=⟨⟨⟨⟨(dn (b8 (b8 (b8 (b8 J))))),(dn (di (b8 (b8 (b8 J)))))⟩,((dj (dn (di (b8 (b8 J))))).imp (fun q=>⟨(eq_of_beq (eO q)),(fk q)⟩) (fun q=>⟨(ne_of_beq_false (ds (eO q))),(fk q)⟩))⟩,(eq_of_beq (dn (di (b8 J))))⟩,(eq_of_beq (dn (di J)))⟩
   have o4:fV e:=(fV.Hz kS).2 (by have:=@rA e.v eb;grind)
   refine az ?_
   refine br ?_
   refine b7 (σ:=Int) [] [133,134,135] 1 (fun i=>([(133,an (e.a.map cx)),(134,aj (e.a.length:Int)),(135,aj i)],[.cells [aj e.kind,aj e.v.kind,aj e.v.n,aw e.v.s,an (e.v.l.map cj),an (e.v.f.map ct),aw e.s,aw e.t,an (e.a.map cx),an (e.n.map cS)]],m)) (fun i=>0≤i∧i≤e.a.length∧(hY e.a↔hY (e.a.drop i.toNat))) (fun i=>e.a.length- i.toNat) (0) ⟨rfl,rfl⟩ ?_ ?_
   · try dsimp only
     exact ⟨by omega,by omega,Iff.rfl⟩
   rintro i ay
   refine az ?_
   refine ah (fun aa=>?_) (fun aa=>?_)
   · refine az ?_
     refine gj cy e9 (by omega) ?_
     refine b2 (fun _=>aQ (I e.a i) (by have:=ns (cb (l:=e.a) (i:=i) ay.1 (by assumption));omega)) rfl ?_
     refine ah (fun ai=>?_) (fun ai=>?_)
     · refine ah (by omega) ?_
       refine ⟨(i+1),⟨rfl,rfl⟩,?_,?_⟩
       · try dsimp only
         exact ⟨by omega,by omega,HA ay.1 (by assumption) ay.2.2 (by omega)⟩
       try dsimp only
       omega
     refine bh rfl fun _=>?_
     show K (.err 115 (jl (I e.a i))) m
     rw [Rr ay.1 (by assumption) ay.2.2 (by assumption)] at ab;exact ab
   refine bh rfl fun _=>?_
   show K (.err 115 0) m
   rw [Rs (by omega) ay.2.2 o4] at ab;exact ab
 refine ah (fun aJ=>?_) (fun aJ=>?_)
 · refine ⟨(0,0,(e.s==([])),(e.t==([]))),⟨rfl,rfl⟩,⟨.inl ⟨by assumption,rfl,rfl,rfl,rfl⟩⟩⟩
 refine ah (fun aY=>?_) (fun aY=>?_)
 · refine b2 (fun _=>qn e.s (by first|omega|exact rU)) rfl ?_
   refine ⟨(0,0,(cr e.s),(e.t==([]))),⟨rfl,rfl⟩,⟨.inr (.inl ⟨by assumption,rfl,rfl,rfl,rfl⟩)⟩⟩
 refine az ?_
 refine ah (fun bG=>?_) (fun bG=>?_)
 · refine ah (fun c7=>?_) (fun c7=>?_)
   · refine ih (fun _=>qn e.s (by first|omega|exact rU)) ?_
     refine ih (fun _=>qn e.t (by first|omega|exact rU)) ?_
     refine ⟨(0,0,(cr e.s),(cr e.t)),⟨rfl,rfl⟩,⟨.inr (.inr (.inl ⟨.inl (by assumption),rfl,rfl,rfl,rfl⟩))⟩⟩
   exact absurd bG c7
 refine ah (fun cV=>?_) (fun cV=>?_)
 · refine ih (fun _=>qn e.s (by first|omega|exact rU)) ?_
   refine ih (fun _=>qn e.t (by first|omega|exact rU)) ?_
   refine ⟨(0,0,(cr e.s),(cr e.t)),⟨rfl,rfl⟩,⟨.inr (.inr (.inl ⟨.inr (by assumption),rfl,rfl,rfl,rfl⟩))⟩⟩
 refine az ?_
 refine ah (fun cU=>?_) (fun cU=>?_)
 · refine ah (fun eH=>?_) (fun eH=>?_)
   · refine ⟨(2,0,(e.s==([])),(e.t==([]))),⟨rfl,rfl⟩,⟨.inr (.inr (.inr (.inl ⟨.inl (by assumption),rfl,rfl,rfl,rfl⟩)))⟩⟩
   exact absurd cU eH
 refine ah (fun fF=>?_) (fun fF=>?_)
 · refine ⟨(2,0,(e.s==([])),(e.t==([]))),⟨rfl,rfl⟩,⟨.inr (.inr (.inr (.inl ⟨.inr (by assumption),rfl,rfl,rfl,rfl⟩)))⟩⟩
 refine ah (fun hL=>?_) (fun hL=>?_)
 · refine ⟨(3,0,(e.s==([])),(e.t==([]))),⟨rfl,rfl⟩,⟨.inr (.inr (.inr (.inr (.inl ⟨by assumption,rfl,rfl,rfl,rfl⟩))))⟩⟩
 refine ah (fun hE=>?_) (fun hE=>?_)
 · refine br ?_
   refine ⟨((e.a.length:Int),0,(e.s==([])),(e.t==([]))),⟨rfl,rfl⟩,⟨.inr (.inr (.inr (.inr (.inr (.inl ⟨by assumption,rfl,rfl,rfl,rfl⟩)))))⟩⟩
 refine ah (fun Cj=>?_) (fun Cj=>?_)
 · refine br ?_
   refine br ?_
   refine br ?_
   refine b7 (σ:=Int) [] [1,3,4,5,6,57,58,59] 1 (fun i=>([(1, .loc 0 0),(3,aj (e.a.length:Int)),(4,aj (e.a.length:Int)),(5,eY (e.s==([]))),(6,eY (e.t==([]))),(57,an (e.n.map cS)),(58,aj (e.n.length:Int)),(59,aj i)],[.cells [aj e.kind,aj e.v.kind,aj e.v.n,aw e.v.s,an (e.v.l.map cj),an (e.v.f.map ct),aw e.s,aw e.t,an (e.a.map cx),an (e.n.map cS)]],m)) (fun i=>0≤i∧i≤e.n.length∧∀j:Int,0≤j→j<i→cr (I e.n j)=true∧(0<j→Op.bytesLess (I e.n (j- 1)) (I e.n j)=true)) (fun i=>e.n.length- i.toNat) (0) ⟨rfl,rfl⟩ ?_ ?_
   · try dsimp only
     exact ⟨by omega,by omega,fun j aG aA=>by omega⟩
   rintro i ay
   refine az ?_
   refine ah (fun qu=>?_) (fun qu=>?_)
   · refine az ?_
     refine ck (by omega) ?_
     refine ⟨fun Rv=>?_⟩
     have rU:(I e.n i).length≤140737488355328:=EF (f:=cS) (Rv 57).2 (cb ay.1 (by assumption)) 0 (Nat.succ_pos _)
     refine cq [1,3,4,5,6,57,58,59] 80 ((!(cr (I e.n i)))||((decide (0<i))&&(!(Op.bytesLess (I e.n (i- 1)) (I e.n i))))) ?_ ?_
     · repeat' first
        |exact ⟨⟨_,rfl,by grind [bD.val]⟩,rfl⟩
        |refine ah (fun _=>?_) (fun _=>?_)
        |refine b2 (fun _=>qn (I e.n i) (by first|omega|exact rU)) rfl ?_
        |refine ah (by omega) ?_
        |refine ck (by omega) ?_
     refine ah (fun qv=>?_) (fun qv=>?_)
     · replace qv:(cr (I e.n i)=false)∨((0<i)∧(Op.bytesLess (I e.n (i- 1)) (I e.n i)=false)):=((dj qv).imp (fun q=>(ds q)) (fun q=>⟨(of_decide_eq_true (eO q)),(ds (fk q))⟩))
       refine bh rfl fun _=>?_
       show K (.err 115 3) m
       rw [Ci (fV.Rp (by assumption) fun aT=>by have:=aT i ay.1 (by assumption);grind)] at ab;exact ab
     replace qv:(cr (I e.n i)=true)∧((i≤0)∨(Op.bytesLess (I e.n (i- 1)) (I e.n i)=true)):=⟨(dn (b8 qv)),((fl (di qv)).imp (fun q=>(Int.not_lt.1 (of_decide_eq_false q))) (fun q=>(dn q)))⟩
     refine ah (by omega) ?_
     refine ⟨(i+1),⟨rfl,rfl⟩,?_,?_⟩
     · try dsimp only
       exact ⟨by omega,by omega,HD ay.2.2 (by grind) (by grind)⟩
     try dsimp only
     omega
   refine ⟨((e.a.length:Int),(e.a.length:Int),(e.s==([])),(e.t==([]))),⟨rfl,rfl⟩,⟨.inr (.inr (.inr (.inr (.inr (.inr (.inl ⟨by assumption,fun j aG aA=>ay.2.2 j aG (by omega),rfl,rfl,rfl,rfl⟩))))))⟩⟩
 refine ah (fun Rw=>?_) (fun Rw=>?_)
 · refine b2 (fun _=>qn e.s (by first|omega|exact rU)) rfl ?_
   refine ⟨(1,0,(cr e.s),(e.t==([]))),⟨rfl,rfl⟩,⟨.inr (.inr (.inr (.inr (.inr (.inr (.inr ⟨by assumption,rfl,rfl,rfl,rfl⟩))))))⟩⟩
 refine bh rfl fun _=>?_
 show K (.err 115 3) m
 rw [Ci (fV.no (by omega))] at ab;exact ab
theorem HE:∀(k:Nat) (e:ax),eg e<k→∀(m:ae) (K:U→ae→Prop),K (.err 115 (jl e)) m→bg Tryz.prog 60 [cy e] m K
 |0,_,h=>absurd h (Nat.not_lt_zero _)
 |k+1,e,h=>fun m K ab=>Ru k e (fun x aq=>HE k x aq) h m K ab
set_option maxHeartbeats 4000000 in
theorem Rx (k:Nat) (e:ax) (aQ:∀x:ax,eg x<k→dG x≤1000000000→∀(m:ae) (K:U→ae→Prop),K (.bool (rS x)) m→bg Tryz.prog 56 [cy x] m K) (bo:eg e<k+1) (cJ:dG e≤1000000000) (m:ae) (K:U→ae→Prop) (ab:K (.bool (rS e)) m):bg Tryz.prog 56 [cy e] m K:=by
 have al:=yl e
 refine enter (c:=cX [] [0] [7,10,14,16,19,22,24,26,32,34,36] [] [] []) (vs:=[.aH (cy e)]) (L:=[]) (m:=m) false b9 Tryz.mixed Tryz.func56 rfl (k:=1) (by show cu [] _ _ _=true;decide+kernel) rfl (Good.nil m) ?_
 refine ⟨fun bq=>?_⟩
 have jx:e.v.s.length≤140737488355328:=(bq 0 3 (Nat.le_of_ble_eq_true rfl))
 have lN:e.v.l.length≤140737488355328:=cN (bq 0 4 (Nat.le_of_ble_eq_true rfl))
 have rN:e.v.f.length≤140737488355328:=cN (bq 0 5 (Nat.le_of_ble_eq_true rfl))
 have rO:e.s.length≤140737488355328:=(bq 0 6 (Nat.le_of_ble_eq_true rfl))
 have rP:e.t.length≤140737488355328:=(bq 0 7 (Nat.le_of_ble_eq_true rfl))
 have rQ:e.a.length≤140737488355328:=cN (bq 0 8 (Nat.le_of_ble_eq_true rfl))
 have rR:e.n.length≤140737488355328:=cN (bq 0 9 (Nat.le_of_ble_eq_true rfl))
 refine az ?_
 refine b7 (σ:=Int) [] [1,3] 1 (fun i=>([(1, .loc 0 0),(3,aj i)],[.cells [aj e.kind,aj e.v.kind,aj e.v.n,aw e.v.s,an (e.v.l.map cj),an (e.v.f.map ct),aw e.s,aw e.t,an (e.a.map cx),an (e.n.map cS)]],m)) (fun i=>0≤i∧i≤e.a.length∧(hY e.a↔hY (e.a.drop i.toNat))) (fun i=>e.a.length- i.toNat) (0) ⟨rfl,rfl⟩ ?_ ?_
 · try dsimp only
   exact ⟨by omega,by omega,Iff.rfl⟩
 rintro i ay
 refine az ?_
 refine br ?_
 refine ah (fun J=>?_) (fun J=>?_)
 · refine az ?_
   refine gj cy e9 (by omega) ?_
   refine b2 (fun _=>aQ (I e.a i) (by have:=ns (cb (l:=e.a) (i:=i) ay.1 (by assumption));omega) (by have:=HB (cb (l:=e.a) (i:=i) ay.1 (by assumption));omega)) rfl ?_
   refine ah (fun aa=>?_) (fun aa=>?_)
   · refine ah (by omega) ?_
     refine ⟨(i+1),⟨rfl,rfl⟩,?_,?_⟩
     · try dsimp only
       exact ⟨by omega,by omega,HA ay.1 (by assumption) ay.2.2 (tw.2 (tx.1 (by assumption)))⟩
     try dsimp only
     omega
   refine bh rfl fun _=>?_
   show K (.bool false) m
   have q:rS e=false:=by
    rw [Bool.eq_false_iff,ne_eq,tx,pC]
    intro aT
    have:=((Cg ay.1 (by assumption)).1 (ay.2.2.1 aT.2)).1
    rw [←tx] at this;simp_all
   rw [q] at ab;exact ab
 have lZ:lY e↔fV e:=by
  rw [pC]
  rw [List.drop_eq_nil_of_le (by omega)] at ay
  exact ⟨fun h=>h.1,fun h=>⟨h,ay.2.2.2 (by simp only [hY])⟩⟩
 refine cq [1] 5 (((((e.v.kind==0)&&(e.v.n==0))&&(e.v.s==([])))&&((e.v.l.length:Int)==0))&&((e.v.f.length:Int)==0)) ?_ ?_
 · repeat' first
    |exact ⟨⟨_,rfl,by grind [bD.val]⟩,rfl⟩
    |refine ah (fun _=>?_) (fun _=>?_)
    |refine br ?_
 refine b2 (fun _=>oG e.s) rfl ?_
 refine b2 (fun _=>oG e.t) rfl ?_
 refine cq [1,5,6,7] 8 ((e.s==([]))&&(e.t==([]))) ?_ ?_
 · repeat' first
    |exact ⟨⟨_,rfl,by grind [bD.val]⟩,rfl⟩
    |refine ah (fun _=>?_) (fun _=>?_)
 refine br ?_
 refine az ?_
 refine ah (fun ai=>?_) (fun ai=>?_)
 · refine cq [] 2 ((((((e.a.length:Int)==0)&&((e.n.length:Int)==0))&&((e.s==([]))&&(e.t==([]))))&&(decide (e.v.kind<4)))&&((b5 e.v)==0)) ?_ ?_
   · repeat' first
      |exact ⟨⟨_,rfl,by grind [bD.val]⟩,rfl⟩
      |refine ah (fun _=>?_) (fun _=>?_)
      |refine br ?_
      |refine b2 (fun _=>GL e.v (by omega)) rfl ?_
   refine bh rfl fun _=>?_
   show K (.bool ((((((e.a.length:Int)==0)&&((e.n.length:Int)==0))&&((e.s==([]))&&(e.t==([]))))&&(decide (e.v.kind<4)))&&((b5 e.v)==0))) m
   refine df ab (congrArg U.bool (ny lZ ?_))
   have ao:=@nx e.v
   have hg:=@List.length_eq_zero_iff _ e.a
   have gR:=@List.length_eq_zero_iff _ e.n
   have mv:=@List.length_eq_zero_iff _ e.v.l
   have mw:=@List.length_eq_zero_iff _ e.v.f
   have ak:e.kind=1:=by assumption
   have av:e.v.kind≤3↔e.v.kind<4:=by omega
   unfold fV
   simp only [ak,av]
   simp only [Bool.and_eq_true,beq_iff_eq,decide_eq_true_eq]
   simp
   grind
 refine ah (fun aJ=>?_) (fun aJ=>?_)
 · refine cq [] 2 (((((((((e.v.kind==0)&&(e.v.n==0))&&(e.v.s==([])))&&((e.v.l.length:Int)==0))&&((e.v.f.length:Int)==0))&&((e.a.length:Int)==0))&&((e.n.length:Int)==0))&&(cr e.s))&&(e.t==([]))) ?_ ?_
   · repeat' first
      |exact ⟨⟨_,rfl,by grind [bD.val]⟩,rfl⟩
      |refine ah (fun _=>?_) (fun _=>?_)
      |refine br ?_
   refine bh rfl fun _=>?_
   show K (.bool (((((((((e.v.kind==0)&&(e.v.n==0))&&(e.v.s==([])))&&((e.v.l.length:Int)==0))&&((e.v.f.length:Int)==0))&&((e.a.length:Int)==0))&&((e.n.length:Int)==0))&&(cr e.s))&&(e.t==([])))) m
   refine df ab (congrArg U.bool (ny lZ ?_))
   have ao:=@nx e.v
   have hg:=@List.length_eq_zero_iff _ e.a
   have gR:=@List.length_eq_zero_iff _ e.n
   have mv:=@List.length_eq_zero_iff _ e.v.l
   have mw:=@List.length_eq_zero_iff _ e.v.f
   unfold fV
   grind
 refine az ?_
 refine ah (fun aY=>?_) (fun aY=>?_)
 · refine ah (fun bG=>?_) (fun bG=>?_)
   · refine cq [] 2 (((((((((e.v.kind==0)&&(e.v.n==0))&&(e.v.s==([])))&&((e.v.l.length:Int)==0))&&((e.v.f.length:Int)==0))&&((e.a.length:Int)==0))&&((e.n.length:Int)==0))&&(cr e.s))&&(cr e.t)) ?_ ?_
     · repeat' first
        |exact ⟨⟨_,rfl,by grind [bD.val]⟩,rfl⟩
        |refine ah (fun _=>?_) (fun _=>?_)
        |refine br ?_
     refine bh rfl fun _=>?_
     show K (.bool (((((((((e.v.kind==0)&&(e.v.n==0))&&(e.v.s==([])))&&((e.v.l.length:Int)==0))&&((e.v.f.length:Int)==0))&&((e.a.length:Int)==0))&&((e.n.length:Int)==0))&&(cr e.s))&&(cr e.t))) m
     refine df ab (congrArg U.bool (ny lZ ?_))
     have ao:=@nx e.v
     have hg:=@List.length_eq_zero_iff _ e.a
     have gR:=@List.length_eq_zero_iff _ e.n
     have mv:=@List.length_eq_zero_iff _ e.v.l
     have mw:=@List.length_eq_zero_iff _ e.v.f
     unfold fV
     grind
   exact absurd aY bG
 refine ah (fun c7=>?_) (fun c7=>?_)
 · refine cq [] 2 (((((((((e.v.kind==0)&&(e.v.n==0))&&(e.v.s==([])))&&((e.v.l.length:Int)==0))&&((e.v.f.length:Int)==0))&&((e.a.length:Int)==0))&&((e.n.length:Int)==0))&&(cr e.s))&&(cr e.t)) ?_ ?_
   · repeat' first
      |exact ⟨⟨_,rfl,by grind [bD.val]⟩,rfl⟩
      |refine ah (fun _=>?_) (fun _=>?_)
      |refine br ?_
   refine bh rfl fun _=>?_
   show K (.bool (((((((((e.v.kind==0)&&(e.v.n==0))&&(e.v.s==([])))&&((e.v.l.length:Int)==0))&&((e.v.f.length:Int)==0))&&((e.a.length:Int)==0))&&((e.n.length:Int)==0))&&(cr e.s))&&(cr e.t))) m
   refine df ab (congrArg U.bool (ny lZ ?_))
   have ao:=@nx e.v
   have hg:=@List.length_eq_zero_iff _ e.a
   have gR:=@List.length_eq_zero_iff _ e.n
   have mv:=@List.length_eq_zero_iff _ e.v.l
   have mw:=@List.length_eq_zero_iff _ e.v.f
   unfold fV
   grind
 refine az ?_
 refine ah (fun cV=>?_) (fun cV=>?_)
 · refine ah (fun cU=>?_) (fun cU=>?_)
   · refine cq [] 2 ((((((((e.v.kind==0)&&(e.v.n==0))&&(e.v.s==([])))&&((e.v.l.length:Int)==0))&&((e.v.f.length:Int)==0))&&((e.a.length:Int)==2))&&((e.n.length:Int)==0))&&((e.s==([]))&&(e.t==([])))) ?_ ?_
     · repeat' first
        |exact ⟨⟨_,rfl,by grind [bD.val]⟩,rfl⟩
        |refine ah (fun _=>?_) (fun _=>?_)
        |refine br ?_
     refine bh rfl fun _=>?_
     show K (.bool ((((((((e.v.kind==0)&&(e.v.n==0))&&(e.v.s==([])))&&((e.v.l.length:Int)==0))&&((e.v.f.length:Int)==0))&&((e.a.length:Int)==2))&&((e.n.length:Int)==0))&&((e.s==([]))&&(e.t==([]))))) m
     refine df ab (congrArg U.bool (ny lZ ?_))
     have ao:=@nx e.v
     have hg:=@List.length_eq_zero_iff _ e.a
     have gR:=@List.length_eq_zero_iff _ e.n
     have mv:=@List.length_eq_zero_iff _ e.v.l
     have mw:=@List.length_eq_zero_iff _ e.v.f
     unfold fV
     grind
   exact absurd cV cU
 refine ah (fun eH=>?_) (fun eH=>?_)
 · refine cq [] 2 ((((((((e.v.kind==0)&&(e.v.n==0))&&(e.v.s==([])))&&((e.v.l.length:Int)==0))&&((e.v.f.length:Int)==0))&&((e.a.length:Int)==2))&&((e.n.length:Int)==0))&&((e.s==([]))&&(e.t==([])))) ?_ ?_
   · repeat' first
      |exact ⟨⟨_,rfl,by grind [bD.val]⟩,rfl⟩
      |refine ah (fun _=>?_) (fun _=>?_)
      |refine br ?_
   refine bh rfl fun _=>?_
   show K (.bool ((((((((e.v.kind==0)&&(e.v.n==0))&&(e.v.s==([])))&&((e.v.l.length:Int)==0))&&((e.v.f.length:Int)==0))&&((e.a.length:Int)==2))&&((e.n.length:Int)==0))&&((e.s==([]))&&(e.t==([]))))) m
   refine df ab (congrArg U.bool (ny lZ ?_))
   have ao:=@nx e.v
   have hg:=@List.length_eq_zero_iff _ e.a
   have gR:=@List.length_eq_zero_iff _ e.n
   have mv:=@List.length_eq_zero_iff _ e.v.l
   have mw:=@List.length_eq_zero_iff _ e.v.f
   unfold fV
   grind
 refine ah (fun fF=>?_) (fun fF=>?_)
 · refine cq [] 2 ((((((((e.v.kind==0)&&(e.v.n==0))&&(e.v.s==([])))&&((e.v.l.length:Int)==0))&&((e.v.f.length:Int)==0))&&((e.a.length:Int)==3))&&((e.n.length:Int)==0))&&((e.s==([]))&&(e.t==([])))) ?_ ?_
   · repeat' first
      |exact ⟨⟨_,rfl,by grind [bD.val]⟩,rfl⟩
      |refine ah (fun _=>?_) (fun _=>?_)
      |refine br ?_
   refine bh rfl fun _=>?_
   show K (.bool ((((((((e.v.kind==0)&&(e.v.n==0))&&(e.v.s==([])))&&((e.v.l.length:Int)==0))&&((e.v.f.length:Int)==0))&&((e.a.length:Int)==3))&&((e.n.length:Int)==0))&&((e.s==([]))&&(e.t==([]))))) m
   refine df ab (congrArg U.bool (ny lZ ?_))
   have ao:=@nx e.v
   have hg:=@List.length_eq_zero_iff _ e.a
   have gR:=@List.length_eq_zero_iff _ e.n
   have mv:=@List.length_eq_zero_iff _ e.v.l
   have mw:=@List.length_eq_zero_iff _ e.v.f
   unfold fV
   grind
 refine ah (fun hL=>?_) (fun hL=>?_)
 · refine cq [] 2 (((((((e.v.kind==0)&&(e.v.n==0))&&(e.v.s==([])))&&((e.v.l.length:Int)==0))&&((e.v.f.length:Int)==0))&&((e.n.length:Int)==0))&&((e.s==([]))&&(e.t==([])))) ?_ ?_
   · repeat' first
      |exact ⟨⟨_,rfl,by grind [bD.val]⟩,rfl⟩
      |refine ah (fun _=>?_) (fun _=>?_)
   refine bh rfl fun _=>?_
   show K (.bool (((((((e.v.kind==0)&&(e.v.n==0))&&(e.v.s==([])))&&((e.v.l.length:Int)==0))&&((e.v.f.length:Int)==0))&&((e.n.length:Int)==0))&&((e.s==([]))&&(e.t==([]))))) m
   refine df ab (congrArg U.bool (ny lZ ?_))
   have ao:=@nx e.v
   have hg:=@List.length_eq_zero_iff _ e.a
   have gR:=@List.length_eq_zero_iff _ e.n
   have mv:=@List.length_eq_zero_iff _ e.v.l
   have mw:=@List.length_eq_zero_iff _ e.v.f
   unfold fV
   grind
 refine ah (fun hE=>?_) (fun hE=>?_)
 · refine az ?_
   refine b7 (σ:=Int) [] [1,5,8,10] 1 (fun i2=>([(1, .loc 0 0),(5,eY (((((e.v.kind==0)&&(e.v.n==0))&&(e.v.s==([])))&&((e.v.l.length:Int)==0))&&((e.v.f.length:Int)==0))),(8,eY ((e.s==([]))&&(e.t==([])))),(10,aj i2)],[.cells [aj e.kind,aj e.v.kind,aj e.v.n,aw e.v.s,an (e.v.l.map cj),an (e.v.f.map ct),aw e.s,aw e.t,an (e.a.map cx),an (e.n.map cS)]],m)) (fun i2=>0≤i2∧i2≤e.n.length∧∀j:Int,0≤j→j<i2→cr (I e.n j)=true∧(0<j→Op.bytesLess (I e.n (j- 1)) (I e.n j)=true)) (fun i2=>e.n.length- i2.toNat) (0) ⟨rfl,rfl⟩ ?_ ?_
   · try dsimp only
     exact ⟨by omega,by omega,fun j aG aA=>by omega⟩
   rintro i2 a1
   refine az ?_
   refine br ?_
   refine ah (fun Cj=>?_) (fun Cj=>?_)
   · refine az ?_
     refine ck (by omega) ?_
     refine b2 (fun _=>oG (I e.n i2)) rfl ?_
     refine cq [1,5,8,10] 214 ((!(cr (I e.n i2)))||((decide (0<i2))&&(!(Op.bytesLess (I e.n (i2- 1)) (I e.n i2))))) ?_ ?_
     · repeat' first
        |exact ⟨⟨_,rfl,by grind [bD.val]⟩,rfl⟩
        |refine ah (fun _=>?_) (fun _=>?_)
        |refine ah (by omega) ?_
        |refine ck (by omega) ?_
     refine ah (fun qu=>?_) (fun qu=>?_)
     · replace qu:(cr (I e.n i2)=false)∨((0<i2)∧(Op.bytesLess (I e.n (i2- 1)) (I e.n i2)=false)):=((dj qu).imp (fun q=>(ds q)) (fun q=>⟨(of_decide_eq_true (eO q)),(ds (fk q))⟩))
       refine bh rfl fun _=>?_
       show K (.bool false) m
       refine df ab (congrArg U.bool (ny lZ ?_))
       have ao:=@nx e.v
       have hg:=@List.length_eq_zero_iff _ e.a
       have gR:=@List.length_eq_zero_iff _ e.n
       have mv:=@List.length_eq_zero_iff _ e.v.l
       have mw:=@List.length_eq_zero_iff _ e.v.f
       have tz:¬wc e.n:=fun aT=>by have:=aT i2 a1.1 (by assumption);grind
       unfold fV
       grind
     replace qu:(cr (I e.n i2)=true)∧((i2≤0)∨(Op.bytesLess (I e.n (i2- 1)) (I e.n i2)=true)):=⟨(dn (b8 qu)),((fl (di qu)).imp (fun q=>(Int.not_lt.1 (of_decide_eq_false q))) (fun q=>(dn q)))⟩
     refine ah (by omega) ?_
     refine ⟨(i2+1),⟨rfl,rfl⟩,?_,?_⟩
     · try dsimp only
       exact ⟨by omega,by omega,HD a1.2.2 (by grind) (by grind)⟩
     try dsimp only
     omega
   refine cq [] 2 (((((((e.v.kind==0)&&(e.v.n==0))&&(e.v.s==([])))&&((e.v.l.length:Int)==0))&&((e.v.f.length:Int)==0))&&((e.a.length:Int)==(e.n.length:Int)))&&((e.s==([]))&&(e.t==([])))) ?_ ?_
   · repeat' first
      |exact ⟨⟨_,rfl,by grind [bD.val]⟩,rfl⟩
      |refine ah (fun _=>?_) (fun _=>?_)
      |refine br ?_
   refine bh rfl fun _=>?_
   show K (.bool (((((((e.v.kind==0)&&(e.v.n==0))&&(e.v.s==([])))&&((e.v.l.length:Int)==0))&&((e.v.f.length:Int)==0))&&((e.a.length:Int)==(e.n.length:Int)))&&((e.s==([]))&&(e.t==([]))))) m
   refine df ab (congrArg U.bool (ny lZ ?_))
   have ao:=@nx e.v
   have hg:=@List.length_eq_zero_iff _ e.a
   have gR:=@List.length_eq_zero_iff _ e.n
   have mv:=@List.length_eq_zero_iff _ e.v.l
   have mw:=@List.length_eq_zero_iff _ e.v.f
   have tz:wc e.n:=fun j aG aA=>a1.2.2 j aG (by omega)
   unfold fV
   grind
 refine ah (fun qv=>?_) (fun qv=>?_)
 · refine cq [] 2 (((((((((e.v.kind==0)&&(e.v.n==0))&&(e.v.s==([])))&&((e.v.l.length:Int)==0))&&((e.v.f.length:Int)==0))&&((e.a.length:Int)==1))&&((e.n.length:Int)==0))&&(cr e.s))&&(e.t==([]))) ?_ ?_
   · repeat' first
      |exact ⟨⟨_,rfl,by grind [bD.val]⟩,rfl⟩
      |refine ah (fun _=>?_) (fun _=>?_)
      |refine br ?_
   refine bh rfl fun _=>?_
   show K (.bool (((((((((e.v.kind==0)&&(e.v.n==0))&&(e.v.s==([])))&&((e.v.l.length:Int)==0))&&((e.v.f.length:Int)==0))&&((e.a.length:Int)==1))&&((e.n.length:Int)==0))&&(cr e.s))&&(e.t==([])))) m
   refine df ab (congrArg U.bool (ny lZ ?_))
   have ao:=@nx e.v
   have hg:=@List.length_eq_zero_iff _ e.a
   have gR:=@List.length_eq_zero_iff _ e.n
   have mv:=@List.length_eq_zero_iff _ e.v.l
   have mw:=@List.length_eq_zero_iff _ e.v.f
   unfold fV
   grind
 refine bh rfl fun _=>?_
 show K (.bool false) m
 refine df ab (congrArg U.bool (ny lZ ?_))
 have ao:=@nx e.v
 have hg:=@List.length_eq_zero_iff _ e.a
 have gR:=@List.length_eq_zero_iff _ e.n
 have mv:=@List.length_eq_zero_iff _ e.v.l
 have mw:=@List.length_eq_zero_iff _ e.v.f
 unfold fV
 grind
theorem HF:∀(k:Nat) (e:ax),eg e<k→dG e≤1000000000→∀(m:ae) (K:U→ae→Prop),K (.bool (rS e)) m→bg Tryz.prog 56 [cy e] m K
 |0,_,h=>absurd h (Nat.not_lt_zero _)
 |k+1,e,h=>fun ao m K ab=>Rx k e (fun x aq aK=>HF k x aq aK) h ao m K ab
theorem Ry (e:ax):eg e≤dG e:=HC _ e (Nat.lt_succ_self _)
theorem HG {e:ax} (h:¬(gD e+1≤7∧ec e≤60)):eS e=2:=by unfold eS;rw [if_pos (by omega)]
theorem wg {e:ax} (h:gD e+1≤7∧ec e≤60):eS e=jl e:=by unfold eS;rw [if_neg (by omega)]
set_option maxHeartbeats 1000000 in
theorem ym (e:ax) (m:ae) (K:U→ae→Prop) (ab:K (.err 115 (eS e)) m):bg Tryz.prog 14 [cy e] m K:=by
 refine enter (c:=cX [] [] [] [] [] []) (vs:=[.aH (cy e)]) (L:=[]) (m:=m) true b9 Tryz.mixed Tryz.func14 rfl (k:=1) (by show cu [] _ _ _=true;decide+kernel) rfl (Good.nil m) ?_
 refine az ?_
 refine cF 115 [1] (σ:=(Int) ⊕ (Int)) (Sum.elim (fun hP=>hP=60- ec e∧gD e+1≤7∧ec e≤60) (fun hP=>¬(gD e+1≤7∧ec e≤60)∧-1≤hP∧hP≤60)) (Sum.elim (fun hP=> .b (.lit true)) (fun hP=> .b (.lit false))) (Sum.elim (fun hP=>[.cells [aj hP]]) (fun hP=>[.cells [aj hP]])) rfl (fun x=>by rcases x with _|_<;>rfl) (fun bs aF gd aB K ab=>Hx (eg e+1) e (Nat.lt_succ_self _) 1 60 (by omega) (by omega) (by omega) (by omega) (bs.getD 1 0) aF gd K (fun f aT=>ab (.inl f) aT) (fun f aT=>ab (.inr f) aT)) ?_
 rintro (hP|hP) bU
 · try dsimp only [Sum.elim_inl,Sum.elim_inr] at bU
   dsimp only [Sum.elim_inl,Sum.elim_inr]
   refine b2 (fun _=>HE (eg e+1) e (Nat.lt_succ_self _)) rfl ?_
   refine bh rfl fun _=>?_
   show K (.err 115 (jl e)) m
   rw [wg ⟨bU.2.1,bU.2.2⟩] at ab;exact ab
 try dsimp only [Sum.elim_inl,Sum.elim_inr] at bU
 dsimp only [Sum.elim_inl,Sum.elim_inr]
 refine bh rfl fun _=>?_
 show K (.err 115 2) m
 rw [HG bU.1] at ab;exact ab
set_option maxHeartbeats 1000000 in
theorem HH (e:ax) (cJ:dG e≤1000000000) (m:ae) (K:U→ae→Prop) (ab:K (.int .i64 (eS e)) m):bg Tryz.prog 11 [cy e] m K:=by
 have U7:=Ry e
 refine enter (c:=cX [] [] [2] [] [] []) (vs:=[.aH (cy e)]) (L:=[]) (m:=m) false b9 Tryz.mixed Tryz.func11 rfl (k:=1) (by show cu [] _ _ _=true;decide+kernel) rfl (Good.nil m) ?_
 refine b2 (fun _=>Rm e (by omega)) rfl ?_
 refine az ?_
 refine cq [1] 16 ((decide (60<ec e))||(decide (6<gD e))) ?_ ?_
 · repeat' first
    |exact ⟨⟨_,rfl,by grind [bD.val]⟩,rfl⟩
    |refine ah (fun _=>?_) (fun _=>?_)
 refine ah (fun J=>?_) (fun J=>?_)
 · replace J:(60<ec e)∨(6<gD e):=((dj J).imp (fun q=>(of_decide_eq_true q)) (fun q=>(of_decide_eq_true q)))
   refine bh rfl fun _=>?_
   show K (.int .i64 2) m
   rw [HG (by omega)] at ab;exact ab
 replace J:(ec e≤60)∧(gD e≤6):=⟨(Int.not_lt.1 (of_decide_eq_false (b8 J))),(Int.not_lt.1 (of_decide_eq_false (di J)))⟩
 refine b2 (fun _=>HF (eg e+1) e (Nat.lt_succ_self _) cJ) rfl ?_
 refine az ?_
 refine ah (fun aa=>?_) (fun aa=>?_)
 · refine bh rfl fun _=>?_
   show K (.int .i64 0) m
   rw [wg (by omega),yj (tx.1 aa)] at ab;exact ab
 refine bh rfl fun _=>?_
 show K (.int .i64 3) m
 rw [wg (by omega),yk (fun aT=>by rw [tx.2 aT] at aa;cases aa)] at ab;exact ab
end Go.Proofs
end
section
namespace Go.Proofs
open Go Go.ba Go.bV
set_option maxRecDepth 100000
def Rz (k:Int):aD:=(Ey (z8 (z8 ([]:List (Int×aD)) 5 [32,43,32]) 6 [32,61,61,32]) k).getD []
def pD:Nat→ax→aD
 |0,_=>[]
 |k+1,e=>
  if e.kind=1 then PY e.v
  else if e.kind=2 then [105,110,46]++e.s
  else if e.kind=3 then [114,101,115,46]++e.s++[46]++e.t
  else if e.kind=4 then [115,116,97,99,107,46]++e.s++[46]++e.t
  else if e.kind=5∨e.kind=6 then [40]++pD k (I e.a 0)++Rz e.kind++pD k (I e.a 1)++[41]
  else if e.kind=7 then [40]++pD k (I e.a 0)++[32,63,32]++pD k (I e.a 1)++[32,58,32]++pD k (I e.a 2)++[41]
  else if e.kind=8 then [91]++tf (pD k) e.a true++[93]
  else if e.kind=9 then [123]++tf (fun p:aD×ax=>p.1++[58,32]++pD k p.2) (e.n.zip e.a) true++[125]
  else if e.kind=10 then [103,101,116,32]++pD k (I e.a 0)++[32]++e.s
  else []
attribute [irreducible] pD
end Go.Proofs
end
section
namespace Go.Proofs
open Go Go.ba Go.bV
set_option maxRecDepth 100000
structure eT {α:Type} (w:α→Nat) (p:bR α) (a:Int):Prop where
 h:p.f=0→4*a+(w p.x:Int)≤4*p.a
 n:0≤p.f
section
variable {α β:Type} {u:α→Nat} {w:β→Nat} {a b:Int}
theorem eT.no [Inhabited α] {f s:Int} (h:0<f):eT u (.bad f s:bR α) a:=⟨fun e=>absurd (show f=0 from e) (by omega),show 0≤f by omega⟩
theorem eT.yes {x:α} (h:4*a+(u x:Int)≤4*b):eT u (.ok x b) a:=⟨fun _=>h,Int.le_refl _⟩
theorem eT.bind [Inhabited β] {p:bR α} {g:α→Int→bR β} (h:eT u p b) (aa:∀x cn,4*b+(u x:Int)≤4*cn→eT w (g x cn) a):eT w (p.bind g) a:=by
 rw [bR.bind]
 split
 · exact aa _ _ (h.h (by assumption))
 · rename_i ao;exact eT.no (by have:=h.n;omega)
end
theorem l0 (l:List Tok) (n k:Int) (s:aD) (a:Int):eT (fun _=>4) (cK l n k s a) a:=by
 rw [cK];split
 · exact eT.yes (by simp;omega)
 · exact eT.no (by decide)
theorem HI (l:List Tok) (n a:Int):eT (fun _=>4) (rE l n a) a:=by
 rw [rE]
 refine (l0 ..).bind fun _ cn J=>(l0 ..).bind fun _ a2 aa=>(l0 ..).bind fun _ a3 ai=>(l0 ..).bind fun _ a4 aJ=>eT.yes ?_
 omega
theorem HJ (x y:List ax):gv (x++y)=gv x+gv y:=by
 induction x with
 |nil=>simp [gv]
 |cons a r aQ=>simp only [List.cons_append,gv,aQ];omega
theorem pE:bP eb=1:=by simp [eb,bP,ld,lM]
theorem oL (k n:Int) (s:aD):dG (lf (.mk k n s [] []))=2:=by simp [lf,dG,gv,bP,ld,lM]
section
variable {f:Int→bR ax} (aN:∀a,eT dG (f a) a) (l:List Tok) (n:Int)
include aN
theorem RA (a c:Int) (ar:c+1≤a):eT dG (pB f l n a) c:=by
 rw [pB]
 refine (aN a).bind fun x cn J=>?_
 split
 · refine (aN _).bind fun y a2 aa=>(l0 ..).bind fun _ a3 ai=>eT.yes ?_
   simp only [dG,gv,pE,List.length_nil] at ai ⊢;omega
 split
 · refine (aN _).bind fun y a2 aa=>(l0 ..).bind fun _ a3 ai=>eT.yes ?_
   simp only [dG,gv,pE,List.length_nil] at ai ⊢;omega
 split
 · refine (aN _).bind fun y a2 aa=>(l0 ..).bind fun _ a3 ai=>(aN _).bind fun z a4 aJ=>(l0 ..).bind fun _ a5 aY=>eT.yes ?_
   simp only [dG,gv,pE,List.length_nil] at ai aY ⊢;omega
 · exact eT.no (by decide)
omit aN in
theorem HK {xs:List ax} {a c:Int} {g:Int→bR ax} (bl:∀b,a≤b→eT dG (g b) c):eT dG (nu l n xs a g) c:=by
 rw [nu];split
 · exact bl _ (Int.le_refl _)
 · exact (l0 ..).bind fun _ cn J=>bl _ (by omega)
theorem HL:∀(k:Nat) (a:Int) (xs:List ax) (c:Int),4*c+(gv xs:Int)+2≤4*a→eT dG (nv f l n k a xs) c
 |0,_,_,_,_=>eT.no (by decide)
 |k+1,a,xs,c,ar=>by
  rw [nv];split
  · refine eT.yes ?_
    simp only [dG,pE,List.length_nil];omega
  · refine HK l n fun b ag=>(aN _).bind fun x cn J=>HL k _ _ _ ?_
    rw [HJ];simp only [gv];omega
theorem HM:∀(k:Nat) (a:Int) (dd:List aD) (xs:List ax) (c:Int),4*c+(gv xs:Int)+(dd.length:Int)+2≤4*a→eT dG (lg f l n k a dd xs) c
 |0,_,_,_,_,_=>eT.no (by decide)
 |k+1,a,dd,xs,c,ar=>by
  rw [lg];split
  · refine eT.yes ?_
    simp only [dG,pE];omega
  · refine HK l n fun b ag=>(l0 ..).bind fun _ cn J=>?_
    split
    · exact eT.no (by decide)
    · refine (l0 ..).bind fun _ a2 aa=>(aN _).bind fun x a3 ai=>HM k _ _ _ _ ?_
      rw [HJ];simp only [gv,List.length_append,List.length_cons,List.length_nil];omega
theorem RB (a:Int):eT dG (mz f l n a) a:=by
 rw [mz]
 split
 · exact eT.yes (by first|(rw [oL];omega)|(have:=oL 0 0 [];simp only [eb];omega))
 split
 · exact eT.yes (by first|(rw [oL];omega)|(have:=oL 0 0 [];simp only [eb];omega))
 split
 · exact eT.yes (by first|(rw [oL];omega)|(have:=oL 0 0 [];simp only [eb];omega))
 split
 · exact (l0 ..).bind fun _ cn J=>(l0 ..).bind fun _ a2 aa=>eT.yes (by simp only [dG,gv,pE,List.length_nil];omega)
 split
 · exact (HI ..).bind fun _ cn J=>eT.yes (by simp only [dG,gv,pE,List.length_nil];omega)
 split
 · exact (HI ..).bind fun _ cn J=>eT.yes (by simp only [dG,gv,pE,List.length_nil];omega)
 split
 · exact (aN _).bind fun _ cn J=>(l0 ..).bind fun _ a2 aa=>eT.yes (by simp only [dG,gv,pE,List.length_nil];omega)
 · exact eT.no (by decide)
end
theorem HN (l:List Tok) (n eR a:Int):eT dG (n4 l n eR a) a:=by
 rw [n4]
 split
 · split
   · exact eT.no (by decide)
   · exact eT.yes (by first|(rw [oL];omega)|(have:=oL 0 0 [];simp only [eb];omega))
 · exact eT.no (by decide)
theorem eT.from {p:bR ax} {a b:Int} (h:eT dG p a) (ag:b≤a):eT dG p b:=⟨fun z=>by have:=h.h z;omega,h.n⟩
theorem HO (l:List Tok) (n:Int):∀(k:Nat) (a:Int),eT dG (du l n k a) a
 |0,_=>eT.no (by decide)
 |k+1,a=>by
  have aQ:=HO l n k
  rw [du]
  split
  · exact RA aQ l n _ _ (Int.le_refl _)
  split
  · exact HL aQ l n _ _ _ _ (by simp [gv];omega)
  split
  · exact HM aQ l n _ _ _ _ _ (by simp [gv];omega)
  split
  · exact (HN ..).from (by omega)
  split
  · exact HN ..
  split
  · exact eT.yes (by first|(rw [oL];omega)|(have:=oL 0 0 [];simp only [eb];omega))
  · exact RB aQ l n a
noncomputable def jB (l:List Tok) (n a:Int):bR ax:=(du l n 6 a).bind fun x cR=>if eS x=0 then .ok x cR else .bad (eS x) (dm l n a)
section
variable {l:List Tok} {n a e q cn aM cM:Int} {x:ax}
theorem bx.sz (o:bx l (du l n 6 a) x a e q cn aM cM) (he:e=0) (ao:aM=0) (av:l.length≤5000) (aG:0≤a):dG x≤1000000000:=by
 have h:=o.ok he
 obtain ⟨rfl,rfl⟩:=h.y ao
 have:=(HO l n 6 a).h (h.f▸ao)
 have:=o.ad
 omega
theorem bx.RC (o:bx l (du l n 6 a) x a e q cn aM cM) (h:aM=0→eS x=0):bx l (jB l n a) x a e q cn aM cM:=by
 refine ⟨fun he=>?_,o.st,o.bw,o.ad,o.cm,o.gt⟩
 have J:=o.ok he
 by_cases ao:aM=0
 · obtain ⟨rfl,rfl⟩:=J.y ao
   rw [jB,bR.bind,if_pos (by rw [←J.f];exact ao),if_pos (h ao)]
   exact ⟨ao,fun _=>⟨rfl,rfl⟩,fun h=>absurd ao h⟩
 · rw [jB,bR.bind,if_neg (by rw [←J.f];exact ao)]
   exact ⟨J.f,fun h=>absurd h ao,fun _=>J.z ao⟩
theorem bx.RD (o:bx l (du l n 6 a) x a e q cn aM cM) (he:e=0) (ao:aM=0) (h:eS x≠0):bx l (jB l n a) x a e q cn (eS x) (dm l n a):=by
 refine ⟨fun he=>?_,fun h=>absurd he h,o.bw,o.ad,we x,fun aT=>absurd aT h⟩
 have J:=o.ok he
 obtain ⟨rfl,rfl⟩:=J.y ao
 rw [jB,bR.bind,if_pos (by rw [←J.f];exact ao),if_neg h]
 exact ⟨rfl,fun aT=>absurd aT h,fun _=>rfl⟩
end
set_option maxHeartbeats 2000000 in
theorem yn (l:List Tok) (n a e q:Int) (k:Nat) (r:Nat) (aQ:∀a e q d:Int,d=7- (k:Int)→0≤a→a≤l.length→0≤e→∀(r:Nat) (m:ae),eE [r] m→eF m→∀(K:U→ae→Prop),(∀bX cR cD cY,bx l (du l n k a) bX a e q cR cD cY→K (cy bX) (ae.bf m [(r, .cells [.slice false (l.map ch), .int .i64 cR, .int .i64 n, .err 115 cD, .int .i64 cY])]))→bg Tryz.prog 127 [.ptr ⟨r,0,none⟩, .int .i64 d] (ae.bf m [(r, .cells [.slice false (l.map ch), .int .i64 a, .int .i64 n, .err 115 e, .int .i64 q])]) K) (av:l.length≤5000) (aG:0≤a) (aX:a≤l.length) (he:0≤e) (ak:k=6) (m:ae) (gd:eE [r] m) (K:U→ae→Prop) (aV:eF m) (ab:∀bX cR cD cY,bx l (jB l n a) bX a e q cR cD cY→K (cy bX) (ae.bf m [(r, .cells [.slice false (l.map ch), .int .i64 cR, .int .i64 n, .err 115 cD, .int .i64 cY])])):bg Tryz.prog 65 [.ptr ⟨r,0,none⟩] (ae.bf m [(r, .cells [.slice false (l.map ch), .int .i64 a, .int .i64 n, .err 115 e, .int .i64 q])]) K:=by
 refine enter (c:=cX [] [] [3] [] [] [r]) (vs:=[.loc 0 0]) (L:=[bp l n a e q]) (m:=m) false b9 Tryz.mixed Tryz.func65 rfl (k:=1) (by show cu [] _ _ _=true;decide+kernel) rfl (gd.hn rfl) ?_
 refine gn [0] [bp l n a e q] (aj (dm l n a)) rfl (fun bs aF gd=>BU l n a e q (bs.getD 0 0) av (by omega) (by omega) aF gd) ?_
 refine cF 115 [0] (σ:=ax×Int×Int×Int) (fun ⟨b3,cw,bQ,cf⟩=>bx l (du l n k a) b3 a e q cw bQ cf) (fun ⟨b3,cw,bQ,cf⟩=>iS b3) (fun ⟨b3,cw,bQ,cf⟩=>[bp l n cw bQ cf]) rfl (fun _=>rfl) (fun bs aF gd aB K ab=>aQ a e q 1 (by omega) (by omega) (by omega) (by omega) (bs.getD 0 0) aF gd (eF.up aB aV) K (fun fg cc bZ b1 aT=>ab (fg,cc,bZ,b1) aT)) ?_
 rintro ⟨b3,cw,bQ,cf⟩ bU
 dsimp only at bU
 have tj:=bU.bw
 have qk:=bU.ad
 have tk:=bU.cm
 refine az ?_
 refine cq [0,2,3,4] 18 ((bQ==0)&&(!((eS b3)==0))) ?_ ?_
 · repeat' first
    |exact ⟨⟨_,rfl,by grind [bD.val]⟩,rfl⟩
    |refine ah (fun _=>?_) (fun _=>?_)
    |refine b2 (fun _=>ym b3) rfl ?_
 refine ah (fun J=>?_) (fun J=>?_)
 · replace J:(bQ=0)∧(eS b3≠0):=⟨(eq_of_beq (eO J)),(ne_of_beq_false (ds (fk J)))⟩
   refine b2 (fun _=>ym b3) rfl ?_
   refine rt rfl fun _=>?_
   show K (.agg [.int .i64 b3.kind, .int .i64 b3.v.kind, .int .i64 b3.v.n, .str b3.v.s, .slice false (b3.v.l.map cj), .slice false (b3.v.f.map ct), .str b3.s, .str b3.t, .slice false (b3.a.map cx), .slice false (b3.n.map cS)]) (ae.bf m [(r, .cells [.slice false (l.map ch), .int .i64 cw, .int .i64 n, .err 115 (eS b3), .int .i64 (dm l n a)])])
   subst ak
   exact ab _ _ _ _ (bU.RD (Classical.byContradiction fun c=>by have:=(bU.st c).2.1;omega) J.1 J.2)
 replace J:(bQ≠0)∨(eS b3=0):=((fl J).imp (fun q=>(ne_of_beq_false q)) (fun q=>(eq_of_beq (dn q))))
 refine rt rfl fun _=>?_
 show K (.agg [.int .i64 b3.kind, .int .i64 b3.v.kind, .int .i64 b3.v.n, .str b3.v.s, .slice false (b3.v.l.map cj), .slice false (b3.v.f.map ct), .str b3.s, .str b3.t, .slice false (b3.a.map cx), .slice false (b3.n.map cS)]) (ae.bf m [(r, .cells [.slice false (l.map ch), .int .i64 cw, .int .i64 n, .err 115 bQ, .int .i64 cf])])
 subst ak
 exact ab _ _ _ _ (bU.RC fun aO=>J.resolve_left (fun aI=>aI aO))
end Go.Proofs
end
section
namespace Go.Proofs
open Go Go.ba Go.bV
set_option maxRecDepth 100000
open Classical in
noncomputable def kv (a b:ax):Bool:=decide (a=b)
theorem Ck {a b:ax} (h:a=b):kv a b=true:=by simp [kv,h]
theorem HP {a b:ax} (h:a≠b):kv a b=false:=by simp [kv,h]
theorem RE {a b:ax}:kv a b=true↔a=b:=by simp [kv]
theorem ax.ext' {a b:ax} (J:a.kind=b.kind) (aa:a.v=b.v) (ai:a.s=b.s) (aJ:a.t=b.t) (aY:a.a=b.a) (bG:a.n=b.n):a=b:=by
 cases a;cases b
 simp only [ax.kind,ax.v,ax.s,ax.t,ax.a,ax.n] at*
 subst J aa ai aJ aY bG;rfl
set_option maxHeartbeats 1000000 in
theorem RF (a b:List aD) (m:ae) (K:U→ae→Prop) (ab:K (.bool (decide (a=b))) m):bg Tryz.prog 62 [.slice false (a.map cS), .slice false (b.map cS)] m K:=by
 refine enter (c:=cX [] [0] [] [] [] []) (vs:=[.aH (.slice false (a.map cS)), .aH (.slice false (b.map cS))]) (L:=[]) (m:=m) false b9 Tryz.mixed Tryz.func62 rfl (k:=2) (by show cu [] _ _ _=true;decide+kernel) rfl (Good.nil m) ?_
 refine ⟨fun bq=>?_⟩
 have jy:a.length≤140737488355328:=cN (o:=false) (bq 0).1
 have U8:b.length≤140737488355328:=cN (o:=false) (bq 1).1
 refine az ?_
 refine br ?_
 refine br ?_
 refine ah (fun J=>?_) (fun J=>?_)
 · refine az ?_
   refine b7 (σ:=Int) [] [0,1,5] 0 (fun i=>([(0,an (a.map cS)),(1,an (b.map cS)),(5,aj i)],[],m)) (fun i=>0≤i∧i≤a.length∧a.take i.toNat=b.take i.toNat) (fun i=>a.length- i.toNat) (0) ⟨rfl,rfl⟩ ?_ ?_
   · try dsimp only
     exact ⟨by omega,by omega,rfl⟩
   rintro i ay
   refine az ?_
   refine br ?_
   refine ah (fun aa=>?_) (fun aa=>?_)
   · refine az ?_
     refine ck (by omega) ?_
     refine ck (by omega) ?_
     refine ah (fun ai=>?_) (fun ai=>?_)
     · refine ah (by omega) ?_
       refine ⟨(i+1),⟨rfl,rfl⟩,?_,?_⟩
       · try dsimp only
         exact ⟨by omega,by omega,by rw [gz ay.1 aa,gz ay.1 (by omega),ay.2.2,ai]⟩
       try dsimp only
       omega
     refine bh rfl fun _=>?_
     show K (.bool false) m
     rw [decide_eq_false (by intro aT;subst aT;exact ai rfl)] at ab;exact ab
   refine bh rfl fun _=>?_
   show K (.bool true) m
   rw [decide_eq_true (by have:=ay.2.2;rwa [fm (by omega),fm (by omega)] at this)] at ab;exact ab
 refine bh rfl fun _=>?_
 show K (.bool false) m
 rw [decide_eq_false (by intro aT;subst aT;exact J rfl)] at ab;exact ab
set_option maxHeartbeats 4000000 in
theorem RG (a b:ax) (aQ:∀v w:ax,eg v<eg a→∀(m:ae) (K:U→ae→Prop),K (.bool (kv v w)) m→bg Tryz.prog 16 [cy v,cy w] m K) (m:ae) (K:U→ae→Prop) (ab:K (.bool (kv a b)) m):bg Tryz.prog 16 [cy a,cy b] m K:=by
 refine enter (c:=cX [] [0] [2] [] [] []) (vs:=[.aH (cy a), .aH (cy b)]) (L:=[]) (m:=m) false b9 Tryz.mixed Tryz.func16 rfl (k:=2) (by show cu [] _ _ _=true;decide+kernel) rfl (Good.nil m) ?_
 refine ⟨fun bq=>?_⟩
 have jx:a.v.s.length≤140737488355328:=(bq 0 3 (Nat.le_of_ble_eq_true rfl))
 have lN:a.v.l.length≤140737488355328:=cN (bq 0 4 (Nat.le_of_ble_eq_true rfl))
 have rN:a.v.f.length≤140737488355328:=cN (bq 0 5 (Nat.le_of_ble_eq_true rfl))
 have rO:a.s.length≤140737488355328:=(bq 0 6 (Nat.le_of_ble_eq_true rfl))
 have rP:a.t.length≤140737488355328:=(bq 0 7 (Nat.le_of_ble_eq_true rfl))
 have rQ:a.a.length≤140737488355328:=cN (bq 0 8 (Nat.le_of_ble_eq_true rfl))
 have rR:a.n.length≤140737488355328:=cN (bq 0 9 (Nat.le_of_ble_eq_true rfl))
 have GA:b.v.s.length≤140737488355328:=(bq 1 3 (Nat.le_of_ble_eq_true rfl))
 have GB:b.v.l.length≤140737488355328:=cN (bq 1 4 (Nat.le_of_ble_eq_true rfl))
 have U9:b.v.f.length≤140737488355328:=cN (bq 1 5 (Nat.le_of_ble_eq_true rfl))
 have Va:b.s.length≤140737488355328:=(bq 1 6 (Nat.le_of_ble_eq_true rfl))
 have Vb:b.t.length≤140737488355328:=(bq 1 7 (Nat.le_of_ble_eq_true rfl))
 have Vc:b.a.length≤140737488355328:=cN (bq 1 8 (Nat.le_of_ble_eq_true rfl))
 have Vd:b.n.length≤140737488355328:=cN (bq 1 9 (Nat.le_of_ble_eq_true rfl))
 refine b2 (fun _=>GN a.v b.v) rfl ?_
 refine az ?_
 refine cq [2,3] 52 ((((((!(a.kind==b.kind))||(!(gT a.v b.v)))||(!(a.s==b.s)))||(!(a.t==b.t)))||(!((a.a.length:Int)==(b.a.length:Int))))||(!(decide (a.n=b.n)))) ?_ ?_
 · repeat' first
    |exact ⟨⟨_,rfl,by grind [bD.val]⟩,rfl⟩
    |refine ah (fun _=>?_) (fun _=>?_)
    |refine br ?_
    |refine b2 (fun _=>RF a.n b.n) rfl ?_
 refine ah (fun J=>?_) (fun J=>?_)
 · replace J:(((((a.kind≠b.kind)∨(gT a.v b.v=false))∨(a.s≠b.s))∨(a.t≠b.t))∨((a.a.length:Int)≠(b.a.length:Int)))∨(decide (a.n=b.n)=false):=((dj J).imp (fun q=>((dj q).imp (fun q=>((dj q).imp (fun q=>((dj q).imp (fun q=>((dj q).imp (fun q=>(ne_of_beq_false (ds q))) (fun q=>(ds q)))) (fun q=>(ne_of_beq_false (ds q))))) (fun q=>(ne_of_beq_false (ds q))))) (fun q=>(ne_of_beq_false (ds q))))) (fun q=>(ds q)))
   refine bh rfl fun _=>?_
   show K (.bool false) m
   rw [HP (by intro aT;subst aT;simp [qo rfl] at J)] at ab;exact ab
 replace J:(((((a.kind=b.kind)∧(gT a.v b.v=true))∧(a.s=b.s))∧(a.t=b.t))∧((a.a.length:Int)=(b.a.length:Int)))∧(decide (a.n=b.n)=true):=⟨⟨⟨⟨⟨(eq_of_beq (dn (b8 (b8 (b8 (b8 (b8 J))))))),(dn (di (b8 (b8 (b8 (b8 J))))))⟩,(eq_of_beq (dn (di (b8 (b8 (b8 J))))))⟩,(eq_of_beq (dn (di (b8 (b8 J)))))⟩,(eq_of_beq (dn (di (b8 J))))⟩,(dn (di J))⟩
 refine az ?_
 refine b7 (σ:=Int) [] [2,3,6] 2 (fun i=>([(2, .loc 0 0),(3, .loc 1 0),(6,aj i)],[.cells [aj a.kind,aj a.v.kind,aj a.v.n,aw a.v.s,an (a.v.l.map cj),an (a.v.f.map ct),aw a.s,aw a.t,an (a.a.map cx),an (a.n.map cS)], .cells [aj b.kind,aj b.v.kind,aj b.v.n,aw b.v.s,an (b.v.l.map cj),an (b.v.f.map ct),aw b.s,aw b.t,an (b.a.map cx),an (b.n.map cS)]],m)) (fun i=>0≤i∧i≤a.a.length∧a.a.take i.toNat=b.a.take i.toNat) (fun i=>a.a.length- i.toNat) (0) ⟨rfl,rfl⟩ ?_ ?_
 · try dsimp only
   exact ⟨by omega,by omega,rfl⟩
 rintro i ay
 refine az ?_
 refine br ?_
 refine ah (fun aa=>?_) (fun aa=>?_)
 · refine az ?_
   refine gj cy e9 (by omega) ?_
   refine gj cy e9 (by omega) ?_
   refine ih (fun _=>aQ (I a.a i) (I b.a i) (ns (cb ay.1 (by assumption)))) ?_
   refine ah (fun ai=>?_) (fun ai=>?_)
   · refine ah (by omega) ?_
     refine ⟨(i+1),⟨rfl,rfl⟩,?_,?_⟩
     · try dsimp only
       exact ⟨by omega,by omega,by rw [gz ay.1 aa,gz ay.1 (by omega),ay.2.2,RE.1 ai]⟩
     try dsimp only
     omega
   refine bh rfl fun _=>?_
   show K (.bool false) m
   rw [HP (by intro aT;subst aT;rw [Ck rfl] at ai;cases ai)] at ab;exact ab
 refine bh rfl fun _=>?_
 show K (.bool true) m
 rw [Ck (ax.ext' J.1.1.1.1.1 (rA.1 J.1.1.1.1.2) J.1.1.1.2 J.1.1.2 (by have:=ay.2.2;rwa [fm (by omega),fm (by omega)] at this) (of_decide_eq_true J.2))] at ab;exact ab
theorem HQ:∀(n:Nat) (a b:ax),eg a<n→∀(m:ae) (K:U→ae→Prop),K (.bool (kv a b)) m→bg Tryz.prog 16 [cy a,cy b] m K
 |0,_,_,h=>absurd h (Nat.not_lt_zero _)
 |n+1,a,b,h=>fun m K ab=>RG a b (fun v w bn=>HQ n v w (by omega)) m K ab
theorem HR (a b:ax) (m:ae) (K:U→ae→Prop) (ab:K (.bool (kv a b)) m):bg Tryz.prog 16 [cy a,cy b] m K:=HQ (eg a+1) a b (Nat.lt_succ_self _) m K ab
set_option maxHeartbeats 4000000 in
theorem RH (e:ax) (ao:dG e≤1000000000) (aQ:∀x:ax,eg x<eg e→dG x≤1000000000→∀(m:ae) (K:U→ae→Prop),K (cy x) m→bg Tryz.prog 17 [cy x] m K) (m:ae) (K:U→ae→Prop) (ab:K (cy e) m):bg Tryz.prog 17 [cy e] m K:=by
 have al:=yl e
 have js:=Rt e.a
 refine enter (c:=cX [] [] [] [2999,6999] [2,6] []) (vs:=[.aH (cy e)]) (L:=[]) (m:=m) false b9 Tryz.mixed Tryz.func17 rfl (k:=1) (by show cu [2999,6999] _ _ _=true;decide+kernel) rfl (Good.nil m) ?_
 refine gp b9 Tryz.mixed (σ:=Unit) (.f 0 (.f 3 (.o 1 (.o 2 (.s 4 (.f 6 (.o 5 (.s 7 (.f 8 (.s 9 (.f 10 (.s 11 .d))))) (.o 7 (.f 8 (.o 5 (.s 9 (.f 10 (.s 11 .d))) (.o 9 (.s 5 (.f 10 (.s 11 .d))) .z))) .z)))) (.o 4 (.s 2 (.f 6 (.o 5 (.s 7 (.f 8 (.s 9 (.f 10 (.s 11 .d))))) (.o 7 (.f 8 (.o 5 (.s 9 (.f 10 (.s 11 .d))) (.o 9 (.s 5 (.f 10 (.s 11 .d))) .z))) .z)))) .z)) (.o 4 (.s 1 (.s 2 (.f 6 (.o 5 (.s 7 (.f 8 (.s 9 (.f 10 (.s 11 .d))))) (.o 7 (.f 8 (.o 5 (.s 9 (.f 10 (.s 11 .d))) (.o 9 (.s 5 (.f 10 (.s 11 .d))) .z))) .z))))) .z)))) [] [1,2,3] 2 (fun _=>([(1, .loc 0 0),(2, .loc 1 0),(3,an (e.a.map cx))],[.cells [aj e.kind,aj e.v.kind,aj e.v.n,aw e.v.s,an (e.v.l.map cj),an (e.v.f.map ct),aw e.s,aw e.t, .own [], .own (e.n.map cS)], .cells [aj 0,aj 0,aj 0,aw ([]), .own [], .own [],aw ([]),aw ([]), .own [], .own []]],m)) (fun _=>True) (by decide+kernel) ?_ ?_
 · rintro _ RI
   try dsimp only at RI
   refine az ?_
   refine br ?_
   refine b7 (σ:=Int×List ax) [] [1,2,17,18,19] 2 (fun ⟨i,xs⟩=>([(1, .loc 0 0),(2, .loc 1 0),(17,an (e.a.map cx)),(18,aj (e.a.length:Int)),(19,aj i)],[.cells [aj e.kind,aj e.v.kind,aj e.v.n,aw e.v.s,an (e.v.l.map cj),an (e.v.f.map ct),aw e.s,aw e.t, .own (xs.map cx), .own (e.n.map cS)], .cells [aj 0,aj 0,aj 0,aw ([]), .own [], .own [],aw ([]),aw ([]), .own [], .own []]],m)) (fun ⟨i,xs⟩=>0≤i∧i≤e.a.length∧xs=e.a.take i.toNat) (fun ⟨i,xs⟩=>e.a.length- i.toNat) (0,[]) ⟨rfl,rfl⟩ ?_ ?_
   · try dsimp only
     exact ⟨by omega,by omega,by simp⟩
   rintro ⟨i,xs⟩ ay
   dsimp only at ay
   have sx:(xs.length:Int)=i:=by rw [ay.2.2,List.length_take];omega
   refine az ?_
   refine ah (fun J=>?_) (fun J=>?_)
   · refine az ?_
     refine gj cy e9 (by omega) ?_
     refine gp b9 Tryz.mixed (σ:=Unit) (.f 0 (.o 1 (.s 2 (.s 3 (.s 4 (.s 5 (.f 6 (.s 7 .d)))))) (.o 2 (.o 1 (.s 3 (.s 4 (.s 5 (.f 6 (.s 7 .d))))) (.o 3 (.o 1 (.s 4 (.s 5 (.f 6 (.s 7 .d)))) (.o 4 (.s 1 (.s 5 (.f 6 (.s 7 .d)))) .z)) .z)) .z))) [] [1,2,17,18,19] 3 (fun _=>([(1, .loc 0 0),(2, .loc 1 0),(17,an (e.a.map cx)),(18,aj (e.a.length:Int)),(19,aj i)],[.cells [aj e.kind,aj e.v.kind,aj e.v.n,aw e.v.s,an (e.v.l.map cj),an (e.v.f.map ct),aw e.s,aw e.t, .own ((xs++([(I e.a i)]:List ax)).map cx), .own (e.n.map cS)], .cells [aj 0,aj 0,aj 0,aw ([]), .own [], .own [],aw ([]),aw ([]), .own [], .own []], .cells [aj ((I e.a i).kind),aj (((I e.a i).v).kind),aj (((I e.a i).v).n),aw (((I e.a i).v).s),an ((((I e.a i).v).l).map cj),an ((((I e.a i).v).f).map ct),aw ((I e.a i).s),aw ((I e.a i).t),an (((I e.a i).a).map cx),an (((I e.a i).n).map cS)]],m)) (fun _=>True) (by decide+kernel) ?_ ?_
     · rintro _ BE
       try dsimp only at BE
       refine ah (by omega) ?_
       refine ⟨(i+1,xs++([(I e.a i)]:List ax)),⟨rfl,rfl⟩,?_,?_⟩
       · try dsimp only
         exact ⟨by omega,by omega,by rw [gz ay.1 (by omega),←ay.2.2]⟩
       try dsimp only
       omega
     repeat' first
      |refine ⟨(),⟨rfl,rfl⟩,trivial⟩
      |refine b2 (fun _=>aQ (I e.a i) (ns (cb ay.1 (by assumption))) (by have:=HB (cb (l:=e.a) (i:=i) ay.1 (by assumption));omega)) rfl ?_
      |refine ap cx xs ([(I e.a i)]:List ax) rfl (by simp only [List.map_cons,List.map_nil,e9];try rfl) (fun a=>by rw [e9];exact ⟨rfl,rfl⟩) (by (simp only [List.length_append,List.length_cons,List.length_nil];omega)) ?_
      |refine ⟨?_,?_,trivial⟩
   refine bh rfl fun _=>?_
   show K (.agg [.int .i64 e.kind, .int .i64 e.v.kind, .int .i64 e.v.n, .str e.v.s, .slice false (e.v.l.map cj), .slice false (e.v.f.map ct), .str e.s, .str e.t, .slice false (xs.map cx), .slice false (e.n.map cS)]) m
   have cM:xs=e.a:=by have:=ay.2.2;rwa [fm (by omega)] at this
   rw [cM]
   exact ab
 repeat' first
  |refine ⟨(),⟨rfl,rfl⟩,trivial⟩
  |refine b2 (fun _=>Gw e.v (x0 _ _ (Nat.lt_succ_self _) (by omega))) rfl ?_
  |refine ap cS ([]) e.n rfl rfl (fun _=>⟨rfl,rfl⟩) (by (simp only [List.length_append,List.length_cons,List.length_nil];omega)) ?_
  |refine ⟨?_,?_,trivial⟩
theorem HS:∀(n:Nat) (e:ax),eg e<n→dG e≤1000000000→∀(m:ae) (K:U→ae→Prop),K (cy e) m→bg Tryz.prog 17 [cy e] m K
 |0,_,h,_=>absurd h (Nat.not_lt_zero _)
 |n+1,e,h,ao=>fun m K ab=>RH e ao (fun x aq aK=>HS n x (by omega) aK) m K ab
theorem HT (e:ax) (ao:dG e≤1000000000) (m:ae) (K:U→ae→Prop) (ab:K (cy e) m):bg Tryz.prog 17 [cy e] m K:=HS (eg e+1) e (Nat.lt_succ_self _) ao m K ab
end Go.Proofs
end
section
namespace Go.Proofs
open Go Go.ba Go.bV
set_option maxRecDepth 100000
def RJ:ax:= .mk 2 eb [97] [] [] []
def Br:ax:= .mk 1 (.mk 1 7 [] [] []) [] [] [] []
def bA:ax:= .mk 5 eb [] [] [RJ,Br] []
theorem wh (e:ax):kv e e=true:=Ck rfl
set_option maxHeartbeats 4000000 in
theorem RL (e:ax) (bY:Int) (aQ:∀x:ax,eg x<eg e→∀(m:ae) (K:U→ae→Prop),K (.int .i64 (nt bY x)) m→bg Tryz.prog 54 [cy x, .int .i64 bY] m K) (m:ae) (K:U→ae→Prop) (ab:K (.int .i64 (nt bY e)) m):bg Tryz.prog 54 [cy e, .int .i64 bY] m K:=by
 refine enter (c:=cX [20,24,44,65] [0] [3,7] [] [] []) (vs:=[.aH (cy e), .aH (.int .i64 bY)]) (L:=[]) (m:=m) false b9 Tryz.mixed Tryz.func54 rfl (k:=2) (by show cu [] _ _ _=true;decide+kernel) rfl (Good.nil m) ?_
 refine ⟨fun bq=>?_⟩
 have jx:e.v.s.length≤140737488355328:=(bq 0 3 (Nat.le_of_ble_eq_true rfl))
 have lN:e.v.l.length≤140737488355328:=cN (bq 0 4 (Nat.le_of_ble_eq_true rfl))
 have rN:e.v.f.length≤140737488355328:=cN (bq 0 5 (Nat.le_of_ble_eq_true rfl))
 have rO:e.s.length≤140737488355328:=(bq 0 6 (Nat.le_of_ble_eq_true rfl))
 have rP:e.t.length≤140737488355328:=(bq 0 7 (Nat.le_of_ble_eq_true rfl))
 have rQ:e.a.length≤140737488355328:=cN (bq 0 8 (Nat.le_of_ble_eq_true rfl))
 have rR:e.n.length≤140737488355328:=cN (bq 0 9 (Nat.le_of_ble_eq_true rfl))
 refine ah (by omega) ?_
 refine ah (by omega) ?_
 refine ih (fun _=>BD bY (bP e.v+1) e.v (Nat.lt_succ_self _)) ?_
 refine br ?_
 refine az ?_
 refine b7 (σ:=Int×Int) [] [1,2,5,6] 1 (fun ⟨fR,i⟩=>([(1,aj bY),(2, .loc 0 0),(5,aj fR),(6,aj i)],[.cells [aj e.kind,aj e.v.kind,aj e.v.n,aw e.v.s,an (e.v.l.map cj),an (e.v.f.map ct),aw e.s,aw e.t,an (e.a.map cx),an (e.n.map cS)]],m)) (fun ⟨fR,i⟩=>0≤i∧i≤e.n.length∧my bY e.n (B1 bY e)=my bY (e.n.drop i.toNat) fR) (fun ⟨fR,i⟩=>e.n.length- i.toNat) (IntKind.i64.wrap ((IntKind.i64.wrap (((1+(e.s.length:Int))+(e.t.length:Int))+(kT bY e.v)))+(e.n.length:Int)),0) ⟨rfl,rfl⟩ ?_ ?_
 · try dsimp only
   exact ⟨by omega,by omega,rfl⟩
 rintro ⟨fR,i⟩ ay
 dsimp only at ay
 refine az ?_
 refine cq [1,2,5,6] 34 ((decide (i<(e.n.length:Int)))&&(decide (fR≤bY))) ?_ ?_
 · repeat' first
    |exact ⟨⟨_,rfl,by grind [bD.val]⟩,rfl⟩
    |refine ah (fun _=>?_) (fun _=>?_)
    |refine br ?_
 refine ah (fun J=>?_) (fun J=>?_)
 · replace J:(i<(e.n.length:Int))∧(fR≤bY):=⟨(of_decide_eq_true (eO J)),(of_decide_eq_true (fk J))⟩
   refine az ?_
   refine ck (by omega) ?_
   refine ah (by omega) ?_
   refine ⟨(IntKind.i64.wrap (fR+((I e.n i).length:Int)),i+1),⟨rfl,rfl⟩,?_,?_⟩
   · try dsimp only
     exact ⟨by omega,by omega,by rw [ay.2.2,QF ay.1 J.1 J.2]⟩
   try dsimp only
   omega
 replace J:((e.n.length:Int)≤i)∨(bY<fR):=((fl J).imp (fun q=>(Int.not_lt.1 (of_decide_eq_false q))) (fun q=>(Int.not_le.1 (of_decide_eq_false q))))
 refine az ?_
 refine b7 (σ:=Int×Int) [] [1,2,5,7] 1 (fun ⟨e3,k⟩=>([(1,aj bY),(2, .loc 0 0),(5,aj e3),(7,aj k)],[.cells [aj e.kind,aj e.v.kind,aj e.v.n,aw e.v.s,an (e.v.l.map cj),an (e.v.f.map ct),aw e.s,aw e.t,an (e.a.map cx),an (e.n.map cS)]],m)) (fun ⟨e3,k⟩=>0≤k∧k≤e.a.length∧nt bY e=n2 bY (e.a.drop k.toNat) e3) (fun ⟨e3,k⟩=>e.a.length- k.toNat) (fR,0) ⟨rfl,rfl⟩ ?_ ?_
 · try dsimp only
   refine ⟨by omega,by omega,?_⟩
   have q:my bY (e.n.drop i.toNat) fR=fR:=by
    by_cases aI:bY<fR
    · exact QE _ _ _ aI
    · have ad:(e.n.length:Int)≤i:=by
       rcases J with h|h<;>omega
      rw [List.drop_eq_nil_of_le (by omega)];simp only [my]
   rw [QC,ay.2.2,q];rfl
 rintro ⟨e3,k⟩ a1
 dsimp only at a1
 refine az ?_
 refine cq [1,2,5,7] 54 ((decide (k<(e.a.length:Int)))&&(decide (e3≤bY))) ?_ ?_
 · repeat' first
    |exact ⟨⟨_,rfl,by grind [bD.val]⟩,rfl⟩
    |refine ah (fun _=>?_) (fun _=>?_)
    |refine br ?_
 refine ah (fun aa=>?_) (fun aa=>?_)
 · replace aa:(k<(e.a.length:Int))∧(e3≤bY):=⟨(of_decide_eq_true (eO aa)),(of_decide_eq_true (fk aa))⟩
   refine az ?_
   refine gj cy e9 (by omega) ?_
   refine b2 (fun _=>aQ (I e.a k) (ns (cb a1.1 aa.1))) rfl ?_
   refine ah (by omega) ?_
   refine ⟨(IntKind.i64.wrap (e3+(nt bY (I e.a k))),k+1),⟨rfl,rfl⟩,?_,?_⟩
   · try dsimp only
     exact ⟨by omega,by omega,by rw [a1.2.2,QG a1.1 aa.1 aa.2]⟩
   try dsimp only
   omega
 replace aa:((e.a.length:Int)≤k)∨(bY<e3):=((fl aa).imp (fun q=>(Int.not_lt.1 (of_decide_eq_false q))) (fun q=>(Int.not_le.1 (of_decide_eq_false q))))
 refine bh rfl fun _=>?_
 show K (.int .i64 e3) m
 have q:nt bY e=e3:=by
  rw [a1.2.2]
  by_cases aI:bY<e3
  · exact QD _ _ _ aI
  · have ad:(e.a.length:Int)≤k:=by
     rcases aa with h|h<;>omega
    rw [List.drop_eq_nil_of_le (by omega)];simp only [n2]
 rw [q] at ab;exact ab
theorem Cl (bY:Int):∀(n:Nat) (e:ax),eg e<n→∀(m:ae) (K:U→ae→Prop),K (.int .i64 (nt bY e)) m→bg Tryz.prog 54 [cy e, .int .i64 bY] m K
 |0,_,h=>absurd h (Nat.not_lt_zero _)
 |n+1,e,h=>fun m K ab=>RL e bY (fun x aq=>Cl bY n x (by omega)) m K ab
end Go.Proofs
end
section
namespace Go.Proofs
open Go Go.ba Go.bV
set_option maxRecDepth 100000
theorem HU {α:Type} [Inhabited α] {xs cA:List α} {i:Int} (aG:0≤i) (ad:i<xs.length) (eV:i<cA.length) (h:xs.take i.toNat=cA.take i.toNat) (he:I xs i=I cA i):xs.take (i+1).toNat=cA.take (i+1).toNat:=by
 obtain ⟨n,rfl⟩:=Int.eq_ofNat_of_zero_le aG
 have e:((n:Int)+1).toNat=n+1:=by omega
 have aI:n<xs.length:=by omega
 have k5:n<cA.length:=by omega
 rw [e,List.take_succ_eq_append_getElem aI,List.take_succ_eq_append_getElem k5]
 simp [I,List.getD_eq_getElem?_getD,aI,k5] at he h
 rw [h,he]
theorem HV {α:Type} {xs cA:List α} {i:Int} (av:(xs.length:Int)=cA.length) (ad:i=xs.length) (h:xs.take i.toNat=cA.take i.toNat):xs=cA:=by
 subst ad
 have e:(xs.length:Int).toNat=cA.length:=by omega
 rw [Int.toNat_natCast,List.take_length] at h
 rw [h]
 exact List.take_of_length_le (by omega)
end Go.Proofs
end
section
namespace Go.Proofs
open Go Go.ba
set_option maxRecDepth 100000
def yo (n:Int) (l:List Int):Bool:=l.all fun k=>decide (0≤k)&&decide (k<n)
def jC (needs:List (List Int)):Bool:=needs.all (yo needs.length)
theorem HW {n:Int} {l:List Int} (h:yo n l=true) {i:Int} (aG:0≤i) (ad:i<l.length):0≤I l i∧I l i<n:=by
 have hm:I l i∈l:=by
  simp only [I,List.getD_eq_getElem?_getD,List.getElem?_eq_getElem (show i.toNat<l.length by omega),Option.getD_some]
  exact List.getElem_mem _
 have:=List.all_eq_true.1 h _ hm
 simpa using this
theorem RM {α:Type} [Inhabited α] {l:List α} {i:Int} {p:α→Bool} (aG:0≤i) (ad:i<l.length) (h:(l.take i.toNat).all p=true) (aU:p (I l i)=true):(l.take (i+1).toNat).all p=true:=by
 rw [gz aG ad,List.all_append,h];simp [aU]
theorem RN {α:Type} {l:List α} {i:Int} {p:α→Bool} (ad:l.length≤i) (h:(l.take i.toNat).all p=true):l.all p=true:=by
 rwa [List.take_of_length_le (by omega)] at h
def lk (needs:List (List Int)):Int:=if (64:Int)<needs.length then 2 else if jC needs=true then 0 else 1
end Go.Proofs
end
section
namespace Go.Proofs
open Go Go.ba
set_option maxRecDepth 100000
def ir (needs:List (List Int)) (lv:List Int) (i:Int):Bool:=(I lv i==0)&&(I needs i).all fun k=>decide (0<I lv k)
def upto (k:Int):List Int:=(List.range k.toNat).map fun i:Nat=>(i:Int)
def gF (needs:List (List Int)) (lv:List Int) (k:Int):List Int:=(upto k).filter (ir needs lv)
def ky (lv eK:List Int) (v:Int):List Int:=eK.foldl (fun l k=>l.set k.toNat v) lv
theorem yp {k:Int} (h:0≤k):upto (k+1)=upto k++[k]:=by
 have e:(k+1).toNat=k.toNat+1:=by omega
 simp [upto,e,List.range_succ];omega
theorem HX {needs:List (List Int)} {lv:List Int} {k:Int} (h:0≤k):gF needs lv (k+1)=if ir needs lv k=true then gF needs lv k++[k] else gF needs lv k:=by
 rw [gF,yp h,List.filter_append]
 by_cases au:ir needs lv k=true
 · simp [au,gF]
 · simp [au,gF]
theorem RO {needs:List (List Int)} {lv:List Int} {k x:Int} (h:x∈gF needs lv k):0≤x∧x<k:=by
 have:=(List.mem_filter.1 h).1
 simp [upto] at this
 obtain ⟨i,ad,rfl⟩:=this
 omega
theorem HY (needs:List (List Int)) (lv:List Int) (k:Int):(gF needs lv k).length≤k.toNat:=by
 refine Nat.le_trans (List.length_filter_le _ _) ?_
 simp [upto]
theorem HZ (eK:List Int) (v:Int):∀lv:List Int,(ky lv eK v).length=lv.length:=by
 induction eK with
 |nil=>intro lv;rfl
 |cons x w aQ=>intro lv;simp only [ky,List.foldl_cons] at aQ ⊢;rw [aQ];simp
theorem RP (lv eK:List Int) (k v:Int):ky lv (eK++[k]) v=(ky lv eK v).set k.toNat v:=by simp [ky]
def ll:Nat→List (List Int)→Int→List Int→List (List Int)→List (List Int)×Int
 |0,_,_,_,out=>(out,0)
 |f+1,needs,left,lv,out=>
  if left≤0 then (out,0)
  else if gF needs lv needs.length=[] then ([],8)
  else ll f needs (left- (gF needs lv needs.length).length) (ky lv (gF needs lv needs.length) (out.length+1:Nat)) (out++[gF needs lv needs.length])
def eL (needs:List (List Int)):List (List Int)×Int:=ll (needs.length+1) needs needs.length (List.replicate needs.length 0) []
theorem H0 {needs:List (List Int)} (h:jC needs=true) {i k:Int} (aG:0≤i) (ad:i<needs.length) (J:0≤k) (ak:k<(I needs i).length):0≤I (I needs i) k∧I (I needs i) k<needs.length:=
 HW (List.all_eq_true.1 h _ (cb aG ad)) J ak
theorem RQ {α:Type} [Inhabited α] {l:List α} {i:Int} {p:α→Bool} (aG:0≤i) (ad:i<l.length):(l.take (i+1).toNat).all p=((l.take i.toNat).all p&&p (I l i)):=by
 rw [gz aG ad,List.all_append];simp
end Go.Proofs
end
section
namespace Go.Proofs
open Go Go.ba
set_option maxRecDepth 100000
theorem RR (f:Nat):∀needs left lv out,(ll f needs left lv out).1.length≤out.length+f∧((∀w∈out,w.length≤needs.length)→∀w∈(ll f needs left lv out).1,w.length≤needs.length):=by
 induction f with
 |zero=>intro needs left lv out;exact ⟨by simp [ll],fun h=>by simpa [ll] using h⟩
 |succ f aQ=>
  intro needs left lv out
  rw [ll]
  split
  · exact ⟨by simp,fun h=>h⟩
  · split
    · exact ⟨by simp,fun _=>by simp⟩
    · have:=aQ needs (left- (gF needs lv needs.length).length) (ky lv (gF needs lv needs.length) (out.length+1:Nat)) (out++[gF needs lv needs.length])
      refine ⟨Nat.le_trans this.1 (by simp;omega),fun h=>this.2 fun w hw=>?_⟩
      rcases List.mem_append.1 hw with hw|hw
      · exact h w hw
      · simp at hw;subst hw;have:=HY needs lv needs.length;omega
theorem yq (needs:List (List Int)):(eL needs).1.length≤needs.length+1∧∀w∈(eL needs).1,w.length≤needs.length:=by
 have:=RR (needs.length+1) needs needs.length (List.replicate needs.length 0) []
 exact ⟨by simpa [eL] using this.1,this.2 (by simp)⟩
theorem Cm {ls:List (List Int)} {B:Nat} (h:∀w∈ls,w.length≤B):ls.flatten.length≤ls.length*B:=by
 induction ls with
 |nil=>simp
 |cons x ls aQ=>
  have J:=h x (by simp)
  have aa:=aQ (fun w hw=>h w (by simp [hw]))
  simp [Nat.succ_mul] at aa ⊢;omega
theorem H2 {ls:List (List Int)} {i:Int} (aG:0≤i) (ad:i<ls.length):(ls.take (i+1).toNat).flatten=(ls.take i.toNat).flatten++I ls i:=by
 rw [gz aG ad];simp
end Go.Proofs
end
section
namespace Go.Proofs
open Go Go.ba
set_option maxRecDepth 100000
inductive Cn (f:Int→List Int) (l:List Int):Int→Prop
 |here {x:Int} (h:x∈l):Cn f l x
 |step {x y:Int} (h:Cn f l x) (aK:y∈f x):Cn f l y
theorem H3 {α:Type} [Inhabited α] {l:List α} {x y:Int} {v:α} (aG:0≤x) (J:x<l.length) (aa:0≤y):I (l.set x.toNat v) y=if y=x then v else I l y:=by
 have aq:x.toNat<l.length:=by omega
 simp only [I,List.getD_eq_getElem?_getD,List.getElem?_set]
 by_cases h:y=x
 · subst h;simp [aq]
 · have:x.toNat≠y.toNat:=by omega
   simp [h,this]
theorem oM {k x:Int}:x∈upto k↔0≤x∧x<k:=by
 simp only [upto,List.mem_map,List.mem_range]
 exact ⟨fun ⟨i,ad,e⟩=>by omega,fun h=>⟨x.toNat,by omega,by omega⟩⟩
end Go.Proofs
end
section
namespace Go.Proofs
open Go Go.ba
set_option maxRecDepth 100000
def es (s:List Bool) (e:Int×Int):List Bool:=if I s e.1=true then s.set e.2.toNat true else s
end Go.Proofs
end
section
namespace Go.Proofs
open Go Go.ba
set_option maxRecDepth 100000
def tA (s t:List Bool):Prop:=∀x,0≤x→I s x=true→I t x=true
theorem tA.refl (s:List Bool):tA s s:=fun _ _ h=>h
theorem tA.trans {s t u:List Bool} (h:tA s t) (k:tA t u):tA s u:=fun x aG aq=>k x aG (h x aG aq)
end Go.Proofs
end
