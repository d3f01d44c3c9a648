/-
  Values that a law is handed read as typed data, no greater than their bulk; none reads as a cell of a table of u64s.
-/
import Derived.Test.YtnahenbiipdlkaaGreatDoorSt0
import Derived.Test.YtnahenbiipdlkaaGreatDoorCk2
import Derived.Test.YtnahenbiipdlkaaGreatDoorWxz
section
namespace Go.Proofs
open Go Go.bg Go.cz
set_option maxRecDepth 100000
def hn {α:Type} (f:α→ar):List α→ar
 |[]=>[]
 |x::r=>f x++hn f r
def kg:List (ar×au)→Bool→ar
 |[],_=>[]
 |p::r,b=>(if b=true then [] else [44])++([32]++p.1++[58,32])++iu p.2++kg r false
def pg (p:ar×aW):ar:=[105,110,112,117,116,32]++p.1++[32,61,32]++h6 p.2++[10]
def k2 (x:eU):ar:=[114,101,115,111,117,114,99,101,32]++x.kind++[32]++x.name++[32,123]++kg x.parts true++[32,125,10]
def mc (p:ar×au):ar:=[111,117,116,112,117,116,32]++p.1++[32,61,32]++iu p.2++[10]
def iR (s:dm):ar:=[115,116,97,99,107,32]++s.name++[10]++hn pg s.ins++hn k2 s.res++hn mc s.outs
theorem su {α:Type} [Inhabited α] (f:α→ar) {l:List α} {i:Int} (aJ:0≤i) (ad:i<l.length):hn f (l.drop i.toNat)=f (I l i)++hn f (l.drop (i+1).toNat):=by rw [jQ aJ ad,hn]
theorem sv {α:Type} (f:α→ar) {l:List α} {i:Int} (ad:(l.length:Int)≤i):hn f (l.drop i.toNat)=[]:=by rw [List.drop_eq_nil_of_le (by omega),hn]
theorem BD {α:Type} {f:α→ar} {c:Nat}:∀l:List α,(∀x∈l,(f x).length≤c)→(hn f l).length≤l.length*c
 |[],_=>by rw [hn];simp
 |x::r,h=>by
  have J:=h x (List.mem_cons_self ..)
  have aa:=BD r fun y aK=>h y (List.mem_cons_of_mem _ aK)
  rw [hn,List.length_append,List.length_cons,Nat.add_mul];omega
theorem L0 {l:List (ar×au)} {i:Int} (aJ:0≤i) (ad:i<l.length) (ak:i≤0):kg (l.drop i.toNat) (i==0)=([32]++(I l i).1++[58,32])++iu (I l i).2++kg (l.drop (i+1).toNat) (i+1==0):=by
 have e:(i+1==0)=false:=by simp;omega
 rw [jQ aJ ad,kg,e,if_pos (by simp;omega)];rfl
theorem L1 {l:List (ar×au)} {i:Int} (aJ:0≤i) (ad:i<l.length) (ak:0<i):kg (l.drop i.toNat) (i==0)=[44]++([32]++(I l i).1++[58,32])++iu (I l i).2++kg (l.drop (i+1).toNat) (i+1==0):=by
 have e:(i+1==0)=false:=by simp;omega
 rw [jQ aJ ad,kg,e,if_neg (by simp;omega)]
theorem L2 {l:List (ar×au)} {i:Int} {b:Bool} (ad:(l.length:Int)≤i):kg (l.drop i.toNat) b=[]:=by rw [List.drop_eq_nil_of_le (by omega),kg]
theorem L3 {c:Nat}:∀(l:List (ar×au)) (b:Bool),(∀p∈l,p.1.length≤12∧(iu p.2).length≤c)→(kg l b).length≤l.length*(c+16)
 |[],_,_=>by rw [kg];simp
 |p::r,b,h=>by
  have J:=h p (List.mem_cons_self ..)
  have aa:=L3 r false fun y aK=>h y (List.mem_cons_of_mem _ aK)
  have aj:(if b=true then ([]:ar) else [44]).length≤1:=by split<;>simp
  rw [kg,List.length_cons,Nat.add_mul]
  simp only [List.length_append,List.length_cons,List.length_nil];omega
attribute [irreducible] hn kg
theorem Vv:∀{l:List (ar×aW)},oA l=0→∀p∈l,p.1.length≤12∧b1 p.2=0:=fun h p aQ=>⟨kd (BC h p aQ).1,(BC h p aQ).2⟩
theorem Vw {l:List (ar×au)} (h:lF l=0):∀p∈l,p.1.length≤12∧ew p.2=0:=by
 have g:∀(n:Nat) (i:Int),0≤i→k0 l n i=0→∀j:Int,i≤j→j<i+n→cu (I l j).1=true:=fun n=>by
  induction n with
  |zero=>intro i _ _ j J aa;omega
  |succ n aO=>
   intro i aJ h j J aa
   rw [k0] at h
   split at h
   · rename_i c0
     split at h
     · rcases Int.lt_or_le i j with q|q
       · exact aO (i+1) (by omega) h j (by omega) (by omega)
       · rw [show j=i by omega];exact c0.1
     · rename_i c;exact absurd h c
   · cases h
 intro p aQ
 refine ⟨?_,LR h p aQ⟩
 obtain ⟨k,al,rfl⟩:=List.getElem_of_mem aQ
 have:=g l.length 0 (Int.le_refl _) h (k:Int) (by omega) (by omega)
 exact kd (by simpa [I,List.getD_eq_getElem?_getD,al] using this)
theorem L4:∀{l:List eU},mZ l=0→∀x∈l,x.kind.length≤12∧x.name.length≤12∧x.parts.length≤6∧∀p∈x.parts,p.1.length≤12∧ew p.2=0
 |[],_,p,aQ=>by cases aQ
 |y::r,h,x,an=>by
  rw [mZ] at h
  split at h
  · rename_i c0
    split at h
    · cases h
    · rename_i c
      split at h
      · rename_i c2
        rcases List.mem_cons.1 an with rfl|an
        · exact ⟨kd c0.1,kd c0.2,by omega,Vw c2⟩
        · exact L4 h x an
      · rename_i c2;exact absurd h c2
  · cases h
theorem L5:∀{l:List (ar×au)},na l=0→∀p∈l,p.1.length≤12∧ew p.2=0
 |[],_,p,aQ=>by cases aQ
 |x::r,h,p,aQ=>by
  rw [na] at h
  split at h
  · rename_i c0
    split at h
    · rename_i c
      rcases List.mem_cons.1 aQ with rfl|aQ
      · exact ⟨kd c0,c⟩
      · exact L5 h p aQ
    · rename_i c;exact absurd h c
  · cases h
structure L6 (s:dm):Prop where
 nm:s.name.length≤12
 li:s.ins.length≤8
 ur:s.res.length≤8
 ba:s.outs.length≤8
 i:∀p∈s.ins,p.1.length≤12∧b1 p.2=0
 r:∀x∈s.res,x.kind.length≤12∧x.name.length≤12∧x.parts.length≤6∧∀p∈x.parts,p.1.length≤12∧ew p.2=0
 o:∀p∈s.outs,p.1.length≤12∧ew p.2=0
theorem L7 {s:dm} (h:e6 s=0):L6 s:=by
 have aw:=Vn h
 unfold e6 at h
 split at h
 · cases h
 · rename_i c0
   split at h
   · cases h
   · unfold so at h
     split at h
     · rename_i c2;exact absurd h c2
     · rename_i c2
       unfold sn at h
       split at h
       · rename_i c3;exact absurd h c3
       · rename_i c3
         exact ⟨kd (by simpa using c0),aw.li,aw.ur,aw.ba,Vv (by simpa using c2),L4 (by simpa using c3),L5 h⟩
theorem FR {x:eU} (h:x.parts.length≤6∧∀p∈x.parts,p.1.length≤12∧ew p.2=0) (b:Bool):(kg x.parts b).length≤7200096:=by
 have:=L3 (c:=1200000) x.parts b fun p aQ=>⟨(h.2 p aQ).1,uh (h.2 p aQ).2⟩
 have aa:x.parts.length*(1200000+16)≤6*(1200000+16):=Nat.mul_le_mul_right _ h.1
 omega
theorem L8 {s:dm} (h:L6 s):(iR s).length≤80000000:=by
 have J:=BD (f:=pg) (c:=13000) s.ins fun p aQ=>by
  have:=vy (h.i p aQ).2;have:=(h.i p aQ).1
  simp only [pg,List.length_append,List.length_cons,List.length_nil];omega
 have aa:=BD (f:=k2) (c:=7300000) s.res fun x an=>by
  have aj:=h.r x an
  have:=FR aj.2.2 true
  simp only [k2,List.length_append,List.length_cons,List.length_nil];omega
 have aj:=BD (f:=mc) (c:=1300000) s.outs fun p aQ=>by
  have:=uh (h.o p aQ).2;have:=(h.o p aQ).1
  simp only [mc,List.length_append,List.length_cons,List.length_nil];omega
 have g1:s.ins.length*13000≤8*13000:=Nat.mul_le_mul_right _ h.li
 have g2:s.res.length*7300000≤8*7300000:=Nat.mul_le_mul_right _ h.ur
 have g3:s.outs.length*1300000≤8*1300000:=Nat.mul_le_mul_right _ h.ba
 have:=h.nm
 simp only [iR,List.length_append,List.length_cons,List.length_nil];omega
noncomputable def hM:List dm→Int
 |[]=>0
 |s::r=>if e6 s=0 then hM r else e6 s
theorem BE {l:List dm} {i:Int} (aJ:0≤i) (ad:i<l.length):hM (l.drop i.toNat)=if e6 (I l i)=0 then hM (l.drop (i+1).toNat) else e6 (I l i):=by rw [jQ aJ ad,hM]
noncomputable def ht (l:List dm):ar×Int:=if 8<(l.length:Int) then ([],2) else if hM l=0 then (if 4000<((hn iR l).length:Int) then ([],2) else (hn iR l,0)) else ([],hM l)
set_option maxHeartbeats 4000000 in
theorem Vx (l:List dm) (m:ae) (K:ab→ae→Prop) (aP:cW m) (U:K (.tuple [.str (ht l).1, .err 115 (ht l).2]) m):bh Tryz.prog 29 [.slice false (l.map ey)] m K:=by
 refine enter (c:=cT [] [0] [] [] [] []) (vs:=[.aI (.slice false (l.map ey))]) (L:=[]) (m:=m) true b2 Tryz.mixed Tryz.func29 rfl (k:=1) (by show cO [] _ _ _=true;decide+kernel) rfl (Good.nil m) ?_
 refine ⟨fun bJ=>?_⟩
 have o7:l.length≤140737488355328:=dr (o:=false) (bJ 0).1
 refine aB ?_
 refine bN ?_
 refine ag (fun J=>?_) (fun J=>?_)
 · refine bn rfl fun _=>?_
   show K (.tuple [.str ([]), .err 115 2]) m
   have e:ht l=([],2):=by rw [ht,if_pos J]
   rw [e] at U;exact U
 refine D9 (eb:=5) vx.choose_spec.1 vx.choose_spec.2 rfl ?_
 refine aB ?_
 refine bN ?_
 refine cH (σ:=Int×ar) [] [4,22,23,24] 1 (fun ⟨i,gy⟩=>([(4, .loc 0 0),(22,aH (l.map ey)),(23,ax (l.length:Int)),(24,ax i)],[.obj (.bX 112 5 (gy.map bC))],m)) (fun ⟨i,gy⟩=>0≤i∧i≤l.length∧(l.length:Int)≤8∧hn iR l=gy++hn iR (l.drop i.toNat)∧hM l=hM (l.drop i.toNat)∧(gy.length:Int)≤80000000*i) (fun ⟨i,gy⟩=>l.length- i.toNat) (0,([]:ar)) ⟨rfl,rfl⟩ ?_ ?_
 · try dsimp only
   exact ⟨by omega,by omega,by omega,rfl,rfl,by simp⟩
 rintro ⟨i,gy⟩ aE
 dsimp only at aE
 obtain ⟨cq,bl,gx,gG,k3,Vy⟩:=aE
 refine aB ?_
 refine ag (fun aa=>?_) (fun aa=>?_)
 · refine aB ?_
   refine cX (by omega) ?_
   refine cG (fun _=>Lx (I l i)) rfl ?_
   refine aB ?_
   refine ag (fun aj=>?_) (fun aj=>?_)
   · have ps:=L7 aj
     have fN:=L8 ps
     have Ff:=ps.nm
     have L9:=ps.li
     have Ma:=ps.ur
     have kG:=ps.ba
     have b4:=su iR cq aa
     refine ag (by (first|omega|(simp only [List.length_append,List.length_cons,List.length_nil];omega))) ?_
     refine ag (by (first|omega|(simp only [List.length_append,List.length_cons,List.length_nil];omega))) ?_
     refine dw [0] [.obj (.bX 112 5 ((gy++((([115,116,97,99,107,32]:List UInt8)++((I l i).name))++([10]:List UInt8))).map bC))] (.aI (.tuple [.int .i64 (((([115,116,97,99,107,32]:List UInt8)++((I l i).name))++([10]:List UInt8)).length:Int), .nilIface])) rfl (fun bs ai gd=>fG (bs.getD 0 0) gy ((([115,116,97,99,107,32]:List UInt8)++((I l i).name))++([10]:List UInt8)) (by first|omega|(simp only [List.length_append,List.length_cons,List.length_nil];omega)) ai) ?_
     refine aB ?_
     refine bN ?_
     refine cH (σ:=Int×ar) [] [4,6,22,23,24,39,40,41] 2 (fun ⟨i1,cU⟩=>([(4, .loc 0 0),(6, .loc 1 0),(22,aH (l.map ey)),(23,ax (l.length:Int)),(24,ax i),(39,aH (((I l i).ins).map dD)),(40,ax (((I l i).ins).length:Int)),(41,ax i1)],[.obj (.bX 112 5 (cU.map bC)), .cells [ay ((I l i).name),aH (((I l i).ins).map dD),aH (((I l i).res).map dG),aH (((I l i).outs).map cQ)]],m)) (fun ⟨i1,cU⟩=>0≤i1∧i1≤(I l i).ins.length∧gy++iR (I l i)=cU++(hn pg ((I l i).ins.drop i1.toNat)++hn k2 (I l i).res++hn mc (I l i).outs)) (fun ⟨i1,cU⟩=>(I l i).ins.length- i1.toNat) (0,gy++((([115,116,97,99,107,32]:List UInt8)++((I l i).name))++([10]:List UInt8))) ⟨rfl,rfl⟩ ?_ ?_
     · try dsimp only
       exact ⟨by omega,by omega,by simp only [iR,List.append_assoc];rfl⟩
     rintro ⟨i1,cU⟩ bK
     dsimp only at bK
     obtain ⟨km,hK,aF⟩:=bK
     have qX:=congrArg List.length aF
     simp only [List.length_append,List.length_cons,List.length_nil] at qX
     refine aB ?_
     refine ag (fun aG=>?_) (fun aG=>?_)
     · have an:=ps.i _ (bF km aG)
       have yZ:=an.2
       have Bp:=vy yZ
       have bp:=an.1
       have ao:=su pg km aG
       refine aB ?_
       refine cX (by omega) ?_
       refine hG [] [] (.aI (.tuple [.str (h6 ((I ((I l i).ins) i1).2)), .err 115 0])) rfl (fun bs ai gd aq=>fun K U=>K7 ((I ((I l i).ins) i1).2) yZ ai K (cW.up aq aP) U) ?_
       refine ag (by (first|omega|(simp only [List.length_append,List.length_cons,List.length_nil];omega))) ?_
       refine ag (by (first|omega|(simp only [List.length_append,List.length_cons,List.length_nil];omega))) ?_
       refine ag (by (first|omega|(simp only [List.length_append,List.length_cons,List.length_nil];omega))) ?_
       refine ag (by (first|omega|(simp only [List.length_append,List.length_cons,List.length_nil];omega))) ?_
       refine dw [0] [.obj (.bX 112 5 ((cU++((((([105,110,112,117,116,32]:List UInt8)++((I ((I l i).ins) i1).1))++([32,61,32]:List UInt8))++(h6 ((I ((I l i).ins) i1).2)))++([10]:List UInt8))).map bC))] (.aI (.tuple [.int .i64 (((((([105,110,112,117,116,32]:List UInt8)++((I ((I l i).ins) i1).1))++([32,61,32]:List UInt8))++(h6 ((I ((I l i).ins) i1).2)))++([10]:List UInt8)).length:Int), .nilIface])) rfl (fun bs ai gd=>fG (bs.getD 0 0) cU ((((([105,110,112,117,116,32]:List UInt8)++((I ((I l i).ins) i1).1))++([32,61,32]:List UInt8))++(h6 ((I ((I l i).ins) i1).2)))++([10]:List UInt8)) (by first|omega|(simp only [List.length_append,List.length_cons,List.length_nil];omega)) ai) ?_
       refine ag (by omega) ?_
       refine ⟨(i1+1,cU++((((([105,110,112,117,116,32]:List UInt8)++((I ((I l i).ins) i1).1))++([32,61,32]:List UInt8))++(h6 ((I ((I l i).ins) i1).2)))++([10]:List UInt8))),⟨rfl,rfl⟩,?_,?_⟩
       · try dsimp only
         exact ⟨by omega,by omega,by rw [aF,ao];simp only [pg,List.append_assoc]⟩
       try dsimp only
       omega
     refine aB ?_
     refine bN ?_
     refine cH (σ:=Int×ar) [] [4,6,22,23,24,61,62,63] 2 (fun ⟨i2,eP⟩=>([(4, .loc 0 0),(6, .loc 1 0),(22,aH (l.map ey)),(23,ax (l.length:Int)),(24,ax i),(61,aH (((I l i).res).map dG)),(62,ax (((I l i).res).length:Int)),(63,ax i2)],[.obj (.bX 112 5 (eP.map bC)), .cells [ay ((I l i).name),aH (((I l i).ins).map dD),aH (((I l i).res).map dG),aH (((I l i).outs).map cQ)]],m)) (fun ⟨i2,eP⟩=>0≤i2∧i2≤(I l i).res.length∧gy++iR (I l i)=eP++(hn k2 ((I l i).res.drop i2.toNat)++hn mc (I l i).outs)) (fun ⟨i2,eP⟩=>(I l i).res.length- i2.toNat) (0,cU) ⟨rfl,rfl⟩ ?_ ?_
     · try dsimp only
       exact ⟨by omega,by omega,by rw [aF,sv pg (by omega)];rfl⟩
     rintro ⟨i2,eP⟩ ek
     dsimp only at ek
     obtain ⟨z2,fw,az⟩:=ek
     have qy:=congrArg List.length az
     simp only [List.length_append,List.length_cons,List.length_nil] at qy
     refine aB ?_
     refine ag (fun aR=>?_) (fun aR=>?_)
     · have an:=ps.r _ (bF z2 aR)
       have D6:=an.1
       have vp:=an.2.1
       have Vz:=an.2.2.1
       have ao:=su k2 z2 aR
       have qn:=FR an.2.2 true
       have Gw:(k2 (I (I l i).res i2)).length≤7300000:=by simp only [k2,List.length_append,List.length_cons,List.length_nil];omega
       refine aB ?_
       refine cX (by omega) ?_
       refine ag (by (first|omega|(simp only [List.length_append,List.length_cons,List.length_nil];omega))) ?_
       refine ag (by (first|omega|(simp only [List.length_append,List.length_cons,List.length_nil];omega))) ?_
       refine ag (by (first|omega|(simp only [List.length_append,List.length_cons,List.length_nil];omega))) ?_
       refine ag (by (first|omega|(simp only [List.length_append,List.length_cons,List.length_nil];omega))) ?_
       refine dw [0] [.obj (.bX 112 5 ((eP++((((([114,101,115,111,117,114,99,101,32]:List UInt8)++((I ((I l i).res) i2).kind))++([32]:List UInt8))++((I ((I l i).res) i2).name))++([32,123]:List UInt8))).map bC))] (.aI (.tuple [.int .i64 (((((([114,101,115,111,117,114,99,101,32]:List UInt8)++((I ((I l i).res) i2).kind))++([32]:List UInt8))++((I ((I l i).res) i2).name))++([32,123]:List UInt8)).length:Int), .nilIface])) rfl (fun bs ai gd=>fG (bs.getD 0 0) eP ((((([114,101,115,111,117,114,99,101,32]:List UInt8)++((I ((I l i).res) i2).kind))++([32]:List UInt8))++((I ((I l i).res) i2).name))++([32,123]:List UInt8)) (by first|omega|(simp only [List.length_append,List.length_cons,List.length_nil];omega)) ai) ?_
       refine aB ?_
       refine bN ?_
       refine cH (σ:=Int×ar) [] [4,6,22,23,24,61,62,63,77,78,79] 3 (fun ⟨k,eN⟩=>([(4, .loc 0 0),(6, .loc 1 0),(22,aH (l.map ey)),(23,ax (l.length:Int)),(24,ax i),(61,aH (((I l i).res).map dG)),(62,ax (((I l i).res).length:Int)),(63,ax i2),(77,aH (((I ((I l i).res) i2).parts).map cQ)),(78,ax (((I ((I l i).res) i2).parts).length:Int)),(79,ax k)],[.obj (.bX 112 5 (eN.map bC)), .cells [ay ((I l i).name),aH (((I l i).ins).map dD),aH (((I l i).res).map dG),aH (((I l i).outs).map cQ)], .cells [ay ((I ((I l i).res) i2).kind),ay ((I ((I l i).res) i2).name),aH (((I ((I l i).res) i2).parts).map cQ)]],m)) (fun ⟨k,eN⟩=>0≤k∧k≤(I (I l i).res i2).parts.length∧eP++k2 (I (I l i).res i2)=eN++(kg ((I (I l i).res i2).parts.drop k.toNat) (k==0)++[32,125,10])) (fun ⟨k,eN⟩=>(I (I l i).res i2).parts.length- k.toNat) (0,eP++((((([114,101,115,111,117,114,99,101,32]:List UInt8)++((I ((I l i).res) i2).kind))++([32]:List UInt8))++((I ((I l i).res) i2).name))++([32,123]:List UInt8))) ⟨rfl,rfl⟩ ?_ ?_
       · try dsimp only
         exact ⟨by omega,by omega,by simp only [k2,List.append_assoc];rfl⟩
       rintro ⟨k,eN⟩ ma
       dsimp only at ma
       obtain ⟨z3,nz,cS⟩:=ma
       have FT:=congrArg List.length cS
       simp only [List.length_append,List.length_cons,List.length_nil] at FT
       refine aB ?_
       refine ag (fun bu=>?_) (fun bu=>?_)
       · have aK:=an.2.2.2 _ (bF z3 bu)
         have j8:=aK.2
         have pK:=uh j8
         have FU:=aK.1
         refine aB ?_
         refine cX (by omega) ?_
         refine aB ?_
         refine ag (fun cD=>?_) (fun cD=>?_)
         · refine dw [0] [.obj (.bX 112 5 ((eN++([44]:List UInt8)).map bC))] (.aI (.tuple [.int .i64 (([44]:List UInt8).length:Int), .nilIface])) rfl (fun bs ai gd=>fG (bs.getD 0 0) eN ([44]:List UInt8) (by first|omega|(simp only [List.length_append,List.length_cons,List.length_nil];omega)) ai) ?_
           refine ag (by (first|omega|(simp only [List.length_append,List.length_cons,List.length_nil];omega))) ?_
           refine ag (by (first|omega|(simp only [List.length_append,List.length_cons,List.length_nil];omega))) ?_
           refine dw [0] [.obj (.bX 112 5 (((eN++([44]:List UInt8))++((([32]:List UInt8)++((I ((I ((I l i).res) i2).parts) k).1))++([58,32]:List UInt8))).map bC))] (.aI (.tuple [.int .i64 (((([32]:List UInt8)++((I ((I ((I l i).res) i2).parts) k).1))++([58,32]:List UInt8)).length:Int), .nilIface])) rfl (fun bs ai gd=>fG (bs.getD 0 0) (eN++([44]:List UInt8)) ((([32]:List UInt8)++((I ((I ((I l i).res) i2).parts) k).1))++([58,32]:List UInt8)) (by first|omega|(simp only [List.length_append,List.length_cons,List.length_nil];omega)) ai) ?_
           refine hG [0] [.obj (.bX 112 5 ((((eN++([44]:List UInt8))++((([32]:List UInt8)++((I ((I ((I l i).res) i2).parts) k).1))++([58,32]:List UInt8)))++iu ((I ((I ((I l i).res) i2).parts) k).2)).map bC))] (.da []) rfl (fun bs ai gd aq=>yK (cZ ((I ((I ((I l i).res) i2).parts) k).2)+1) ((I ((I ((I l i).res) i2).parts) k).2) ((eN++([44]:List UInt8))++((([32]:List UInt8)++((I ((I ((I l i).res) i2).parts) k).1))++([58,32]:List UInt8))) (Nat.lt_succ_self _) (sk j8).1 (by unfold iu at pK;(first|omega|(simp only [List.length_append,List.length_cons,List.length_nil];omega))) (bs.getD 0 0) ai gd (cW.up aq aP)) ?_
           refine ag (by omega) ?_
           refine ⟨(k+1,((eN++([44]:List UInt8))++((([32]:List UInt8)++((I ((I ((I l i).res) i2).parts) k).1))++([58,32]:List UInt8)))++iu ((I ((I ((I l i).res) i2).parts) k).2)),⟨rfl,rfl⟩,?_,?_⟩
           · try dsimp only
             exact ⟨by omega,by omega,by rw [cS,L1 z3 bu cD];simp only [List.append_assoc]⟩
           try dsimp only
           omega
         refine ag (by (first|omega|(simp only [List.length_append,List.length_cons,List.length_nil];omega))) ?_
         refine ag (by (first|omega|(simp only [List.length_append,List.length_cons,List.length_nil];omega))) ?_
         refine dw [0] [.obj (.bX 112 5 ((eN++((([32]:List UInt8)++((I ((I ((I l i).res) i2).parts) k).1))++([58,32]:List UInt8))).map bC))] (.aI (.tuple [.int .i64 (((([32]:List UInt8)++((I ((I ((I l i).res) i2).parts) k).1))++([58,32]:List UInt8)).length:Int), .nilIface])) rfl (fun bs ai gd=>fG (bs.getD 0 0) eN ((([32]:List UInt8)++((I ((I ((I l i).res) i2).parts) k).1))++([58,32]:List UInt8)) (by first|omega|(simp only [List.length_append,List.length_cons,List.length_nil];omega)) ai) ?_
         refine hG [0] [.obj (.bX 112 5 (((eN++((([32]:List UInt8)++((I ((I ((I l i).res) i2).parts) k).1))++([58,32]:List UInt8)))++iu ((I ((I ((I l i).res) i2).parts) k).2)).map bC))] (.da []) rfl (fun bs ai gd aq=>yK (cZ ((I ((I ((I l i).res) i2).parts) k).2)+1) ((I ((I ((I l i).res) i2).parts) k).2) (eN++((([32]:List UInt8)++((I ((I ((I l i).res) i2).parts) k).1))++([58,32]:List UInt8))) (Nat.lt_succ_self _) (sk j8).1 (by unfold iu at pK;(first|omega|(simp only [List.length_append,List.length_cons,List.length_nil];omega))) (bs.getD 0 0) ai gd (cW.up aq aP)) ?_
         refine ag (by omega) ?_
         refine ⟨(k+1,(eN++((([32]:List UInt8)++((I ((I ((I l i).res) i2).parts) k).1))++([58,32]:List UInt8)))++iu ((I ((I ((I l i).res) i2).parts) k).2)),⟨rfl,rfl⟩,?_,?_⟩
         · try dsimp only
           exact ⟨by omega,by omega,by rw [cS,L0 z3 bu (by omega)];simp only [List.append_assoc]⟩
         try dsimp only
         omega
       refine dw [0] [.obj (.bX 112 5 ((eN++([32,125,10]:List UInt8)).map bC))] (.aI (.tuple [.int .i64 (([32,125,10]:List UInt8).length:Int), .nilIface])) rfl (fun bs ai gd=>fG (bs.getD 0 0) eN ([32,125,10]:List UInt8) (by first|omega|(simp only [List.length_append,List.length_cons,List.length_nil];omega)) ai) ?_
       refine ag (by omega) ?_
       refine ⟨(i2+1,eN++([32,125,10]:List UInt8)),⟨rfl,rfl⟩,?_,?_⟩
       · try dsimp only
         have iB:eP++k2 (I (I l i).res i2)=eN++[32,125,10]:=by rw [cS,L2 (by omega)];rfl
         exact ⟨by omega,by omega,by rw [az,ao,←iB];simp only [List.append_assoc]⟩
       try dsimp only
       omega
     refine bN ?_
     refine cH (σ:=Int×ar) [] [4,22,23,24,99,100,101] 2 (fun ⟨i3,ie⟩=>([(4, .loc 0 0),(22,aH (l.map ey)),(23,ax (l.length:Int)),(24,ax i),(99,aH (((I l i).outs).map cQ)),(100,ax (((I l i).outs).length:Int)),(101,ax i3)],[.obj (.bX 112 5 (ie.map bC)), .cells [ay ((I l i).name),aH (((I l i).ins).map dD),aH (((I l i).res).map dG),aH (((I l i).outs).map cQ)]],m)) (fun ⟨i3,ie⟩=>0≤i3∧i3≤(I l i).outs.length∧gy++iR (I l i)=ie++hn mc ((I l i).outs.drop i3.toNat)) (fun ⟨i3,ie⟩=>(I l i).outs.length- i3.toNat) (0,eP) ⟨rfl,rfl⟩ ?_ ?_
     · try dsimp only
       exact ⟨by omega,by omega,by rw [az,sv k2 (by omega)];rfl⟩
     rintro ⟨i3,ie⟩ ma
     dsimp only at ma
     obtain ⟨z4,nA,eO⟩:=ma
     have FV:=congrArg List.length eO
     simp only [List.length_append,List.length_cons,List.length_nil] at FV
     refine aB ?_
     refine ag (fun cK=>?_) (fun cK=>?_)
     · have aK:=ps.o _ (bF z4 cK)
       have j8:=aK.2
       have pK:=uh j8
       have FU:=aK.1
       have ao:=su mc z4 cK
       refine aB ?_
       refine cX (by omega) ?_
       refine ag (by (first|omega|(simp only [List.length_append,List.length_cons,List.length_nil];omega))) ?_
       refine ag (by (first|omega|(simp only [List.length_append,List.length_cons,List.length_nil];omega))) ?_
       refine dw [0] [.obj (.bX 112 5 ((ie++((([111,117,116,112,117,116,32]:List UInt8)++((I ((I l i).outs) i3).1))++([32,61,32]:List UInt8))).map bC))] (.aI (.tuple [.int .i64 (((([111,117,116,112,117,116,32]:List UInt8)++((I ((I l i).outs) i3).1))++([32,61,32]:List UInt8)).length:Int), .nilIface])) rfl (fun bs ai gd=>fG (bs.getD 0 0) ie ((([111,117,116,112,117,116,32]:List UInt8)++((I ((I l i).outs) i3).1))++([32,61,32]:List UInt8)) (by first|omega|(simp only [List.length_append,List.length_cons,List.length_nil];omega)) ai) ?_
       refine hG [0] [.obj (.bX 112 5 (((ie++((([111,117,116,112,117,116,32]:List UInt8)++((I ((I l i).outs) i3).1))++([32,61,32]:List UInt8)))++iu ((I ((I l i).outs) i3).2)).map bC))] (.da []) rfl (fun bs ai gd aq=>yK (cZ ((I ((I l i).outs) i3).2)+1) ((I ((I l i).outs) i3).2) (ie++((([111,117,116,112,117,116,32]:List UInt8)++((I ((I l i).outs) i3).1))++([32,61,32]:List UInt8))) (Nat.lt_succ_self _) (sk j8).1 (by unfold iu at pK;(first|omega|(simp only [List.length_append,List.length_cons,List.length_nil];omega))) (bs.getD 0 0) ai gd (cW.up aq aP)) ?_
       refine dw [0] [.obj (.bX 112 5 ((((ie++((([111,117,116,112,117,116,32]:List UInt8)++((I ((I l i).outs) i3).1))++([32,61,32]:List UInt8)))++iu ((I ((I l i).outs) i3).2))++([10]:List UInt8)).map bC))] (.aI (.tuple [.int .i64 (([10]:List UInt8).length:Int), .nilIface])) rfl (fun bs ai gd=>fG (bs.getD 0 0) ((ie++((([111,117,116,112,117,116,32]:List UInt8)++((I ((I l i).outs) i3).1))++([32,61,32]:List UInt8)))++iu ((I ((I l i).outs) i3).2)) ([10]:List UInt8) (by first|omega|(simp only [List.length_append,List.length_cons,List.length_nil];omega)) ai) ?_
       refine ag (by omega) ?_
       refine ⟨(i3+1,((ie++((([111,117,116,112,117,116,32]:List UInt8)++((I ((I l i).outs) i3).1))++([32,61,32]:List UInt8)))++iu ((I ((I l i).outs) i3).2))++([10]:List UInt8)),⟨rfl,rfl⟩,?_,?_⟩
       · try dsimp only
         exact ⟨by omega,by omega,by rw [eO,ao];simp only [mc,List.append_assoc]⟩
       try dsimp only
       omega
     refine ag (by omega) ?_
     refine ⟨(i+1,ie),⟨rfl,rfl⟩,?_,?_⟩
     · try dsimp only
       have y0:gy++iR (I l i)=ie:=by rw [eO,sv mc (by omega),List.append_nil]
       have bu:=congrArg List.length y0
       simp only [List.length_append] at bu
       exact ⟨by omega,by omega,by omega,by rw [gG,b4,←y0,List.append_assoc],by rw [k3,BE cq aa,if_pos aj],by omega⟩
     try dsimp only
     omega
   refine bn rfl fun _=>?_
   show K (.tuple [.str ([]), .err 115 (e6 (I l i))]) m
   have q:hM l=e6 (I l i):=by rw [k3,BE cq aa,if_neg aj]
   have e:ht l=([],e6 (I l i)):=by rw [ht,if_neg (by omega),if_neg (by rw [q];exact aj),q]
   rw [e] at U;exact U
 have hw:hn iR l=gy:=by rw [gG,sv iR (by omega),List.append_nil]
 have he:hM l=0:=by rw [k3,List.drop_eq_nil_of_le (by omega),hM]
 refine aB ?_
 refine dw [0] [.obj (.bX 112 5 (gy.map bC))] (ax (gy.length:Int)) rfl (fun bs ai gd=>Vu (bs.getD 0 0) gy (by first|omega|(simp only [List.length_append,List.length_cons,List.length_nil];omega)) ai) ?_
 refine ag (fun cC=>?_) (fun cC=>?_)
 · refine bn rfl fun _=>?_
   show K (.tuple [.str ([]), .err 115 2]) m
   have e:ht l=([],2):=by rw [ht,if_neg (by omega),if_pos he,hw,if_pos cC]
   rw [e] at U;exact U
 refine dw [0] [.cells [.aI (.aV), .aI (.aV)]] (ay gy) rfl (fun bs ai gd=>Ex (bs.getD 0 0) gy ai) ?_
 refine bn rfl fun _=>?_
 show K (.tuple [.str gy, .err 115 0]) m
 have e:ht l=(gy,0):=by rw [ht,if_neg (by omega),if_pos he,hw,if_neg (by omega)]
 rw [e] at U;exact U
end Go.Proofs
end
section
namespace Go.Proofs
open Go Go.bg Go.cz
set_option maxRecDepth 100000
theorem Mb:∀l,0≤oA l
 |[]=>Int.le_refl _
 |p::r=>by rw [oA];split;(· exact Mb r);(· decide)
theorem Mc (l:List (ar×au)):∀n i,0≤k0 l n i
 |0,_=>by rw [k0];exact Int.le_refl _
 |n+1,i=>by
  rw [k0];split
  · split
    · exact Mc l n _
    · exact uf _
  · decide
theorem Md:∀l,0≤mZ l
 |[]=>by rw [mZ];exact Int.le_refl _
 |x::r=>by
  rw [mZ];split
  · split
    · decide
    · split
      · exact Md r
      · exact Mc ..
  · decide
theorem Me:∀l,0≤na l
 |[]=>by rw [na];exact Int.le_refl _
 |p::r=>by
  rw [na];split
  · split
    · exact Me r
    · exact uf _
  · decide
theorem y1 (s:dm):0≤e6 s:=by
 unfold e6 so sn
 have J:=Mb s.ins
 have aa:=Md s.res
 have aj:=Me s.outs
 split
 · decide
 · split
   · decide
   · split
     · exact J
     · split
       · exact aa
       · exact aj
set_option maxHeartbeats 4000000 in
theorem VA (l:List dm) (ah:∀s∈l,FQ s) (m:ae) (K:ab→ae→Prop) (U:K (.tuple [.str (ht l).1, .int .i64 (ht l).2]) m):bh Tryz.prog 30 [.slice false (l.map ey)] m K:=by
 refine enter (c:=cT [] [0] [] [] [] []) (vs:=[.aI (.slice false (l.map ey))]) (L:=[]) (m:=m) false b2 Tryz.mixed Tryz.func30 rfl (k:=1) (by show cO [] _ _ _=true;decide+kernel) rfl (Good.nil m) ?_
 refine ⟨fun bJ=>?_⟩
 have o7:l.length≤140737488355328:=dr (o:=false) (bJ 0).1
 refine aB ?_
 refine bN ?_
 refine ag (fun J=>?_) (fun J=>?_)
 · refine bn rfl fun _=>?_
   show K (.tuple [.str ([]), .int .i64 2]) m
   have e:ht l=([],2):=by rw [ht,if_pos J]
   rw [e] at U;exact U
 refine aB ?_
 refine cH (σ:=(List UInt8)×Int) [] [0,4,5] 0 (fun ⟨gy,i⟩=>([(0,aH (l.map ey)),(4,ay gy),(5,ax i)],[],m)) (fun ⟨gy,i⟩=>0≤i∧i≤l.length∧(l.length:Int)≤8∧hn iR l=gy++hn iR (l.drop i.toNat)∧hM l=hM (l.drop i.toNat)∧(gy.length:Int)≤80000000*i) (fun ⟨gy,i⟩=>l.length- i.toNat) ([],0) ⟨rfl,rfl⟩ ?_ ?_
 · try dsimp only
   exact ⟨by omega,by omega,by omega,rfl,rfl,by simp⟩
 rintro ⟨gy,i⟩ aE
 dsimp only at aE
 obtain ⟨cq,bl,gx,gG,k3,Vy⟩:=aE
 refine aB ?_
 refine bN ?_
 refine ag (fun aa=>?_) (fun aa=>?_)
 · refine aB ?_
   refine cX (by omega) ?_
   refine aB ?_
   refine cG (fun _=>LY (I l i) (ah _ (bF cq aa))) rfl ?_
   refine ag (fun aj=>?_) (fun aj=>?_)
   · refine bn rfl fun _=>?_
     show K (.tuple [.str ([]), .int .i64 (e6 (I l i))]) m
     have aj:e6 (I l i)≠0:=by omega
     have q:hM l=e6 (I l i):=by rw [k3,BE cq aa,if_neg aj]
     have e:ht l=([],e6 (I l i)):=by rw [ht,if_neg (by omega),if_neg (by rw [q];exact aj),q]
     rw [e] at U;exact U
   have aj:e6 (I l i)=0:=by have:=y1 (I l i);omega
   have ps:=L7 aj
   have fN:=L8 ps
   have Ff:=ps.nm
   have L9:=ps.li
   have Ma:=ps.ur
   have kG:=ps.ba
   have b4:=su iR cq aa
   refine ag (by (first|omega|(simp only [List.length_append,List.length_cons,List.length_nil];omega))) ?_
   refine ag (by (first|omega|(simp only [List.length_append,List.length_cons,List.length_nil];omega))) ?_
   refine ag (by (first|omega|(simp only [List.length_append,List.length_cons,List.length_nil];omega))) ?_
   refine aB ?_
   refine cH (σ:=(List UInt8)×Int) [] [0,4,5,6,8] 1 (fun ⟨cU,i1⟩=>([(0,aH (l.map ey)),(4,ay cU),(5,ax i),(6, .loc 0 0),(8,ax i1)],[.cells [ay ((I l i).name),aH (((I l i).ins).map dD),aH (((I l i).res).map dG),aH (((I l i).outs).map cQ)]],m)) (fun ⟨cU,i1⟩=>0≤i1∧i1≤(I l i).ins.length∧gy++iR (I l i)=cU++(hn pg ((I l i).ins.drop i1.toNat)++hn k2 (I l i).res++hn mc (I l i).outs)) (fun ⟨cU,i1⟩=>(I l i).ins.length- i1.toNat) (((gy++([115,116,97,99,107,32]:List UInt8))++((I l i).name))++([10]:List UInt8),0) ⟨rfl,rfl⟩ ?_ ?_
   · try dsimp only
     exact ⟨by omega,by omega,by simp only [iR,List.append_assoc];rfl⟩
   rintro ⟨cU,i1⟩ bK
   dsimp only at bK
   obtain ⟨km,hK,aF⟩:=bK
   have qX:=congrArg List.length aF
   simp only [List.length_append,List.length_cons,List.length_nil] at qX
   refine aB ?_
   refine bN ?_
   refine ag (fun aG=>?_) (fun aG=>?_)
   · have an:=ps.i _ (bF km aG)
     have yZ:=an.2
     have Bp:=vy yZ
     have JC:=Bp
     unfold h6 at JC
     have bp:=an.1
     have ao:=su pg km aG
     refine aB ?_
     refine ag (by (first|omega|(simp only [List.length_append,List.length_cons,List.length_nil];omega))) ?_
     refine cX (by omega) ?_
     refine ag (by (first|omega|(simp only [List.length_append,List.length_cons,List.length_nil];omega))) ?_
     refine ag (by (first|omega|(simp only [List.length_append,List.length_cons,List.length_nil];omega))) ?_
     refine cX (by omega) ?_
     refine gN (fun _=>EC (bI ((I ((I l i).ins) i1).2)+1) ((I ((I l i).ins) i1).2) (Nat.lt_succ_self _) (yr yZ).1 (by unfold h6 at Bp;omega)) ?_
     refine ag (by (first|omega|(simp only [List.length_append,List.length_cons,List.length_nil];omega))) ?_
     refine ag (by (first|omega|(simp only [List.length_append,List.length_cons,List.length_nil];omega))) ?_
     refine ag (by omega) ?_
     refine ⟨(((((cU++([105,110,112,117,116,32]:List UInt8))++((I ((I l i).ins) i1).1))++([32,61,32]:List UInt8))++(h6 ((I ((I l i).ins) i1).2)))++([10]:List UInt8),i1+1),⟨rfl,rfl⟩,?_,?_⟩
     · try dsimp only
       exact ⟨by omega,by omega,by rw [aF,ao];simp only [pg,List.append_assoc]⟩
     try dsimp only
     omega
   refine aB ?_
   refine cH (σ:=(List UInt8)×Int) [] [0,4,5,6,9] 1 (fun ⟨eP,i2⟩=>([(0,aH (l.map ey)),(4,ay eP),(5,ax i),(6, .loc 0 0),(9,ax i2)],[.cells [ay ((I l i).name),aH (((I l i).ins).map dD),aH (((I l i).res).map dG),aH (((I l i).outs).map cQ)]],m)) (fun ⟨eP,i2⟩=>0≤i2∧i2≤(I l i).res.length∧gy++iR (I l i)=eP++(hn k2 ((I l i).res.drop i2.toNat)++hn mc (I l i).outs)) (fun ⟨eP,i2⟩=>(I l i).res.length- i2.toNat) (cU,0) ⟨rfl,rfl⟩ ?_ ?_
   · try dsimp only
     exact ⟨by omega,by omega,by rw [aF,sv pg (by omega)];rfl⟩
   rintro ⟨eP,i2⟩ ek
   dsimp only at ek
   obtain ⟨z2,fw,az⟩:=ek
   have qy:=congrArg List.length az
   simp only [List.length_append,List.length_cons,List.length_nil] at qy
   refine aB ?_
   refine bN ?_
   refine ag (fun aR=>?_) (fun aR=>?_)
   · have an:=ps.r _ (bF z2 aR)
     have D6:=an.1
     have vp:=an.2.1
     have Vz:=an.2.2.1
     have ao:=su k2 z2 aR
     have qn:=FR an.2.2 true
     refine aB ?_
     refine cX (by omega) ?_
     refine aB ?_
     refine cH (σ:=(List UInt8)×Int) [] [0,4,5,6,9,10,11,12] 2 (fun ⟨eN,k⟩=>([(0,aH (l.map ey)),(4,ay eP),(5,ax i),(6, .loc 0 0),(9,ax i2),(10, .loc 1 0),(11,ay eN),(12,ax k)],[.cells [ay ((I l i).name),aH (((I l i).ins).map dD),aH (((I l i).res).map dG),aH (((I l i).outs).map cQ)], .cells [ay ((I ((I l i).res) i2).kind),ay ((I ((I l i).res) i2).name),aH (((I ((I l i).res) i2).parts).map cQ)]],m)) (fun ⟨eN,k⟩=>0≤k∧k≤(I (I l i).res i2).parts.length∧kg (I (I l i).res i2).parts true=eN++kg ((I (I l i).res i2).parts.drop k.toNat) (k==0)) (fun ⟨eN,k⟩=>(I (I l i).res i2).parts.length- k.toNat) ([],0) ⟨rfl,rfl⟩ ?_ ?_
     · try dsimp only
       exact ⟨by omega,by omega,rfl⟩
     rintro ⟨eN,k⟩ ma
     dsimp only at ma
     obtain ⟨z3,nz,cS⟩:=ma
     have FT:=congrArg List.length cS
     simp only [List.length_append,List.length_cons,List.length_nil] at FT
     refine aB ?_
     refine bN ?_
     refine ag (fun bu=>?_) (fun bu=>?_)
     · have aK:=an.2.2.2 _ (bF z3 bu)
       have j8:=aK.2
       have pK:=uh j8
       have FU:=aK.1
       refine aB ?_
       refine aB ?_
       refine ag (fun cD=>?_) (fun cD=>?_)
       · refine ag (by (first|omega|(simp only [List.length_append,List.length_cons,List.length_nil];omega))) ?_
         refine ag (by (first|omega|(simp only [List.length_append,List.length_cons,List.length_nil];omega))) ?_
         refine cX (by omega) ?_
         refine ag (by (first|omega|(simp only [List.length_append,List.length_cons,List.length_nil];omega))) ?_
         refine ag (by (first|omega|(simp only [List.length_append,List.length_cons,List.length_nil];omega))) ?_
         refine cX (by omega) ?_
         refine gN (fun _=>Ft ((I ((I ((I l i).res) i2).parts) k).2) j8) ?_
         refine ag (by (first|omega|(simp only [List.length_append,List.length_cons,List.length_nil];omega))) ?_
         refine ag (by omega) ?_
         refine ⟨(((((eN++([44]:List UInt8))++([32]:List UInt8))++((I ((I ((I l i).res) i2).parts) k).1))++([58,32]:List UInt8))++(iu ((I ((I ((I l i).res) i2).parts) k).2)),k+1),⟨rfl,rfl⟩,?_,?_⟩
         · try dsimp only
           exact ⟨by omega,by omega,by rw [cS,L1 z3 bu cD];simp only [List.append_assoc]⟩
         try dsimp only
         omega
       refine ag (by (first|omega|(simp only [List.length_append,List.length_cons,List.length_nil];omega))) ?_
       refine cX (by omega) ?_
       refine ag (by (first|omega|(simp only [List.length_append,List.length_cons,List.length_nil];omega))) ?_
       refine ag (by (first|omega|(simp only [List.length_append,List.length_cons,List.length_nil];omega))) ?_
       refine cX (by omega) ?_
       refine gN (fun _=>Ft ((I ((I ((I l i).res) i2).parts) k).2) j8) ?_
       refine ag (by (first|omega|(simp only [List.length_append,List.length_cons,List.length_nil];omega))) ?_
       refine ag (by omega) ?_
       refine ⟨((((eN++([32]:List UInt8))++((I ((I ((I l i).res) i2).parts) k).1))++([58,32]:List UInt8))++(iu ((I ((I ((I l i).res) i2).parts) k).2)),k+1),⟨rfl,rfl⟩,?_,?_⟩
       · try dsimp only
         exact ⟨by omega,by omega,by rw [cS,L0 z3 bu (by omega)];simp only [List.append_assoc]⟩
       try dsimp only
       omega
     refine ag (by (first|omega|(simp only [List.length_append,List.length_cons,List.length_nil];omega))) ?_
     refine ag (by (first|omega|(simp only [List.length_append,List.length_cons,List.length_nil];omega))) ?_
     refine ag (by (first|omega|(simp only [List.length_append,List.length_cons,List.length_nil];omega))) ?_
     refine ag (by (first|omega|(simp only [List.length_append,List.length_cons,List.length_nil];omega))) ?_
     refine ag (by (first|omega|(simp only [List.length_append,List.length_cons,List.length_nil];omega))) ?_
     refine ag (by (first|omega|(simp only [List.length_append,List.length_cons,List.length_nil];omega))) ?_
     refine ag (by (first|omega|(simp only [List.length_append,List.length_cons,List.length_nil];omega))) ?_
     refine ag (by omega) ?_
     refine ⟨(((((((eP++([114,101,115,111,117,114,99,101,32]:List UInt8))++((I ((I l i).res) i2).kind))++([32]:List UInt8))++((I ((I l i).res) i2).name))++([32,123]:List UInt8))++eN)++([32,125,10]:List UInt8),i2+1),⟨rfl,rfl⟩,?_,?_⟩
     · try dsimp only
       have iB:kg (I (I l i).res i2).parts true=eN:=by rw [cS,L2 (by omega),List.append_nil]
       exact ⟨by omega,by omega,by rw [az,ao,k2,iB];simp only [List.append_assoc]⟩
     try dsimp only
     omega
   refine cH (σ:=(List UInt8)×Int) [] [0,4,5,6,13] 1 (fun ⟨ie,i3⟩=>([(0,aH (l.map ey)),(4,ay ie),(5,ax i),(6, .loc 0 0),(13,ax i3)],[.cells [ay ((I l i).name),aH (((I l i).ins).map dD),aH (((I l i).res).map dG),aH (((I l i).outs).map cQ)]],m)) (fun ⟨ie,i3⟩=>0≤i3∧i3≤(I l i).outs.length∧gy++iR (I l i)=ie++hn mc ((I l i).outs.drop i3.toNat)) (fun ⟨ie,i3⟩=>(I l i).outs.length- i3.toNat) (eP,0) ⟨rfl,rfl⟩ ?_ ?_
   · try dsimp only
     exact ⟨by omega,by omega,by rw [az,sv k2 (by omega)];rfl⟩
   rintro ⟨ie,i3⟩ ma
   dsimp only at ma
   obtain ⟨z4,nA,eO⟩:=ma
   have FV:=congrArg List.length eO
   simp only [List.length_append,List.length_cons,List.length_nil] at FV
   refine aB ?_
   refine bN ?_
   refine ag (fun cK=>?_) (fun cK=>?_)
   · have aK:=ps.o _ (bF z4 cK)
     have j8:=aK.2
     have pK:=uh j8
     have FU:=aK.1
     have ao:=su mc z4 cK
     refine aB ?_
     refine ag (by (first|omega|(simp only [List.length_append,List.length_cons,List.length_nil];omega))) ?_
     refine cX (by omega) ?_
     refine ag (by (first|omega|(simp only [List.length_append,List.length_cons,List.length_nil];omega))) ?_
     refine ag (by (first|omega|(simp only [List.length_append,List.length_cons,List.length_nil];omega))) ?_
     refine cX (by omega) ?_
     refine gN (fun _=>Ft ((I ((I l i).outs) i3).2) j8) ?_
     refine ag (by (first|omega|(simp only [List.length_append,List.length_cons,List.length_nil];omega))) ?_
     refine ag (by (first|omega|(simp only [List.length_append,List.length_cons,List.length_nil];omega))) ?_
     refine ag (by omega) ?_
     refine ⟨(((((ie++([111,117,116,112,117,116,32]:List UInt8))++((I ((I l i).outs) i3).1))++([32,61,32]:List UInt8))++(iu ((I ((I l i).outs) i3).2)))++([10]:List UInt8),i3+1),⟨rfl,rfl⟩,?_,?_⟩
     · try dsimp only
       exact ⟨by omega,by omega,by rw [eO,ao];simp only [mc,List.append_assoc]⟩
     try dsimp only
     omega
   refine ag (by omega) ?_
   refine ⟨(ie,i+1),⟨rfl,rfl⟩,?_,?_⟩
   · try dsimp only
     have y0:gy++iR (I l i)=ie:=by rw [eO,sv mc (by omega),List.append_nil]
     have bu:=congrArg List.length y0
     simp only [List.length_append] at bu
     exact ⟨by omega,by omega,by omega,by rw [gG,b4,←y0,List.append_assoc],by rw [k3,BE cq aa,if_pos aj],by omega⟩
   try dsimp only
   omega
 have hw:hn iR l=gy:=by rw [gG,sv iR (by omega),List.append_nil]
 have he:hM l=0:=by rw [k3,List.drop_eq_nil_of_le (by omega),hM]
 refine aB ?_
 refine ag (fun cC=>?_) (fun cC=>?_)
 · refine bn rfl fun _=>?_
   show K (.tuple [.str ([]), .int .i64 2]) m
   have e:ht l=([],2):=by rw [ht,if_neg (by omega),if_pos he,hw,if_pos cC]
   rw [e] at U;exact U
 refine bn rfl fun _=>?_
 show K (.tuple [.str gy, .int .i64 0]) m
 have e:ht l=(gy,0):=by rw [ht,if_neg (by omega),if_pos he,hw,if_neg (by omega)]
 rw [e] at U;exact U
end Go.Proofs
end
section
namespace Go.Proofs
open Go Go.bg Go.cz
set_option maxRecDepth 100000
theorem VB {l:List Tok} {n a:Int} (h:(gD l n a).f=0):ew (gD l n a).x=0:=by
 unfold gD bP.bind at h ⊢
 split
 · rename_i J
   rw [if_pos J] at h
   dsimp only at h ⊢
   split
   · assumption
   · rename_i aa;rw [if_neg aa] at h;exact absurd h aa
 · rename_i J;rw [if_neg J] at h;exact absurd h J
theorem VC {x:au} (h:ew x=0) (al:x.kind=1):q6 x.v=true:=by
 have J:=((p2 x).1 (sk h).1).1
 unfold gp at J
 rcases J with ⟨_,_,_,⟨aa,aj⟩,_,_⟩|⟨_,aa⟩
 · unfold q6;simp [aa,aj]
 · omega
theorem aX.VD {l:List Tok} {n a e q ct aF cq:Int} {x:au} (o:aX l (gD l n a) x a e q ct aF cq) (ak:aF=0):ew x=0:=by
 have J:=o.ok (o.bM ak)
 obtain ⟨rfl,rfl⟩:=J.y ak
 exact VB (by rw [←J.f];exact ak)
theorem FW (l:List Tok) (n a e q:Int) (w:ar) (h:Int) (r:Nat) (av:l.length≤5000) (aJ:0≤a) (aT:a≤l.length) (he:0≤e) (m:ae) (gd:eC [r] m) (K:ab→ae→Prop) (gv:e=0→bq l 1 w a=true→∀bR cj,lG l n 2 a e q bR cj (h=8)→K (.bool true) (ae.aS m [(r, .cells [.slice false (l.map bm), .int .i64 (a+1), .int .i64 n, .int .i64 bR, .int .i64 cj])])) (fq:(e=0→bq l 1 w a=false)→K (.bool false) (ae.aS m [(r, .cells [.slice false (l.map bm), .int .i64 a, .int .i64 n, .int .i64 e, .int .i64 q])])):bh Tryz.prog 155 [.ptr ⟨r,0,none⟩, .str w, .int .i64 h] (ae.aS m [(r, .cells [.slice false (l.map bm), .int .i64 a, .int .i64 n, .int .i64 e, .int .i64 q])]) K:=by
 refine enter (c:=cT [] [] [] [] [] [r]) (vs:=[.loc 0 0, .aI (.str w), .aI (.int .i64 h)]) (L:=[b5 l n a e q]) (m:=m) false b2 Tryz.mixed Tryz.func155 rfl (k:=3) (by show cO [] _ _ _=true;decide+kernel) rfl (gd.gZ rfl) ?_
 refine dw [0] [b5 l n a e q] (jx (jb l 1 w a e)) rfl (fun bs ai gd=>EK l n a e q 1 w (bs.getD 0 0) av (by omega) (by omega) (by omega) ai gd) ?_
 refine aB ?_
 refine ag (fun J=>?_) (fun J=>?_)
 · have aD:=o8 J
   have cl:=gm aD.2
   refine aB ?_
   refine ag (fun aa=>?_) (fun aa=>?_)
   · refine bx 115 [0] (σ:=Int×Int) (fun ⟨bb,bo⟩=>(e=0→bb=2∧bo=cp l n a)∧(e≠0→bb=e∧bo=q)∧0<bb) (fun ⟨bb,bo⟩=> .da []) (fun ⟨bb,bo⟩=>[b5 l n a bb bo]) rfl (fun _=>rfl) (fun bs ai gd aq K U=>mO l n a e q 2 (bs.getD 0 0) (by decide) av (by omega) (by omega) (by omega) ai gd K (fun z=>U (2,cp l n a) ⟨fun _=>⟨rfl,rfl⟩,fun y=>absurd z y,by decide⟩) (fun z=>U (e,q) ⟨fun y=>absurd y z,fun _=>⟨rfl,rfl⟩,by omega⟩)) ?_
     rintro ⟨bb,bo⟩ bp
     dsimp only at bp
     obtain ⟨ly,ku,mP⟩:=bp
     refine ag (by omega) ?_
     refine rt rfl fun _=>?_
     show K (.bool true) (ae.aS m [(r, .cells [.slice false (l.map bm), .int .i64 (a+1), .int .i64 n, .int .i64 bb, .int .i64 bo])])
     exact gv aD.1 aD.2 _ _ ⟨fun _ z=>ly z,fun z=>absurd aa z,fun z=>ku z⟩
   refine ag (by omega) ?_
   refine rt rfl fun _=>?_
   show K (.bool true) (ae.aS m [(r, .cells [.slice false (l.map bm), .int .i64 (a+1), .int .i64 n, .int .i64 e, .int .i64 q])])
   exact gv aD.1 aD.2 _ _ ⟨fun z=>absurd z aa,fun _=>⟨rfl,rfl⟩,fun _=>⟨rfl,rfl⟩⟩
 refine rt rfl fun _=>?_
 show K (.bool false) (ae.aS m [(r, .cells [.slice false (l.map bm), .int .i64 a, .int .i64 n, .int .i64 e, .int .i64 q])])
 exact fq (pV J)
set_option maxHeartbeats 2000000 in
theorem FX (l:List Tok) (n a e q:Int) (k:Nat) (r:Nat) (aO:∀a e q d:Int,d=7- (k:Int)→0≤a→a≤l.length→0≤e→∀(r:Nat) (m:ae),eC [r] m→∀(K:ab→ae→Prop),(∀bH bZ bR cj,aX l (cr l n k a) bH a e q bZ bR cj→K (bU bH) (ae.aS m [(r, .cells [.slice false (l.map bm), .int .i64 bZ, .int .i64 n, .int .i64 bR, .int .i64 cj])]))→bh Tryz.prog 130 [.ptr ⟨r,0,none⟩, .int .i64 d] (ae.aS m [(r, .cells [.slice false (l.map bm), .int .i64 a, .int .i64 n, .int .i64 e, .int .i64 q])]) K) (av:l.length≤5000) (aJ:0≤a) (aT:a≤l.length) (he:0≤e) (al:k=6) (m:ae) (gd:eC [r] m) (K:ab→ae→Prop) (U:∀bH bZ bR cj,aX l (gD l n a) bH a e q bZ bR cj→K (bU bH) (ae.aS m [(r, .cells [.slice false (l.map bm), .int .i64 bZ, .int .i64 n, .int .i64 bR, .int .i64 cj])])):bh Tryz.prog 68 [.ptr ⟨r,0,none⟩] (ae.aS m [(r, .cells [.slice false (l.map bm), .int .i64 a, .int .i64 n, .int .i64 e, .int .i64 q])]) K:=by
 refine enter (c:=cT [] [] [] [] [] [r]) (vs:=[.loc 0 0]) (L:=[b5 l n a e q]) (m:=m) false b2 Tryz.mixed Tryz.func68 rfl (k:=1) (by show cO [] _ _ _=true;decide+kernel) rfl (gd.gZ rfl) ?_
 refine dw [0] [b5 l n a e q] (ax (cp l n a)) rfl (fun bs ai gd=>EJ l n a e q (bs.getD 0 0) av (by omega) (by omega) ai gd) ?_
 refine bx 115 [0] (σ:=au×Int×Int×Int) (fun ⟨bj,bO,bb,bo⟩=>aX l (cr l n k a) bj a e q bO bb bo) (fun ⟨bj,bO,bb,bo⟩=>fR bj) (fun ⟨bj,bO,bb,bo⟩=>[b5 l n bO bb bo]) rfl (fun _=>rfl) (fun bs ai gd aq K U=>aO a e q 1 (by omega) (by omega) (by omega) (by omega) (bs.getD 0 0) ai gd K (fun c1 a8 a1 a6 aC=>U (c1,a8,a1,a6) aC)) ?_
 rintro ⟨bj,bO,bb,bo⟩ bp
 dsimp only at bp
 have pW:=bp.ba
 have mz:=bp.ad
 have pX:=bp.bB
 refine aB ?_
 refine ag (fun J=>?_) (fun J=>?_)
 · refine cG (fun _=>Fg bj (by subst al;exact bp.sz (bp.bM (by assumption)) (by assumption) av aJ)) rfl ?_
   refine ag (fun aa=>?_) (fun aa=>?_)
   · refine rt rfl fun _=>?_
     show K (.agg [.int .i64 bj.kind, .int .i64 bj.v.kind, .int .i64 bj.v.n, .str bj.v.s, .slice false (bj.v.l.map cn), .slice false (bj.v.f.map cB), .str bj.s, .str bj.t, .slice false (bj.a.map bY), .slice false (bj.n.map cm)]) (ae.aS m [(r, .cells [.slice false (l.map bm), .int .i64 bO, .int .i64 n, .int .i64 (ew bj), .int .i64 (cp l n a)])])
     subst al
     exact U _ _ _ _ (bp.Lf (bp.bM J) J (by omega))
   refine rt rfl fun _=>?_
   show K (.agg [.int .i64 bj.kind, .int .i64 bj.v.kind, .int .i64 bj.v.n, .str bj.v.s, .slice false (bj.v.l.map cn), .slice false (bj.v.f.map cB), .str bj.s, .str bj.t, .slice false (bj.a.map bY), .slice false (bj.n.map cm)]) (ae.aS m [(r, .cells [.slice false (l.map bm), .int .i64 bO, .int .i64 n, .int .i64 bb, .int .i64 bo])])
   subst al
   exact U _ _ _ _ (bp.Fl fun _=>by have:=uf bj;omega)
 refine rt rfl fun _=>?_
 show K (.agg [.int .i64 bj.kind, .int .i64 bj.v.kind, .int .i64 bj.v.n, .str bj.v.s, .slice false (bj.v.l.map cn), .slice false (bj.v.f.map cB), .str bj.s, .str bj.t, .slice false (bj.a.map bY), .slice false (bj.n.map cm)]) (ae.aS m [(r, .cells [.slice false (l.map bm), .int .i64 bO, .int .i64 n, .int .i64 bb, .int .i64 bo])])
 subst al
 exact U _ _ _ _ (bp.Fl fun aU=>absurd aU J)
end Go.Proofs
end
section
namespace Go.Proofs
open Go Go.bg Go.cz
set_option maxRecDepth 100000
set_option maxHeartbeats 8000000 in
theorem VE (l:List Tok) (n a e q:Int) (r:Nat) (av:l.length≤5000) (aJ:0≤a) (aT:a≤l.length) (he:0≤e) (hw:lx l) (ak:e=0) (m:ae) (gd:eC [r] m) (K:ab→ae→Prop) (U:∀bH bZ bR cj,aX l (k1 l n a) bH a e q bZ bR cj→K (ey bH) (ae.aS m [(r, .cells [.slice false (l.map bm), .int .i64 bZ, .int .i64 n, .int .i64 bR, .int .i64 cj])])):bh Tryz.prog 84 [.ptr ⟨r,0,none⟩] (ae.aS m [(r, .cells [.slice false (l.map bm), .int .i64 a, .int .i64 n, .int .i64 e, .int .i64 q])]) K:=by
 refine enter (c:=cT [] [] [10,29] [] [] [r]) (vs:=[.loc 0 0]) (L:=[b5 l n a e q]) (m:=m) false b2 Tryz.mixed Tryz.func84 rfl (k:=1) (by show cO [] _ _ _=true;decide+kernel) rfl (gd.gZ rfl) ?_
 refine bx 115 [0] (σ:=ar×Int×Int×Int) (fun ⟨dA,bO,bb,bo⟩=>(aX l (b8 l n 1 ([115,116,97,99,107]:List UInt8) a) dA a e q bO bb bo)∧(bb≠0→dA=[])) (fun ⟨dA,bO,bb,bo⟩=>ay dA) (fun ⟨dA,bO,bb,bo⟩=>[b5 l n bO bb bo]) rfl (fun _=>rfl) (fun bs ai gd aq K U=>gO l n a e q 1 ([115,116,97,99,107]:List UInt8) (bs.getD 0 0) av (by omega) (by omega) (by omega) ai gd K (fun bQ a8 a1 a6 aC ak=>U (bQ,a8,a1,a6) ⟨aC,ak⟩)) ?_
 rintro ⟨dA,bO,bb,bo⟩ bp
 dsimp only at bp
 obtain ⟨bp,px⟩:=bp
 have pW:=bp.ba
 have mz:=bp.ad
 have pX:=bp.bB
 refine bx 115 [0] (σ:=ar×Int×Int×Int) (fun ⟨db,dj,b3,cg⟩=>(aX l (b8 l n 1 ([]) bO) db bO bb bo dj b3 cg)∧(b3≠0→db=[])) (fun ⟨db,dj,b3,cg⟩=>ay db) (fun ⟨db,dj,b3,cg⟩=>[b5 l n dj b3 cg]) rfl (fun _=>rfl) (fun bs ai gd aq K U=>gO l n bO bb bo 1 ([]) (bs.getD 0 0) av (by omega) (by omega) (by omega) ai gd K (fun bQ a8 a1 a6 aC ak=>U (bQ,a8,a1,a6) ⟨aC,ak⟩)) ?_
 rintro ⟨db,dj,b3,cg⟩ cx
 dsimp only at cx
 obtain ⟨cx,zo⟩:=cx
 have qV:=cx.ba
 have ig:=cx.ad
 have qW:=cx.bB
 refine aB ?_
 refine cH (σ:=Int×Int×Int×List (ar×aW)) [] [0,2,3] 3 (fun ⟨a2,az,bl,xs⟩=>([(0, .loc 0 0),(2, .loc 1 0),(3, .loc 2 0)],[b5 l n a2 az bl, .cells [ay ([]), .own [], .own [], .own []], .cells [ay db, .own (xs.map dD), .own [], .own []]],m)) (fun ⟨a2,az,bl,xs⟩=>0≤a2∧a≤a2∧a2≤l.length∧0≤az∧(az=0→(xs.length:Int)≤8)∧xs.length≤9∧(az=0→a<a2)∧∃bV:Nat,(az=0→l.length- a2<bV)∧gq (k1 l n a) a e q a2 az bl (oB l n (FB l n db) bV a2 xs)) (fun ⟨a2,az,bl,xs⟩=>if az=0 then l.length- a2.toNat+1 else 0) (dj,b3,cg,[]) ⟨rfl,rfl⟩ ?_ ?_
 · try dsimp only
   exact ⟨by omega,by omega,by omega,by omega,fun _=>by simp,by simp,fun z=>by have:=bp.gt (cx.bM z);omega,l.length+1,fun _=>by omega,LM bp cx⟩
 rintro ⟨a2,az,bl,xs⟩ aE
 dsimp only at aE
 obtain ⟨FC,FD,FE,FF,q7,Vg,FG,yR,pf,uk⟩:=aE
 refine bN ?_
 refine bx 115 [0] (σ:=(Int×Int) ⊕ (Unit)) (Sum.elim (fun ⟨dX,er⟩=>az=0∧bq l 1 ([105,110,112,117,116]:List UInt8) a2=true∧lG l n 2 a2 az bl dX er ((xs.length:Int)=8)) (fun _=>az=0→bq l 1 ([105,110,112,117,116]:List UInt8) a2=false)) (Sum.elim (fun ⟨dX,er⟩=> .b (.lit true)) (fun _=> .b (.lit false))) (Sum.elim (fun ⟨dX,er⟩=>[b5 l n (a2+1) dX er]) (fun _=>[b5 l n a2 az bl])) rfl (fun x=>by rcases x with _|_<;>rfl) (fun bs ai gd aq K U=>FW l n a2 az bl ([105,110,112,117,116]:List UInt8) (xs.length:Int) (bs.getD 0 0) av (by omega) (by omega) (by omega) ai gd K (fun z w a1 a6 aC=>U (.inl (a1,a6)) ⟨z,w,aC⟩) (fun z=>U (.inr ()) z)) ?_
 rintro (⟨dX,er⟩|_) cP
 · try dsimp only [Sum.elim_inl,Sum.elim_inr] at cP
   have EN:=gm cP.2.1
   have tx:=cP.2.2.bB (by decide) (by omega)
   refine aB ?_
   refine bx 115 [0] (σ:=ar×Int×Int×Int) (fun ⟨fH,c8,de,dM⟩=>(aX l (b8 l n 1 ([]) (a2+1)) fH (a2+1) dX er c8 de dM)∧(de≠0→fH=[])) (fun ⟨fH,c8,de,dM⟩=>ay fH) (fun ⟨fH,c8,de,dM⟩=>[b5 l n c8 de dM]) rfl (fun _=>rfl) (fun bs ai gd aq K U=>gO l n (a2+1) dX er 1 ([]) (bs.getD 0 0) av (by omega) (by omega) (by omega) ai gd K (fun bQ a8 a1 a6 aC ak=>U (bQ,a8,a1,a6) ⟨aC,ak⟩)) ?_
   rintro ⟨fH,c8,de,dM⟩ dd
   dsimp only at dd
   obtain ⟨dd,Kv⟩:=dd
   have vD:=dd.ba
   have vE:=dd.ad
   have vF:=dd.bB
   refine bx 115 [0] (σ:=ar×Int×Int×Int) (fun ⟨gX,e3,dU,eD⟩=>(aX l (b8 l n 4 ([61]:List UInt8) c8) gX c8 de dM e3 dU eD)∧(dU≠0→gX=[])) (fun ⟨gX,e3,dU,eD⟩=>ay gX) (fun ⟨gX,e3,dU,eD⟩=>[b5 l n e3 dU eD]) rfl (fun _=>rfl) (fun bs ai gd aq K U=>gO l n c8 de dM 4 ([61]:List UInt8) (bs.getD 0 0) av (by omega) (by omega) (by omega) ai gd K (fun bQ a8 a1 a6 aC ak=>U (bQ,a8,a1,a6) ⟨aC,ak⟩)) ?_
   rintro ⟨gX,e3,dU,eD⟩ dE
   dsimp only at dE
   obtain ⟨dE,A4⟩:=dE
   have A5:=dE.ba
   have A6:=dE.ad
   have yx:=dE.bB
   refine dw [0] [b5 l n e3 dU eD] (ax (cp l n e3)) rfl (fun bs ai gd=>EJ l n e3 dU eD (bs.getD 0 0) av (by omega) (by omega) ai gd) ?_
   refine bx 115 [0] (σ:=au×Int×Int×Int) (fun ⟨eY,dy,dt,dQ⟩=>aX l (gD l n e3) eY e3 dU eD dy dt dQ) (fun ⟨eY,dy,dt,dQ⟩=>fR eY) (fun ⟨eY,dy,dt,dQ⟩=>[b5 l n dy dt dQ]) rfl (fun _=>rfl) (fun bs ai gd aq K U=>FX l n e3 dU eD 6 (bs.getD 0 0) (Bh l n av hw 6 (by decide)) av (by omega) (by omega) (by omega) rfl ai gd K (fun c1 a8 a1 a6 aC=>U (c1,a8,a1,a6) aC)) ?_
   rintro ⟨eY,dy,dt,dQ⟩ ej
   dsimp only at ej
   have rY:=ej.ba
   have rZ:=ej.ad
   have r0:=ej.bB
   refine aB ?_
   refine cf [0,2,3,5,6,7] 47 ((dt==0)&&(!(eY.kind==1))) ?_ ?_
   · repeat' first
      |exact ⟨⟨_,rfl,by grind [bD.val]⟩,rfl⟩
      |refine ag (fun _=>?_) (fun _=>?_)
   refine ag (fun J=>?_) (fun J=>?_)
   · replace J:(dt=0)∧(eY.kind≠1):=⟨(eq_of_beq (dH J)),(ne_of_beq_false (dz (eA J)))⟩
     refine ap dD xs ([(⟨fH,eY.v⟩:(ar×aW))]:List (ar×aW)) rfl rfl (fun _=>⟨rfl,rfl⟩) (by (simp only [List.length_append,List.length_cons,List.length_nil];omega)) ?_
     refine ⟨(dy,5,cp l n e3,xs++([(⟨fH,eY.v⟩:(ar×aW))]:List (ar×aW))),⟨rfl,rfl⟩,?_,?_⟩
     · try dsimp only
       have c0:=ej.LA J.1 (.inl J.2)
       have aM:=fun z=>cP.2.2.no (by decide) (dd.bM (dE.bM (c0.bM z)))
       simp only [List.length_append,List.length_cons,List.length_nil]
       exact ⟨by omega,by omega,by omega,by omega,fun z=>by have:=aM z;have:=q7 cP.1;omega,by have:=q7 cP.1;omega,fun z=>by omega,yR- 1,fun z=>by have:=aM z;have:=pf cP.1;omega,((((uk.to fun _=>Bx (by have:=pf cP.1;omega) cP.2.1).room cP.2.2 (by decide)).at ak).step dd |>.step dE).step c0⟩
     try dsimp only
     rw [if_pos cP.1]
     split<;>omega
   replace J:(dt≠0)∨(eY.kind=1):=((eB J).imp (fun q=>(ne_of_beq_false q)) (fun q=>(eq_of_beq (du q))))
   refine ap dD xs ([(⟨fH,eY.v⟩:(ar×aW))]:List (ar×aW)) rfl rfl (fun _=>⟨rfl,rfl⟩) (by (simp only [List.length_append,List.length_cons,List.length_nil];omega)) ?_
   refine ⟨(dy,dt,dQ,xs++([(⟨fH,eY.v⟩:(ar×aW))]:List (ar×aW))),⟨rfl,rfl⟩,?_,?_⟩
   · try dsimp only
     have c0:=ej.LB fun z=>have k:=J.resolve_left fun c=>c z;⟨k,VC (ej.VD z) k⟩
     have aM:=fun z=>cP.2.2.no (by decide) (dd.bM (dE.bM (c0.bM z)))
     simp only [List.length_append,List.length_cons,List.length_nil]
     exact ⟨by omega,by omega,by omega,by omega,fun z=>by have:=aM z;have:=q7 cP.1;omega,by have:=q7 cP.1;omega,fun z=>by omega,yR- 1,fun z=>by have:=aM z;have:=pf cP.1;omega,((((uk.to fun _=>Bx (by have:=pf cP.1;omega) cP.2.1).room cP.2.2 (by decide)).at ak).step dd |>.step dE).step c0⟩
   try dsimp only
   rw [if_pos cP.1]
   split<;>omega
 try dsimp only [Sum.elim_inl,Sum.elim_inr] at cP
 refine aB ?_
 refine aB ?_
 refine cH (σ:=Int×Int×Int×List eU) [] [0,2,3] 3 (fun ⟨a3,cS,gx,dn⟩=>([(0, .loc 0 0),(2, .loc 1 0),(3, .loc 2 0)],[b5 l n a3 cS gx, .cells [ay ([]), .own [], .own [], .own []], .cells [ay db, .own (xs.map dD), .own (dn.map dG), .own []]],m)) (fun ⟨a3,cS,gx,dn⟩=>0≤a3∧a≤a3∧a3≤l.length∧0≤cS∧(cS=0→(dn.length:Int)≤8)∧dn.length≤9∧(cS=0→a<a3)∧∃bV:Nat,(cS=0→l.length- a3<bV)∧gq (k1 l n a) a e q a3 cS gx (oC l n (FA l n db xs) bV a3 dn)) (fun ⟨a3,cS,gx,dn⟩=>if cS=0 then l.length- a3.toNat+1 else 0) (a2,az,bl,[]) ⟨rfl,rfl⟩ ?_ ?_
 · try dsimp only
   exact ⟨FC,FD,FE,FF,fun _=>by simp,by simp,FG,l.length+1,fun _=>by omega,uk.to fun z=>LI (by have:=pf z;omega) (cP z)⟩
 rintro ⟨a3,cS,gx,dn⟩ bK
 dsimp only at bK
 obtain ⟨FH,FI,FJ,FK,um,Vh,FL,By,q8,wK⟩:=bK
 refine bN ?_
 refine bx 115 [0] (σ:=(Int×Int) ⊕ (Unit)) (Sum.elim (fun ⟨ev,eS⟩=>cS=0∧bq l 1 ([114,101,115,111,117,114,99,101]:List UInt8) a3=true∧lG l n 2 a3 cS gx ev eS ((dn.length:Int)=8)) (fun _=>cS=0→bq l 1 ([114,101,115,111,117,114,99,101]:List UInt8) a3=false)) (Sum.elim (fun ⟨ev,eS⟩=> .b (.lit true)) (fun _=> .b (.lit false))) (Sum.elim (fun ⟨ev,eS⟩=>[b5 l n (a3+1) ev eS]) (fun _=>[b5 l n a3 cS gx])) rfl (fun x=>by rcases x with _|_<;>rfl) (fun bs ai gd aq K U=>FW l n a3 cS gx ([114,101,115,111,117,114,99,101]:List UInt8) (dn.length:Int) (bs.getD 0 0) av (by omega) (by omega) (by omega) ai gd K (fun z w a1 a6 aC=>U (.inl (a1,a6)) ⟨z,w,aC⟩) (fun z=>U (.inr ()) z)) ?_
 rintro (⟨ev,eS⟩|_) dR
 · try dsimp only [Sum.elim_inl,Sum.elim_inr] at dR
   have TB:=gm dR.2.1
   have yy:=dR.2.2.bB (by decide) (by omega)
   refine aB ?_
   refine bx 115 [0] (σ:=ar×Int×Int×Int) (fun ⟨fI,fX,gi,gB⟩=>(aX l (b8 l n 1 ([]) (a3+1)) fI (a3+1) ev eS fX gi gB)∧(gi≠0→fI=[])) (fun ⟨fI,fX,gi,gB⟩=>ay fI) (fun ⟨fI,fX,gi,gB⟩=>[b5 l n fX gi gB]) rfl (fun _=>rfl) (fun bs ai gd aq K U=>gO l n (a3+1) ev eS 1 ([]) (bs.getD 0 0) av (by omega) (by omega) (by omega) ai gd K (fun bQ a8 a1 a6 aC ak=>U (bQ,a8,a1,a6) ⟨aC,ak⟩)) ?_
   rintro ⟨fI,fX,gi,gB⟩ ed
   dsimp only at ed
   obtain ⟨ed,KF⟩:=ed
   have A7:=ed.ba
   have A8:=ed.ad
   have A9:=ed.bB
   refine bx 115 [0] (σ:=ar×Int×Int×Int) (fun ⟨ir,fA,e5,ff⟩=>(aX l (b8 l n 1 ([]) fX) ir fX gi gB fA e5 ff)∧(e5≠0→ir=[])) (fun ⟨ir,fA,e5,ff⟩=>ay ir) (fun ⟨ir,fA,e5,ff⟩=>[b5 l n fA e5 ff]) rfl (fun _=>rfl) (fun bs ai gd aq K U=>gO l n fX gi gB 1 ([]) (bs.getD 0 0) av (by omega) (by omega) (by omega) ai gd K (fun bQ a8 a1 a6 aC ak=>U (bQ,a8,a1,a6) ⟨aC,ak⟩)) ?_
   rintro ⟨ir,fA,e5,ff⟩ fi
   dsimp only at fi
   obtain ⟨fi,TU⟩:=fi
   have yz:=fi.ba
   have yA:=fi.ad
   have vN:=fi.bB
   refine bx 115 [0] (σ:=ar×Int×Int×Int) (fun ⟨e4,eJ,eK,fa⟩=>(aX l (b8 l n 4 ([123]:List UInt8) fA) e4 fA e5 ff eJ eK fa)∧(eK≠0→e4=[])) (fun ⟨e4,eJ,eK,fa⟩=>ay e4) (fun ⟨e4,eJ,eK,fa⟩=>[b5 l n eJ eK fa]) rfl (fun _=>rfl) (fun bs ai gd aq K U=>gO l n fA e5 ff 4 ([123]:List UInt8) (bs.getD 0 0) av (by omega) (by omega) (by omega) ai gd K (fun bQ a8 a1 a6 aC ak=>U (bQ,a8,a1,a6) ⟨aC,ak⟩)) ?_
   rintro ⟨e4,eJ,eK,fa⟩ et
   dsimp only at et
   obtain ⟨et,Ba⟩:=et
   have vG:=et.ba
   have vH:=et.ad
   have vI:=et.bB
   refine aB ?_
   refine cH (σ:=Int×Int×Int×List (ar×au)) [] [0,2,3,9] 4 (fun ⟨a4,eO,gG,ps⟩=>([(0, .loc 0 0),(2, .loc 1 0),(3, .loc 2 0),(9, .loc 3 0)],[b5 l n a4 eO gG, .cells [ay ([]), .own [], .own [], .own []], .cells [ay db, .own (xs.map dD), .own (dn.map dG), .own []], .cells [ay fI,ay ir, .own (ps.map cQ)]],m)) (fun ⟨a4,eO,gG,ps⟩=>0≤a4∧a3+1≤a4∧a4≤l.length∧0≤eO∧(eO=0→(ps.length:Int)≤6)∧ps.length≤7∧∃nU:Nat,(eO=0→l.length- a4<nU)∧gq (l9 l n (a3+1)) (a3+1) ev eS a4 eO gG (kC l n (fun ps a=> .ok (⟨fI,ir,ps⟩:eU) a) nU a4 ps)) (fun ⟨a4,eO,gG,ps⟩=>if eO=0 then l.length- a4.toNat+1 else 0) (eJ,eK,fa,[]) ⟨rfl,rfl⟩ ?_ ?_
   · try dsimp only
     exact ⟨by omega,by omega,by omega,by omega,fun _=>by simp,by simp,l.length+1,fun _=>by omega,LC ed fi et⟩
   rintro ⟨a4,eO,gG,ps⟩ ek
   dsimp only at ek
   obtain ⟨i1,i2,i3,i4,i5,i6,nU,i8,i9⟩:=ek
   refine aB ?_
   refine ag (fun aa=>?_) (fun aa=>?_)
   · refine bx 115 [0] (σ:=(Unit) ⊕ (Unit)) (Sum.elim (fun _=>eO=0∧bq l 4 ([125]:List UInt8) a4=true) (fun _=>eO=0→bq l 4 ([125]:List UInt8) a4=false)) (Sum.elim (fun _=> .b (.lit true)) (fun _=> .b (.lit false))) (Sum.elim (fun _=>[b5 l n (a4+1) eO gG]) (fun _=>[b5 l n a4 eO gG])) rfl (fun x=>by rcases x with _|_<;>rfl) (fun bs ai gd aq K U=>tw l n a4 eO gG 4 ([125]:List UInt8) (bs.getD 0 0) av (by omega) (by omega) (by omega) ai gd K (fun z w=>U (.inl ()) ⟨z,w⟩) (fun z=>U (.inr ()) z)) ?_
     rintro (_|_) fb
     · try dsimp only [Sum.elim_inl,Sum.elim_inr] at fb
       have EP:=gm fb.2
       refine aB ?_
       refine ap dG dn ([(⟨fI,ir,ps⟩:eU)]:List eU) rfl rfl (fun _=>⟨rfl,rfl⟩) (by (simp only [List.length_append,List.length_cons,List.length_nil];omega)) ?_
       refine ⟨(a4+1,eO,gG,dn++([(⟨fI,ir,ps⟩:eU)]:List eU)),⟨rfl,rfl⟩,?_,?_⟩
       · try dsimp only
         obtain ⟨nU,rfl⟩:∃k,nU=k+1:=⟨nU- 1,by have:=i8 aa;omega⟩
         have o:=(i9.to fun _=>LH fb.2).done aa (by omega) EP
         have aM:=fun z=>dR.2.2.no (by decide) (o.bM z)
         simp only [List.length_append,List.length_cons,List.length_nil]
         exact ⟨by omega,by omega,by omega,by omega,fun z=>by have:=aM z;have:=um dR.1;omega,by have:=um dR.1;omega,fun z=>by omega,By- 1,fun z=>by have:=aM z;have:=q8 dR.1;omega,(((wK.to fun _=>Fy (by have:=q8 dR.1;omega) dR.2.1).room dR.2.2 (by decide)).at ak).step o⟩
       try dsimp only
       rw [if_pos dR.1]
       split<;>omega
     try dsimp only [Sum.elim_inl,Sum.elim_inr] at fb
     obtain ⟨nU,rfl⟩:∃k,nU=k+1:=⟨nU- 1,by have:=i8 aa;omega⟩
     have i9:=i9.to fun _=>LG (fb aa)
     have i10:=i8 aa
     have i11:=i5 aa
     refine aB ?_
     refine rN (σ:=Int×Int×Int) [] [0,2,3,9] 4 (fun ⟨me,f3,jc⟩=>([(0, .loc 0 0),(2, .loc 1 0),(3, .loc 2 0),(9, .loc 3 0)],[b5 l n me f3 jc, .cells [ay ([]), .own [], .own [], .own []], .cells [ay db, .own (xs.map dD), .own (dn.map dG), .own []], .cells [ay fI,ay ir, .own (ps.map cQ)]],m)) (fun ⟨me,f3,jc⟩=>a4≤me∧me≤l.length∧0≤f3∧gq (l9 l n (a3+1)) (a3+1) ev eS me f3 jc (wJ l n (kC l n (fun ps a=> .ok (⟨fI,ir,ps⟩:eU) a) nU) ps me)) ?_ ?_
     · rintro ⟨me,f3,jc⟩ mG
       refine rN (σ:=Int×Int×Int) [] [0,2,3,9] 4 (fun ⟨oU,f4,wO⟩=>([(0, .loc 0 0),(2, .loc 1 0),(3, .loc 2 0),(9, .loc 3 0)],[b5 l n oU f4 wO, .cells [ay ([]), .own [], .own [], .own []], .cells [ay db, .own (xs.map dD), .own (dn.map dG), .own []], .cells [ay fI,ay ir, .own (ps.map cQ)]],m)) (fun ⟨oU,f4,wO⟩=>oU=me∧0≤f4∧lG l n 2 me f3 jc f4 wO ((ps.length:Int)=6)) ?_ ?_
       · rintro ⟨oU,f4,wO⟩ qX
         obtain ⟨rfl,zx,xl⟩:=qX
         refine bx 115 [0] (σ:=ar×Int×Int×Int) (fun ⟨gI,dN,dO,eu⟩=>(aX l (b8 l n 1 ([]) oU) gI oU f4 wO dN dO eu)∧(dO≠0→gI=[])) (fun ⟨gI,dN,dO,eu⟩=>ay gI) (fun ⟨gI,dN,dO,eu⟩=>[b5 l n dN dO eu]) rfl (fun _=>rfl) (fun bs ai gd aq K U=>gO l n oU f4 wO 1 ([]) (bs.getD 0 0) av (by omega) (by omega) (by omega) ai gd K (fun bQ a8 a1 a6 aC ak=>U (bQ,a8,a1,a6) ⟨aC,ak⟩)) ?_
         rintro ⟨gI,dN,dO,eu⟩ eR
         dsimp only at eR
         obtain ⟨eR,EW⟩:=eR
         have tC:=eR.ba
         have tD:=eR.ad
         have tE:=eR.bB
         refine rN (σ:=Int×Int×Int) [] [0,2,3,9,11] 4 (fun ⟨rb,f5,wP⟩=>([(0, .loc 0 0),(2, .loc 1 0),(3, .loc 2 0),(9, .loc 3 0),(11,ay gI)],[b5 l n rb f5 wP, .cells [ay ([]), .own [], .own [], .own []], .cells [ay db, .own (xs.map dD), .own (dn.map dG), .own []], .cells [ay fI,ay ir, .own (ps.map cQ)]],m)) (fun ⟨rb,f5,wP⟩=>rb=dN∧0≤f5∧(f5=0→dO=0)∧gq (l9 l n (a3+1)) (a3+1) ev eS rb f5 wP (yQ l n (kC l n (fun ps a=> .ok (⟨fI,ir,ps⟩:eU) a) nU) ps gI rb)) ?_ ?_
         · rintro ⟨rb,f5,wP⟩ qy
           obtain ⟨rfl,hC,hd,lX⟩:=qy
           refine bx 115 [0] (σ:=ar×Int×Int×Int) (fun ⟨hU,hz,fe,fz⟩=>(aX l (b8 l n 4 ([58]:List UInt8) rb) hU rb f5 wP hz fe fz)∧(fe≠0→hU=[])) (fun ⟨hU,hz,fe,fz⟩=>ay hU) (fun ⟨hU,hz,fe,fz⟩=>[b5 l n hz fe fz]) rfl (fun _=>rfl) (fun bs ai gd aq K U=>gO l n rb f5 wP 4 ([58]:List UInt8) (bs.getD 0 0) av (by omega) (by omega) (by omega) ai gd K (fun bQ a8 a1 a6 aC ak=>U (bQ,a8,a1,a6) ⟨aC,ak⟩)) ?_
           rintro ⟨hU,hz,fe,fz⟩ gP
           dsimp only at gP
           obtain ⟨gP,KD⟩:=gP
           have ER:=gP.ba
           have ES:=gP.ad
           have ET:=gP.bB
           refine bx 115 [0] (σ:=au×Int×Int×Int) (fun ⟨ga,hP,gH,gQ⟩=>aX l (gD l n hz) ga hz fe fz hP gH gQ) (fun ⟨ga,hP,gH,gQ⟩=>fR ga) (fun ⟨ga,hP,gH,gQ⟩=>[b5 l n hP gH gQ]) rfl (fun _=>rfl) (fun bs ai gd aq K U=>FX l n hz fe fz 6 (bs.getD 0 0) (Bh l n av hw 6 (by decide)) av (by omega) (by omega) (by omega) rfl ai gd K (fun c1 a8 a1 a6 aC=>U (c1,a8,a1,a6) aC)) ?_
           rintro ⟨ga,hP,gH,gQ⟩ hN
           dsimp only at hN
           have EZ:=hN.ba
           have E0:=hN.ad
           have E1:=hN.bB
           refine ap cQ ps ([(⟨gI,ga⟩:(ar×au))]:List (ar×au)) rfl rfl (fun _=>⟨rfl,rfl⟩) (by (simp only [List.length_append,List.length_cons,List.length_nil];omega)) ?_
           refine ⟨(hP,gH,gQ,ps++([(⟨gI,ga⟩:(ar×au))]:List (ar×au))),⟨rfl,rfl⟩,?_,?_⟩
           · try dsimp only
             have c:=(lX.step gP).step hN
             have aM:=fun z=>xl.no (by decide) (eR.bM (hd (gP.bM (hN.bM z))))
             have bc:=hN.gt
             simp only [List.length_append,List.length_cons,List.length_nil]
             exact ⟨by omega,by omega,by omega,by omega,fun z=>by have:=aM z;omega,by omega,nU,fun z=>by have:=bc z;omega,c⟩
           try dsimp only
           rw [if_pos aa]
           have bc:=hN.gt
           split<;>omega
         refine bN ?_
         refine cf [0,2,3,9,11] 117 ((decide (0<(ps.length:Int)))&&(!(Op.bytesLess ((I ps ((ps.length:Int)- 1)).1) gI))) ?_ ?_
         · repeat' first
            |exact ⟨⟨_,rfl,by grind [bD.val]⟩,rfl⟩
            |refine ag (fun _=>?_) (fun _=>?_)
            |refine ag (by omega) ?_
            |refine cX (by omega) ?_
         refine ag (fun aj=>?_) (fun aj=>?_)
         · replace aj:(0<(ps.length:Int))∧(Op.bytesLess ((I ps ((ps.length:Int)- 1)).1) gI=false):=⟨(of_decide_eq_true (dH aj)),(dz (eA aj))⟩
           refine bx 115 [0] (σ:=Int×Int) (fun ⟨iP,jB⟩=>(dO=0→iP=3∧jB=cp l n dN)∧(dO≠0→iP=dO∧jB=eu)∧0<iP) (fun ⟨iP,jB⟩=> .da []) (fun ⟨iP,jB⟩=>[b5 l n dN iP jB]) rfl (fun _=>rfl) (fun bs ai gd aq K U=>mO l n dN dO eu 3 (bs.getD 0 0) (by decide) av (by omega) (by omega) (by omega) ai gd K (fun z=>U (3,cp l n dN) ⟨fun _=>⟨rfl,rfl⟩,fun y=>absurd z y,by decide⟩) (fun z=>U (dO,eu) ⟨fun y=>absurd y z,fun _=>⟨rfl,rfl⟩,by omega⟩)) ?_
           rintro ⟨iP,jB⟩ kv
           dsimp only at kv
           obtain ⟨VF,VG,VH⟩:=kv
           refine ⟨(dN,iP,jB),⟨rfl,rfl⟩,?_⟩
           have c:=((mG.2.2.2.room xl (by decide)).step eR)
           exact ⟨rfl,by omega,fun z=>by omega,(c.to fun _=>LD aj).fail (R:=yQ l n (kC l n (fun ps a=> .ok (⟨fI,ir,ps⟩:eU) a) nU) ps gI dN) VF VG VH⟩
         replace aj:((ps.length:Int)≤0)∨(Op.bytesLess ((I ps ((ps.length:Int)- 1)).1) gI=true):=((eB aj).imp (fun q=>(Int.not_lt.1 (of_decide_eq_false q))) (fun q=>(du q)))
         refine ⟨(dN,dO,eu),⟨rfl,rfl⟩,?_⟩
         have c:=((mG.2.2.2.room xl (by decide)).step eR)
         exact ⟨rfl,by omega,fun z=>z,c.to fun _=>LF aj⟩
       refine bN ?_
       refine ag (fun aG=>?_) (fun aG=>?_)
       · refine bx 115 [0] (σ:=Int×Int) (fun ⟨kz,lA⟩=>(f3=0→kz=2∧lA=cp l n me)∧(f3≠0→kz=f3∧lA=jc)∧0<kz) (fun ⟨kz,lA⟩=> .da []) (fun ⟨kz,lA⟩=>[b5 l n me kz lA]) rfl (fun _=>rfl) (fun bs ai gd aq K U=>mO l n me f3 jc 2 (bs.getD 0 0) (by decide) av (by omega) (by omega) (by omega) ai gd K (fun z=>U (2,cp l n me) ⟨fun _=>⟨rfl,rfl⟩,fun y=>absurd z y,by decide⟩) (fun z=>U (f3,jc) ⟨fun y=>absurd y z,fun _=>⟨rfl,rfl⟩,by omega⟩)) ?_
         rintro ⟨kz,lA⟩ yD
         dsimp only at yD
         obtain ⟨E7,Bg,KG⟩:=yD
         refine ⟨(me,kz,lA),⟨rfl,rfl⟩,⟨rfl,by omega,⟨fun _ z=>E7 z,fun z=>absurd aG z,fun z=>Bg z⟩⟩⟩
       refine ⟨(me,f3,jc),⟨rfl,rfl⟩,⟨rfl,by omega,⟨fun z=>absurd z aG,fun _=>⟨rfl,rfl⟩,fun _=>⟨rfl,rfl⟩⟩⟩⟩
     refine bN ?_
     refine ag (fun aR=>?_) (fun aR=>?_)
     · refine bx 115 [0] (σ:=ar×Int×Int×Int) (fun ⟨wQ,l0,l1,mQ⟩=>(aX l (b8 l n 4 ([44]:List UInt8) a4) wQ a4 eO gG l0 l1 mQ)∧(l1≠0→wQ=[])) (fun ⟨wQ,l0,l1,mQ⟩=>ay wQ) (fun ⟨wQ,l0,l1,mQ⟩=>[b5 l n l0 l1 mQ]) rfl (fun _=>rfl) (fun bs ai gd aq K U=>gO l n a4 eO gG 4 ([44]:List UInt8) (bs.getD 0 0) av (by omega) (by omega) (by omega) ai gd K (fun bQ a8 a1 a6 aC ak=>U (bQ,a8,a1,a6) ⟨aC,ak⟩)) ?_
       rintro ⟨wQ,l0,l1,mQ⟩ nN
       dsimp only at nN
       obtain ⟨nN,Yn⟩:=nN
       have TX:=nN.ba
       have TY:=nN.ad
       have TZ:=nN.bB
       refine ⟨(l0,l1,mQ),⟨rfl,rfl⟩,⟨by omega,by omega,by omega,(i9.to fun _=>tF aR).step nN⟩⟩
     refine ⟨(a4,eO,gG),⟨rfl,rfl⟩,⟨by omega,by omega,by omega,i9.to fun _=>tG aR⟩⟩
   refine ap dG dn ([(⟨fI,ir,ps⟩:eU)]:List eU) rfl rfl (fun _=>⟨rfl,rfl⟩) (by (simp only [List.length_append,List.length_cons,List.length_nil];omega)) ?_
   refine ⟨(a4,eO,gG,dn++([(⟨fI,ir,ps⟩:eU)]:List eU)),⟨rfl,rfl⟩,?_,?_⟩
   · try dsimp only
     have o:=i9.bad (y:=⟨fI,ir,ps⟩) aa (by omega) (by omega) (by omega)
     have aM:=fun z=>dR.2.2.no (by decide) (o.bM z)
     simp only [List.length_append,List.length_cons,List.length_nil]
     exact ⟨by omega,by omega,by omega,by omega,fun z=>by have:=aM z;have:=um dR.1;omega,by have:=um dR.1;omega,fun z=>by omega,By- 1,fun z=>by have:=aM z;have:=q8 dR.1;omega,(((wK.to fun _=>Fy (by have:=q8 dR.1;omega) dR.2.1).room dR.2.2 (by decide)).at ak).step o⟩
   try dsimp only
   rw [if_pos dR.1]
   split<;>omega
 try dsimp only [Sum.elim_inl,Sum.elim_inr] at dR
 refine aB ?_
 refine aB ?_
 refine cH (σ:=Int×Int×Int×List (ar×au)) [] [0,2,3] 3 (fun ⟨a5,iB,k3,dv⟩=>([(0, .loc 0 0),(2, .loc 1 0),(3, .loc 2 0)],[b5 l n a5 iB k3, .cells [ay ([]), .own [], .own [], .own []], .cells [ay db, .own (xs.map dD), .own (dn.map dG), .own (dv.map cQ)]],m)) (fun ⟨a5,iB,k3,dv⟩=>0≤a5∧a≤a5∧a5≤l.length∧0≤iB∧(iB=0→(dv.length:Int)≤8)∧dv.length≤9∧(iB=0→a<a5)∧∃bV:Nat,(iB=0→l.length- a5<bV)∧gq (k1 l n a) a e q a5 iB k3 (oD l n (Fz db xs dn) bV a5 dv)) (fun ⟨a5,iB,k3,dv⟩=>if iB=0 then l.length- a5.toNat+1 else 0) (a3,cS,gx,[]) ⟨rfl,rfl⟩ ?_ ?_
 · try dsimp only
   exact ⟨FH,FI,FJ,FK,fun _=>by simp,by simp,FL,l.length+1,fun _=>by omega,wK.to fun z=>LJ (by have:=q8 z;omega) (dR z)⟩
 rintro ⟨a5,iB,k3,dv⟩ ek
 dsimp only at ek
 obtain ⟨Vi,FM,yS,FN,yT,Vj,FO,FP,uo,uq⟩:=ek
 refine bN ?_
 refine bx 115 [0] (σ:=(Int×Int) ⊕ (Unit)) (Sum.elim (fun ⟨l2,mR⟩=>iB=0∧bq l 1 ([111,117,116,112,117,116]:List UInt8) a5=true∧lG l n 2 a5 iB k3 l2 mR ((dv.length:Int)=8)) (fun _=>iB=0→bq l 1 ([111,117,116,112,117,116]:List UInt8) a5=false)) (Sum.elim (fun ⟨l2,mR⟩=> .b (.lit true)) (fun _=> .b (.lit false))) (Sum.elim (fun ⟨l2,mR⟩=>[b5 l n (a5+1) l2 mR]) (fun _=>[b5 l n a5 iB k3])) rfl (fun x=>by rcases x with _|_<;>rfl) (fun bs ai gd aq K U=>FW l n a5 iB k3 ([111,117,116,112,117,116]:List UInt8) (dv.length:Int) (bs.getD 0 0) av (by omega) (by omega) (by omega) ai gd K (fun z w a1 a6 aC=>U (.inl (a1,a6)) ⟨z,w,aC⟩) (fun z=>U (.inr ()) z)) ?_
 rintro (⟨l2,mR⟩|_) jC
 · try dsimp only [Sum.elim_inl,Sum.elim_inr] at jC
   have Yo:=gm jC.2.1
   have T0:=jC.2.2.bB (by decide) (by omega)
   refine aB ?_
   refine bx 115 [0] (σ:=ar×Int×Int×Int) (fun ⟨sw,sx,sy,uu⟩=>(aX l (b8 l n 1 ([]) (a5+1)) sw (a5+1) l2 mR sx sy uu)∧(sy≠0→sw=[])) (fun ⟨sw,sx,sy,uu⟩=>ay sw) (fun ⟨sw,sx,sy,uu⟩=>[b5 l n sx sy uu]) rfl (fun _=>rfl) (fun bs ai gd aq K U=>gO l n (a5+1) l2 mR 1 ([]) (bs.getD 0 0) av (by omega) (by omega) (by omega) ai gd K (fun bQ a8 a1 a6 aC ak=>U (bQ,a8,a1,a6) ⟨aC,ak⟩)) ?_
   rintro ⟨sw,sx,sy,uu⟩ kW
   dsimp only at kW
   obtain ⟨kW,Yp⟩:=kW
   have Yq:=kW.ba
   have Yr:=kW.ad
   have Ys:=kW.bB
   refine bx 115 [0] (σ:=ar×Int×Int×Int) (fun ⟨mS,kX,kY,l3⟩=>(aX l (b8 l n 4 ([61]:List UInt8) sx) mS sx sy uu kX kY l3)∧(kY≠0→mS=[])) (fun ⟨mS,kX,kY,l3⟩=>ay mS) (fun ⟨mS,kX,kY,l3⟩=>[b5 l n kX kY l3]) rfl (fun _=>rfl) (fun bs ai gd aq K U=>gO l n sx sy uu 4 ([61]:List UInt8) (bs.getD 0 0) av (by omega) (by omega) (by omega) ai gd K (fun bQ a8 a1 a6 aC ak=>U (bQ,a8,a1,a6) ⟨aC,ak⟩)) ?_
   rintro ⟨mS,kX,kY,l3⟩ lB
   dsimp only at lB
   obtain ⟨lB,T1⟩:=lB
   have T2:=lB.ba
   have T3:=lB.ad
   have T4:=lB.bB
   refine bx 115 [0] (σ:=au×Int×Int×Int) (fun ⟨l4,nO,nP,nQ⟩=>aX l (gD l n kX) l4 kX kY l3 nO nP nQ) (fun ⟨l4,nO,nP,nQ⟩=>fR l4) (fun ⟨l4,nO,nP,nQ⟩=>[b5 l n nO nP nQ]) rfl (fun _=>rfl) (fun bs ai gd aq K U=>FX l n kX kY l3 6 (bs.getD 0 0) (Bh l n av hw 6 (by decide)) av (by omega) (by omega) (by omega) rfl ai gd K (fun c1 a8 a1 a6 aC=>U (c1,a8,a1,a6) aC)) ?_
   rintro ⟨l4,nO,nP,nQ⟩ mT
   dsimp only at mT
   have T5:=mT.ba
   have T6:=mT.ad
   have T7:=mT.bB
   refine ap cQ dv ([(⟨sw,l4⟩:(ar×au))]:List (ar×au)) rfl rfl (fun _=>⟨rfl,rfl⟩) (by (simp only [List.length_append,List.length_cons,List.length_nil];omega)) ?_
   refine ⟨(nO,nP,nQ,dv++([(⟨sw,l4⟩:(ar×au))]:List (ar×au))),⟨rfl,rfl⟩,?_,?_⟩
   · try dsimp only
     have aM:=fun z=>jC.2.2.no (by decide) (kW.bM (lB.bM (mT.bM z)))
     simp only [List.length_append,List.length_cons,List.length_nil]
     exact ⟨by omega,by omega,by omega,by omega,fun z=>by have:=aM z;have:=yT jC.1;omega,by have:=yT jC.1;omega,fun z=>by omega,FP- 1,fun z=>by have:=aM z;have:=uo jC.1;omega,((((uq.to fun _=>LK (by have:=uo jC.1;omega) jC.2.1).room jC.2.2 (by decide)).at ak).step kW |>.step lB).step mT⟩
   try dsimp only
   rw [if_pos jC.1]
   split<;>omega
 try dsimp only [Sum.elim_inl,Sum.elim_inr] at jC
 refine aB ?_
 refine rt rfl fun _=>?_
 show K (.agg [.str db, .slice false (xs.map dD), .slice false (dn.map dG), .slice false (dv.map cQ)]) (ae.aS m [(r, .cells [.slice false (l.map bm), .int .i64 a5, .int .i64 n, .int .i64 iB, .int .i64 k3])])
 refine U ⟨db,xs,dn,dv⟩ _ _ _ ?_
 by_cases z:iB=0
 · exact (uq.to fun z=>LL (by have:=uo z;omega) (jC z)).ok z (FO z) yS
 · exact uq.bad z FM yS FN
end Go.Proofs
end
section
namespace Go.Proofs
open Go Go.bg Go.cz
set_option maxRecDepth 100000
structure y2 (s:dm):Prop where
 li:s.ins.length≤1000000000
 ur:s.res.length≤1000000000
 ba:s.outs.length≤1000000000
 i:∀p∈s.ins,bI p.2≤1000000000
 r:∀x∈s.res,x.parts.length≤1000000∧∀p∈x.parts,dY p.2≤1000000000
 o:∀p∈s.outs,dY p.2≤1000000000
theorem y2.ok {s:dm} (h:y2 s):FQ s:=⟨fun p aQ=>by have:=h.i p aQ;omega,fun x an=>(h.r x an).2,h.o⟩
set_option maxHeartbeats 4000000 in
theorem VI (s:dm) (aw:y2 s) (m:ae) (K:ab→ae→Prop) (U:K (ey s) m):bh Tryz.prog 28 [ey s] m K:=by
 have L9:=aw.li
 have Ma:=aw.ur
 have kG:=aw.ba
 refine enter (c:=cT [] [0] [] [5999,14999,21999] [5,14,21] []) (vs:=[.aI (ey s)]) (L:=[]) (m:=m) false b2 Tryz.mixed Tryz.func28 rfl (k:=1) (by show cO [5999,14999,21999] _ _ _=true;decide+kernel) rfl (Good.nil m) ?_
 refine ⟨fun bJ=>?_⟩
 have o7:s.name.length≤140737488355328:=(bJ 0 0 (Nat.le_of_ble_eq_true rfl))
 have Fx:s.ins.length≤140737488355328:=dr (bJ 0 1 (Nat.le_of_ble_eq_true rfl))
 have o6:s.res.length≤140737488355328:=dr (bJ 0 2 (Nat.le_of_ble_eq_true rfl))
 have kq:s.outs.length≤140737488355328:=dr (bJ 0 3 (Nat.le_of_ble_eq_true rfl))
 refine aB ?_
 refine bN ?_
 refine cH (σ:=Int×List (ar×aW)) [] [1,2,3,17,18,19] 3 (fun ⟨i,xs⟩=>([(1, .loc 0 0),(2, .loc 1 0),(3, .loc 2 0),(17,aH (s.ins.map dD)),(18,ax (s.ins.length:Int)),(19,ax i)],[.cells [ay s.name,aH (s.ins.map dD),aH (s.res.map dG),aH (s.outs.map cQ)], .cells [ay ([]), .own [], .own [], .own []], .cells [ay s.name, .own (xs.map dD), .own [], .own []]],m)) (fun ⟨i,xs⟩=>0≤i∧i≤s.ins.length∧xs=s.ins.take i.toNat) (fun ⟨i,xs⟩=>s.ins.length- i.toNat) (0,[]) ⟨rfl,rfl⟩ ?_ ?_
 · try dsimp only
   exact ⟨by omega,by omega,rfl⟩
 rintro ⟨i,xs⟩ aE
 dsimp only at aE
 have pK:(xs.length:Int)=i:=by rw [aE.2.2,List.length_take];omega
 refine aB ?_
 refine ag (fun J=>?_) (fun J=>?_)
 · refine aB ?_
   refine cX (by omega) ?_
   refine hS b2 Tryz.mixed (σ:=Unit) (.f 0 (.f 2 (.f 4 (.o 1 (.o 3 (.s 5 (.s 6 (.s 7 (.s 8 (.s 9 (.f 10 (.s 11 .d))))))) (.o 5 (.o 3 (.s 6 (.s 7 (.s 8 (.s 9 (.f 10 (.s 11 .d)))))) (.o 6 (.s 3 (.s 7 (.s 8 (.s 9 (.f 10 (.s 11 .d)))))) .z)) .z)) (.o 3 (.o 1 (.s 5 (.s 6 (.s 7 (.s 8 (.s 9 (.f 10 (.s 11 .d))))))) (.o 5 (.o 1 (.s 6 (.s 7 (.s 8 (.s 9 (.f 10 (.s 11 .d)))))) (.o 6 (.o 1 (.s 7 (.s 8 (.s 9 (.f 10 (.s 11 .d))))) (.o 7 (.o 1 (.s 8 (.s 9 (.f 10 (.s 11 .d)))) (.o 8 (.s 1 (.s 9 (.f 10 (.s 11 .d)))) .z)) .z)) .z)) .z)) (.o 5 (.o 1 (.o 3 (.s 6 (.s 7 (.s 8 (.s 9 (.f 10 (.s 11 .d)))))) (.o 6 (.s 3 (.s 7 (.s 8 (.s 9 (.f 10 (.s 11 .d)))))) .z)) (.o 3 (.o 1 (.s 6 (.s 7 (.s 8 (.s 9 (.f 10 (.s 11 .d)))))) (.o 6 (.o 1 (.s 7 (.s 8 (.s 9 (.f 10 (.s 11 .d))))) (.o 7 (.o 1 (.s 8 (.s 9 (.f 10 (.s 11 .d)))) (.o 8 (.s 1 (.s 9 (.f 10 (.s 11 .d)))) .z)) .z)) .z)) (.o 6 (.o 1 (.s 3 (.s 7 (.s 8 (.s 9 (.f 10 (.s 11 .d)))))) (.o 3 (.o 1 (.s 7 (.s 8 (.s 9 (.f 10 (.s 11 .d))))) (.o 7 (.o 1 (.s 8 (.s 9 (.f 10 (.s 11 .d)))) (.o 8 (.s 1 (.s 9 (.f 10 (.s 11 .d)))) .z)) .z)) .z)) .z))) .z)))))) [] [1,2,3,17,18,19] 4 (fun _=>([(1, .loc 0 0),(2, .loc 1 0),(3, .loc 2 0),(17,aH (s.ins.map dD)),(18,ax (s.ins.length:Int)),(19,ax i)],[.cells [ay s.name,aH (s.ins.map dD),aH (s.res.map dG),aH (s.outs.map cQ)], .cells [ay ([]), .own [], .own [], .own []], .cells [ay s.name, .own ((xs++([(I s.ins i)]:List (ar×aW))).map dD), .own [], .own []], .cells [ay ((I s.ins i).1),ax (((I s.ins i).2).kind),ax (((I s.ins i).2).n),ay (((I s.ins i).2).s),aH ((((I s.ins i).2).l).map cn),aH ((((I s.ins i).2).f).map cB)]],m)) (fun _=>True) (by decide+kernel) ?_ ?_
   · rintro _ VJ
     try dsimp only at VJ
     refine ag (by omega) ?_
     refine ⟨(i+1,xs++([(I s.ins i)]:List (ar×aW))),⟨rfl,rfl⟩,?_,?_⟩
     · try dsimp only
       exact ⟨by omega,by omega,by rw [iM aE.1 (by assumption),←aE.2.2]⟩
     try dsimp only
     omega
   repeat' first
    |refine ⟨(),⟨rfl,rfl⟩,trivial⟩
    |refine cG (fun _=>Jp ((I s.ins i).2) (AG _ _ (Nat.lt_succ_self _) (aw.i _ (bF aE.1 (by assumption))))) rfl ?_
    |refine ap dD xs ([(I s.ins i)]:List (ar×aW)) rfl rfl (fun _=>⟨rfl,rfl⟩) (by (simp only [List.length_append,List.length_cons,List.length_nil];omega)) ?_
    |refine ⟨?_,?_,?_,trivial⟩
    |refine ⟨?_,?_,trivial⟩
 obtain rfl:xs=s.ins:=by have:=aE.2.2;rwa [iN (by omega)] at this
 refine aB ?_
 refine bN ?_
 refine cH (σ:=Int×List eU) [] [1,2,3,36,37,38] 3 (fun ⟨i2,dn⟩=>([(1, .loc 0 0),(2, .loc 1 0),(3, .loc 2 0),(36,aH (s.res.map dG)),(37,ax (s.res.length:Int)),(38,ax i2)],[.cells [ay s.name,aH (s.ins.map dD),aH (s.res.map dG),aH (s.outs.map cQ)], .cells [ay ([]), .own [], .own [], .own []], .cells [ay s.name, .own (s.ins.map dD), .own (dn.map dG), .own []]],m)) (fun ⟨i2,dn⟩=>0≤i2∧i2≤s.res.length∧dn=s.res.take i2.toNat) (fun ⟨i2,dn⟩=>s.res.length- i2.toNat) (0,[]) ⟨rfl,rfl⟩ ?_ ?_
 · try dsimp only
   exact ⟨by omega,by omega,rfl⟩
 rintro ⟨i2,dn⟩ bK
 dsimp only at bK
 have Yt:(dn.length:Int)=i2:=by rw [bK.2.2,List.length_take];omega
 refine aB ?_
 refine ag (fun aa=>?_) (fun aa=>?_)
 · have Yu:=(aw.r _ (bF bK.1 aa)).1
   refine aB ?_
   refine cX (by omega) ?_
   refine aB ?_
   refine bN ?_
   refine cH (σ:=Int×List (ar×au)) [] [1,2,3,8,36,37,38,48,49,50] 5 (fun ⟨k,ps⟩=>([(1, .loc 0 0),(2, .loc 1 0),(3, .loc 2 0),(8, .loc 4 0),(36,aH (s.res.map dG)),(37,ax (s.res.length:Int)),(38,ax i2),(48,aH (((I s.res i2).parts).map cQ)),(49,ax (((I s.res i2).parts).length:Int)),(50,ax k)],[.cells [ay s.name,aH (s.ins.map dD),aH (s.res.map dG),aH (s.outs.map cQ)], .cells [ay ([]), .own [], .own [], .own []], .cells [ay s.name, .own (s.ins.map dD), .own (dn.map dG), .own []], .cells [ay ((I s.res i2).kind),ay ((I s.res i2).name),aH (((I s.res i2).parts).map cQ)], .cells [ay ((I s.res i2).kind),ay ((I s.res i2).name), .own (ps.map cQ)]],m)) (fun ⟨k,ps⟩=>0≤k∧k≤(I s.res i2).parts.length∧ps=(I s.res i2).parts.take k.toNat) (fun ⟨k,ps⟩=>(I s.res i2).parts.length- k.toNat) (0,[]) ⟨rfl,rfl⟩ ?_ ?_
   · try dsimp only
     exact ⟨by omega,by omega,rfl⟩
   rintro ⟨k,ps⟩ ek
   dsimp only at ek
   have qn:(ps.length:Int)=k:=by rw [ek.2.2,List.length_take];omega
   refine aB ?_
   refine ag (fun aj=>?_) (fun aj=>?_)
   · refine aB ?_
     refine cX (by omega) ?_
     refine hS b2 Tryz.mixed (σ:=Unit) (.f 0 (.f 2 (.f 4 (.o 1 (.o 3 (.s 5 (.s 6 (.s 7 (.s 8 (.s 9 (.f 10 (.s 11 .d))))))) (.o 5 (.o 3 (.s 6 (.s 7 (.s 8 (.s 9 (.f 10 (.s 11 .d)))))) (.o 6 (.s 3 (.s 7 (.s 8 (.s 9 (.f 10 (.s 11 .d)))))) .z)) .z)) (.o 3 (.o 1 (.s 5 (.s 6 (.s 7 (.s 8 (.s 9 (.f 10 (.s 11 .d))))))) (.o 5 (.o 1 (.s 6 (.s 7 (.s 8 (.s 9 (.f 10 (.s 11 .d)))))) (.o 6 (.o 1 (.s 7 (.s 8 (.s 9 (.f 10 (.s 11 .d))))) (.o 7 (.o 1 (.s 8 (.s 9 (.f 10 (.s 11 .d)))) (.o 8 (.s 1 (.s 9 (.f 10 (.s 11 .d)))) .z)) .z)) .z)) .z)) (.o 5 (.o 1 (.o 3 (.s 6 (.s 7 (.s 8 (.s 9 (.f 10 (.s 11 .d)))))) (.o 6 (.s 3 (.s 7 (.s 8 (.s 9 (.f 10 (.s 11 .d)))))) .z)) (.o 3 (.o 1 (.s 6 (.s 7 (.s 8 (.s 9 (.f 10 (.s 11 .d)))))) (.o 6 (.o 1 (.s 7 (.s 8 (.s 9 (.f 10 (.s 11 .d))))) (.o 7 (.o 1 (.s 8 (.s 9 (.f 10 (.s 11 .d)))) (.o 8 (.s 1 (.s 9 (.f 10 (.s 11 .d)))) .z)) .z)) .z)) (.o 6 (.o 1 (.s 3 (.s 7 (.s 8 (.s 9 (.f 10 (.s 11 .d)))))) (.o 3 (.o 1 (.s 7 (.s 8 (.s 9 (.f 10 (.s 11 .d))))) (.o 7 (.o 1 (.s 8 (.s 9 (.f 10 (.s 11 .d)))) (.o 8 (.s 1 (.s 9 (.f 10 (.s 11 .d)))) .z)) .z)) .z)) .z))) .z)))))) [] [1,2,3,8,36,37,38,48,49,50] 6 (fun _=>([(1, .loc 0 0),(2, .loc 1 0),(3, .loc 2 0),(8, .loc 4 0),(36,aH (s.res.map dG)),(37,ax (s.res.length:Int)),(38,ax i2),(48,aH (((I s.res i2).parts).map cQ)),(49,ax (((I s.res i2).parts).length:Int)),(50,ax k)],[.cells [ay s.name,aH (s.ins.map dD),aH (s.res.map dG),aH (s.outs.map cQ)], .cells [ay ([]), .own [], .own [], .own []], .cells [ay s.name, .own (s.ins.map dD), .own (dn.map dG), .own []], .cells [ay ((I s.res i2).kind),ay ((I s.res i2).name),aH (((I s.res i2).parts).map cQ)], .cells [ay ((I s.res i2).kind),ay ((I s.res i2).name), .own ((ps++([(I ((I s.res i2).parts) k)]:List (ar×au))).map cQ)], .cells [ay ((I ((I s.res i2).parts) k).1),ax (((I ((I s.res i2).parts) k).2).kind),ax ((((I ((I s.res i2).parts) k).2).v).kind),ax ((((I ((I s.res i2).parts) k).2).v).n),ay ((((I ((I s.res i2).parts) k).2).v).s),aH (((((I ((I s.res i2).parts) k).2).v).l).map cn),aH (((((I ((I s.res i2).parts) k).2).v).f).map cB),ay (((I ((I s.res i2).parts) k).2).s),ay (((I ((I s.res i2).parts) k).2).t),aH ((((I ((I s.res i2).parts) k).2).a).map bY),aH ((((I ((I s.res i2).parts) k).2).n).map cm)]],m)) (fun _=>True) (by decide+kernel) ?_ ?_
     · rintro _ VK
       try dsimp only at VK
       refine ag (by omega) ?_
       refine ⟨(k+1,ps++([(I ((I s.res i2).parts) k)]:List (ar×au))),⟨rfl,rfl⟩,?_,?_⟩
       · try dsimp only
         exact ⟨by omega,by omega,by rw [iM ek.1 (by assumption),←ek.2.2]⟩
       try dsimp only
       omega
     repeat' first
      |refine ⟨(),⟨rfl,rfl⟩,trivial⟩
      |refine cG (fun _=>Lk ((I ((I s.res i2).parts) k).2) (by first|exact (aw.r _ (bF bK.1 (by assumption))).2 _ (bF ek.1 (by assumption))|exact aw.o _ (bF ek.1 (by assumption)))) rfl ?_
      |refine ap cQ ps ([(I ((I s.res i2).parts) k)]:List (ar×au)) rfl rfl (fun _=>⟨rfl,rfl⟩) (by (simp only [List.length_append,List.length_cons,List.length_nil];omega)) ?_
      |refine ⟨?_,?_,?_,trivial⟩
      |refine ⟨?_,?_,trivial⟩
   refine ap dG dn ([(⟨(I s.res i2).kind,(I s.res i2).name,ps⟩:eU)]:List eU) rfl rfl (fun _=>⟨rfl,rfl⟩) (by (simp only [List.length_append,List.length_cons,List.length_nil];omega)) ?_
   refine ag (by omega) ?_
   refine ⟨(i2+1,dn++([(⟨(I s.res i2).kind,(I s.res i2).name,ps⟩:eU)]:List eU)),⟨rfl,rfl⟩,?_,?_⟩
   · try dsimp only
     have n4:ps=(I s.res i2).parts:=by have:=ek.2.2;rwa [iN (by omega)] at this
     exact ⟨by omega,by omega,by rw [iM bK.1 (by assumption),←bK.2.2,n4]⟩
   try dsimp only
   omega
 obtain rfl:dn=s.res:=by have:=bK.2.2;rwa [iN (by omega)] at this
 refine aB ?_
 refine bN ?_
 refine cH (σ:=Int×List (ar×au)) [] [2,3,74,75,76] 3 (fun ⟨i3,dv⟩=>([(2, .loc 1 0),(3, .loc 2 0),(74,aH (s.outs.map cQ)),(75,ax (s.outs.length:Int)),(76,ax i3)],[.cells [ay s.name,aH (s.ins.map dD),aH (s.res.map dG),aH (s.outs.map cQ)], .cells [ay ([]), .own [], .own [], .own []], .cells [ay s.name, .own (s.ins.map dD), .own (s.res.map dG), .own (dv.map cQ)]],m)) (fun ⟨i3,dv⟩=>0≤i3∧i3≤s.outs.length∧dv=s.outs.take i3.toNat) (fun ⟨i3,dv⟩=>s.outs.length- i3.toNat) (0,[]) ⟨rfl,rfl⟩ ?_ ?_
 · try dsimp only
   exact ⟨by omega,by omega,rfl⟩
 rintro ⟨i3,dv⟩ ek
 dsimp only at ek
 have UF:(dv.length:Int)=i3:=by rw [ek.2.2,List.length_take];omega
 refine aB ?_
 refine ag (fun aG=>?_) (fun aG=>?_)
 · refine aB ?_
   refine cX (by omega) ?_
   refine hS b2 Tryz.mixed (σ:=Unit) (.f 0 (.f 2 (.f 4 (.o 1 (.o 3 (.s 5 (.s 6 (.s 7 (.s 8 (.s 9 (.f 10 (.s 11 .d))))))) (.o 5 (.o 3 (.s 6 (.s 7 (.s 8 (.s 9 (.f 10 (.s 11 .d)))))) (.o 6 (.s 3 (.s 7 (.s 8 (.s 9 (.f 10 (.s 11 .d)))))) .z)) .z)) (.o 3 (.o 1 (.s 5 (.s 6 (.s 7 (.s 8 (.s 9 (.f 10 (.s 11 .d))))))) (.o 5 (.o 1 (.s 6 (.s 7 (.s 8 (.s 9 (.f 10 (.s 11 .d)))))) (.o 6 (.o 1 (.s 7 (.s 8 (.s 9 (.f 10 (.s 11 .d))))) (.o 7 (.o 1 (.s 8 (.s 9 (.f 10 (.s 11 .d)))) (.o 8 (.s 1 (.s 9 (.f 10 (.s 11 .d)))) .z)) .z)) .z)) .z)) (.o 5 (.o 1 (.o 3 (.s 6 (.s 7 (.s 8 (.s 9 (.f 10 (.s 11 .d)))))) (.o 6 (.s 3 (.s 7 (.s 8 (.s 9 (.f 10 (.s 11 .d)))))) .z)) (.o 3 (.o 1 (.s 6 (.s 7 (.s 8 (.s 9 (.f 10 (.s 11 .d)))))) (.o 6 (.o 1 (.s 7 (.s 8 (.s 9 (.f 10 (.s 11 .d))))) (.o 7 (.o 1 (.s 8 (.s 9 (.f 10 (.s 11 .d)))) (.o 8 (.s 1 (.s 9 (.f 10 (.s 11 .d)))) .z)) .z)) .z)) (.o 6 (.o 1 (.s 3 (.s 7 (.s 8 (.s 9 (.f 10 (.s 11 .d)))))) (.o 3 (.o 1 (.s 7 (.s 8 (.s 9 (.f 10 (.s 11 .d))))) (.o 7 (.o 1 (.s 8 (.s 9 (.f 10 (.s 11 .d)))) (.o 8 (.s 1 (.s 9 (.f 10 (.s 11 .d)))) .z)) .z)) .z)) .z))) .z)))))) [] [2,3,74,75,76] 4 (fun _=>([(2, .loc 1 0),(3, .loc 2 0),(74,aH (s.outs.map cQ)),(75,ax (s.outs.length:Int)),(76,ax i3)],[.cells [ay s.name,aH (s.ins.map dD),aH (s.res.map dG),aH (s.outs.map cQ)], .cells [ay ([]), .own [], .own [], .own []], .cells [ay s.name, .own (s.ins.map dD), .own (s.res.map dG), .own ((dv++([(I s.outs i3)]:List (ar×au))).map cQ)], .cells [ay ((I s.outs i3).1),ax (((I s.outs i3).2).kind),ax ((((I s.outs i3).2).v).kind),ax ((((I s.outs i3).2).v).n),ay ((((I s.outs i3).2).v).s),aH (((((I s.outs i3).2).v).l).map cn),aH (((((I s.outs i3).2).v).f).map cB),ay (((I s.outs i3).2).s),ay (((I s.outs i3).2).t),aH ((((I s.outs i3).2).a).map bY),aH ((((I s.outs i3).2).n).map cm)]],m)) (fun _=>True) (by decide+kernel) ?_ ?_
   · rintro _ VL
     try dsimp only at VL
     refine ag (by omega) ?_
     refine ⟨(i3+1,dv++([(I s.outs i3)]:List (ar×au))),⟨rfl,rfl⟩,?_,?_⟩
     · try dsimp only
       exact ⟨by omega,by omega,by rw [iM ek.1 (by assumption),←ek.2.2]⟩
     try dsimp only
     omega
   repeat' first
    |refine ⟨(),⟨rfl,rfl⟩,trivial⟩
    |refine cG (fun _=>Lk ((I s.outs i3).2) (by first|exact (aw.r _ (bF bK.1 (by assumption))).2 _ (bF ek.1 (by assumption))|exact aw.o _ (bF ek.1 (by assumption)))) rfl ?_
    |refine ap cQ dv ([(I s.outs i3)]:List (ar×au)) rfl rfl (fun _=>⟨rfl,rfl⟩) (by (simp only [List.length_append,List.length_cons,List.length_nil];omega)) ?_
    |refine ⟨?_,?_,?_,trivial⟩
    |refine ⟨?_,?_,trivial⟩
 refine bn rfl fun _=>?_
 show K (.agg [.str s.name, .slice false (s.ins.map dD), .slice false (s.res.map dG), .slice false (dv.map cQ)]) m
 have ak:dv=s.outs:=by have:=ek.2.2;rwa [iN (by omega)] at this
 rw [ak];exact U
set_option maxHeartbeats 4000000 in
theorem VM (s:ar) (l:List Tok) (aw:s.length≤16777216) (hv:(c7 s).1=l) (m:ae) (K:ab→ae→Prop) (U:K (.tuple [lj ey (hl s).1, .int .i64 (hl s).2.1, .int .i64 (hl s).2.2]) m):bh Tryz.prog 32 [.str s] m K:=by
 refine bh.pl ?_
 have av:l.length≤5000:=by rw [←hv];have:=A0 s;omega
 have EF:=AZ s
 have hw:lx l:=by rw [←hv];exact E8 s
 refine enter (c:=cT [] [] [6] [12999] [12] []) (vs:=[.aI (.str s)]) (L:=[]) (m:=m) false b2 Tryz.mixed Tryz.func32 rfl (k:=1) (by show cO [12999] _ _ _=true;decide+kernel) rfl (Good.nil m) ?_
 refine cG (fun _=>fun m K U=>Tc s aw m K (by rw [hv];exact U)) rfl ?_
 refine aB ?_
 refine ag (fun J=>?_) (fun J=>?_)
 · refine bn rfl fun _=>?_
   show K (.tuple [.slice false [], .int .i64 ((c7 s).2.1), .int .i64 ((c7 s).2.2)]) m
   rw [LP (by omega)] at U
   exact U
 refine aB ?_
 refine cH (σ:=(List dm)×Int×Int×Int) [] [8,9] 1 (fun ⟨xs,a2,az,bl⟩=>([(8, .loc 0 0),(9, .own (xs.map ey))],[b5 l (s.length:Int) a2 az bl],m)) (fun ⟨xs,a2,az,bl⟩=>0≤a2∧a2≤l.length∧0≤az∧xs.length≤8∧∃bV:Nat,(az=0→l.length- a2<bV)∧dV (jT l s.length (l.length+1) 0 []) az bl (jT l s.length bV a2 xs)) (fun ⟨xs,a2,az,bl⟩=>if az=0 then l.length- a2.toNat+1 else 0) ([],0,0,0) ⟨rfl,rfl⟩ ?_ ?_
 · try dsimp only
   exact ⟨by omega,by omega,by omega,by simp,l.length+1,fun _=>by omega,⟨fun _=>rfl,fun h=>absurd rfl h⟩⟩
 rintro ⟨xs,a2,az,bl⟩ aE
 dsimp only at aE
 obtain ⟨i1,i2,i3,i4,bV,i8,i9⟩:=aE
 refine aB ?_
 refine cf [8,9] 42 ((az==0)&&(decide (a2<(l.length:Int)))) ?_ ?_
 · repeat' first
    |exact ⟨⟨_,rfl,by grind [bD.val]⟩,rfl⟩
    |refine ag (fun _=>?_) (fun _=>?_)
    |refine bN ?_
 refine ag (fun aa=>?_) (fun aa=>?_)
 · replace aa:(az=0)∧(a2<(l.length:Int)):=⟨(eq_of_beq (dH aa)),(of_decide_eq_true (eA aa))⟩
   refine aB ?_
   refine bN ?_
   refine ag (fun aj=>?_) (fun aj=>?_)
   · refine bx 115 [0] (σ:=Int×Int) (fun ⟨bb,bo⟩=>(az=0→bb=2∧bo=cp l (s.length:Int) a2)∧(az≠0→bb=az∧bo=bl)∧0<bb) (fun ⟨bb,bo⟩=> .da []) (fun ⟨bb,bo⟩=>[b5 l (s.length:Int) a2 bb bo]) rfl (fun _=>rfl) (fun bs ai gd aq K U=>mO l (s.length:Int) a2 az bl 2 (bs.getD 0 0) (by decide) av (by omega) (by omega) (by omega) ai gd K (fun z=>U (2,cp l (s.length:Int) a2) ⟨fun _=>⟨rfl,rfl⟩,fun y=>absurd z y,by decide⟩) (fun z=>U (az,bl) ⟨fun y=>absurd y z,fun _=>⟨rfl,rfl⟩,by omega⟩)) ?_
     rintro ⟨bb,bo⟩ bp
     dsimp only at bp
     obtain ⟨ly,ku,mP⟩:=bp
     refine aB ?_
     refine ag (fun aG=>?_) (fun aG=>?_)
     · refine hS b2 Tryz.mixed (σ:=Unit) (.f 0 (.f 1 (.f 2 (.f 4 (.f 5 (.f 6 (.o 3 (.o 7 (.s 8 (.s 9 (.s 10 .d))) (.o 8 (.o 7 (.s 9 (.s 10 .d)) (.o 9 (.s 7 (.s 10 .d)) .z)) .z)) (.o 7 (.o 3 (.s 8 (.s 9 (.s 10 .d))) (.o 8 (.s 3 (.s 9 (.s 10 .d))) .z)) (.o 8 (.o 3 (.o 7 (.s 9 (.s 10 .d)) (.o 9 (.s 7 (.s 10 .d)) .z)) (.o 7 (.s 3 (.s 9 (.s 10 .d))) .z)) .z))))))))) [] [2,3,4] 1 (fun _=>([(2, .own []),(3,ax bo),(4,ax bb)],[b5 l (s.length:Int) a2 bb bo],m)) (fun _=>True) (by decide+kernel) ?_ ?_
       · rintro _ FY
         try dsimp only at FY
         refine bn rfl fun _=>?_
         show K (.tuple [.slice false [], .int .i64 bo, .int .i64 bb]) m
         have aA:=BB hv (by omega) (dV.fail (R:= .bad 0 0) (i9.to fun _=>(Bz (by have:=i8 aa.1;omega) aa.2).trans (if_pos aj)) ly ku mP) (by omega)
         rw [aA] at U
         exact U
       repeat' first
        |refine ⟨(),⟨rfl,rfl⟩,trivial⟩
        |refine ⟨?_,?_,?_,trivial⟩
        |refine ⟨?_,?_,trivial⟩
     refine bn rfl fun _=>?_
     show K (.tuple [.slice false (xs.map ey), .int .i64 0, .int .i64 0]) m
     exact absurd mP (by omega)
   refine bx 115 [0] (σ:=dm×Int×Int×Int) (fun ⟨eZ,dj,b3,cg⟩=>aX l (k1 l (s.length:Int) a2) eZ a2 az bl dj b3 cg) (fun ⟨eZ,dj,b3,cg⟩=> .agg [ay eZ.name,aH (eZ.ins.map dD),aH (eZ.res.map dG),aH (eZ.outs.map cQ)]) (fun ⟨eZ,dj,b3,cg⟩=>[b5 l (s.length:Int) dj b3 cg]) rfl (fun _=>rfl) (fun bs ai gd aq K U=>VE l (s.length:Int) a2 az bl (bs.getD 0 0) av (by omega) (by omega) (by omega) hw aa.1 ai gd K (fun c1 a8 a1 a6 aC=>U (c1,a8,a1,a6) aC)) ?_
   rintro ⟨eZ,dj,b3,cg⟩ cx
   dsimp only at cx
   have qV:=cx.ba
   have ig:=cx.ad
   have qW:=cx.bB
   refine ap ey xs ([eZ]:List dm) rfl rfl (fun _=>⟨rfl,rfl⟩) (by (simp only [List.length_append,List.length_cons,List.length_nil];omega)) ?_
   refine ⟨(xs++([eZ]:List dm),dj,b3,cg),⟨rfl,rfl⟩,?_,?_⟩
   · try dsimp only
     have bc:=cx.gt
     simp only [List.length_append,List.length_cons,List.length_nil]
     exact ⟨by omega,by omega,by omega,by omega,bV- 1,fun z=>by have:=bc z;have:=i8 aa.1;omega,(i9.to fun _=>(Bz (by have:=i8 aa.1;omega) aa.2).trans (if_neg aj)).step cx⟩
   try dsimp only
   rw [if_pos aa.1]
   have bc:=cx.gt
   split<;>omega
 replace aa:(az≠0)∨((l.length:Int)≤a2):=((eB aa).imp (fun q=>(ne_of_beq_false q)) (fun q=>(Int.not_lt.1 (of_decide_eq_false q))))
 refine aB ?_
 refine ag (fun aR=>?_) (fun aR=>?_)
 · refine hS b2 Tryz.mixed (σ:=Unit) (.f 0 (.f 1 (.f 2 (.f 4 (.f 5 (.f 6 (.o 3 (.o 7 (.s 8 (.s 9 (.s 10 .d))) (.o 8 (.o 7 (.s 9 (.s 10 .d)) (.o 9 (.s 7 (.s 10 .d)) .z)) .z)) (.o 7 (.o 3 (.s 8 (.s 9 (.s 10 .d))) (.o 8 (.s 3 (.s 9 (.s 10 .d))) .z)) (.o 8 (.o 3 (.o 7 (.s 9 (.s 10 .d)) (.o 9 (.s 7 (.s 10 .d)) .z)) (.o 7 (.s 3 (.s 9 (.s 10 .d))) .z)) .z))))))))) [] [2,3,4] 1 (fun _=>([(2, .own []),(3,ax bl),(4,ax az)],[b5 l (s.length:Int) a2 az bl],m)) (fun _=>True) (by decide+kernel) ?_ ?_
   · rintro _ FY
     try dsimp only at FY
     refine bn rfl fun _=>?_
     show K (.tuple [.slice false [], .int .i64 bl, .int .i64 az]) m
     have aA:=BB hv (by omega) i9 (by omega)
     rw [aA] at U
     exact U
   repeat' first
    |refine ⟨(),⟨rfl,rfl⟩,trivial⟩
    |refine ⟨?_,?_,?_,trivial⟩
    |refine ⟨?_,?_,trivial⟩
 refine bn rfl fun _=>?_
 show K (.tuple [.slice false (xs.map ey), .int .i64 0, .int .i64 0]) m
 have aA:=LO hv (by omega) (i9.to fun z=>LN (by have:=i8 z;omega) (aa.resolve_left fun c=>c z)) (by omega)
 rw [aA] at U
 exact U
theorem VN (s:ar) (aw:s.length≤16777216) (m:ae) (K:ab→ae→Prop) (U:K (.tuple [lj ey (hl s).1, .int .i64 (hl s).2.1, .int .i64 (hl s).2.2]) m):bh Tryz.prog 32 [.str s] m K:=VM s _ aw rfl m K U
end Go.Proofs
end
section
namespace Go.Proofs
open Go Go.bg Go.cz
set_option maxRecDepth 100000
theorem Mf:∀l:List dm,0≤hM l
 |[]=>by rw [hM];exact Int.le_refl _
 |s::r=>by rw [hM];split;(· exact Mf r);(· exact y1 s)
theorem FZ (l:List dm):0≤(ht l).2:=by
 rw [ht]
 split
 · decide
 · split
   · split
     · show (0:Int)≤2;decide
     · exact Int.le_refl _
   · exact Mf l
structure iS {α:Type} (Q:α→Prop) (p:bP α):Prop where
 n:0≤p.f
 q:Q p.x
section
variable {α β eT:Type} {u:α→Prop} {Q:β→Prop} [Inhabited eT] {R:eT→Prop} {l:List Tok} {n:Int}
theorem iS.bad [Inhabited β] {f s:Int} (h:0≤f) (aY:Q default):iS Q (.bad f s:bP β):=⟨h,aY⟩
theorem iS.ok {x:β} {a:Int} (h:Q x):iS Q (.ok x a):=⟨Int.le_refl _,h⟩
theorem iS.bind [Inhabited β] {p:bP α} {g:α→Int→bP β} (h:iS u p) (aY:Q default) (aa:∀x a,u x→iS Q (g x a)):iS Q (p.bind g):=by
 rw [bP.bind]
 split
 · exact aa _ _ h.q
 · exact .bad h.n aY
theorem oE (k:Int) (s:ar) (a:Int):iS (fun _=>True) (b8 l n k s a):=⟨(l7 l n k s a).n,trivial⟩
theorem F0 (a:Int):iS (fun _=>True) (gD l n a):=by
 rw [gD]
 refine iS.bind (u:=fun _=>True) ⟨(Fk l n 6 a).n,trivial⟩ trivial fun x a _=>?_
 split
 · exact .ok trivial
 · exact .bad (uf x) trivial
theorem VO (a:Int):iS (fun _=>True) (sr l n a):=by
 rw [sr]
 refine (F0 a).bind trivial fun x a _=>?_
 split
 · exact .ok trivial
 · exact .bad (by decide) trivial
theorem Mg (aY:R default) {T:List (ar×aW)→Int→bP eT} (aP:∀xs a,iS R (T xs a)):∀k a xs,iS R (oB l n T k a xs)
 |0,_,_=> .bad (by decide) aY
 |k+1,a,xs=>by
  rw [oB]
  split
  · split
    · exact .bad (by decide) aY
    · exact (oE ..).bind aY fun _ _ _=>(oE ..).bind aY fun _ _ _=>(VO _).bind aY fun _ _ _=>Mg aY aP k _ _
  · exact aP _ _
theorem Mh (aY:R default) {T:List (ar×au)→Int→bP eT} (aP:∀xs a,iS R (T xs a)):∀k a xs,iS R (oD l n T k a xs)
 |0,_,_=> .bad (by decide) aY
 |k+1,a,xs=>by
  rw [oD]
  split
  · split
    · exact .bad (by decide) aY
    · exact (oE ..).bind aY fun _ _ _=>(oE ..).bind aY fun _ _ _=>(F0 _).bind aY fun _ _ _=>Mh aY aP k _ _
  · exact aP _ _
theorem Mi (aY:R default) {T:List (ar×au)→Int→bP eT} {B:Nat} (aP:∀xs a,xs.length≤B→iS R (T xs a)):∀(k:Nat) (a:Int) (xs:List (ar×au)),xs.length+k≤B→iS R (kC l n T k a xs)
 |0,_,_,_=> .bad (by decide) aY
 |k+1,a,xs,h=>by
  have g:∀a,iS R (wJ l n (kC l n T k) xs a):=fun a=>by
   rw [wJ]
   split
   · exact .bad (by decide) aY
   · refine (oE ..).bind aY fun _ _ _=>?_
     rw [Bv]
     split
     · exact .bad (by decide) aY
     · exact (oE ..).bind aY fun _ _ _=>(F0 _).bind aY fun _ _ _=>Mi aY aP k _ _ (by simp only [List.length_append,List.length_cons,List.length_nil];omega)
  rw [kC]
  split
  · exact aP _ _ (by omega)
  · rw [nI]
    split
    · exact g _
    · exact (oE ..).bind aY fun _ _ _=>g _
theorem VP (a:Int):iS (fun x:eU=>x.parts.length≤l.length+1) (l9 l n a):=by
 have aY:(default:eU).parts.length≤l.length+1:=Nat.zero_le _
 rw [l9]
 exact (oE ..).bind aY fun _ _ _=>(oE ..).bind aY fun _ _ _=>(oE ..).bind aY fun _ _ _=>Mi aY (fun _ _ h=> .ok h) _ _ _ (by simp)
theorem Mj (aY:R default) {T:List eU→Int→bP eT} (aP:∀xs a,(∀x∈xs,x.parts.length≤l.length+1)→iS R (T xs a)):∀(k:Nat) (a:Int) (xs:List eU),(∀x∈xs,x.parts.length≤l.length+1)→iS R (oC l n T k a xs)
 |0,_,_,_=> .bad (by decide) aY
 |k+1,a,xs,h=>by
  rw [oC]
  split
  · split
    · exact .bad (by decide) aY
    · exact (VP _).bind aY fun x _ an=>Mj aY aP k _ _ fun y aK=>by
       rcases List.mem_append.1 aK with aK|aK
       · exact h y aK
       · rw [List.mem_singleton.1 aK];exact an
  · exact aP _ _ h
theorem VQ (a:Int):iS (fun s:dm=>∀x∈s.res,x.parts.length≤l.length+1) (k1 l n a):=by
 have aY:∀x∈(default:dm).res,x.parts.length≤l.length+1:=fun x an=>by cases an
 rw [k1]
 exact (oE ..).bind aY fun _ _ _=>(oE ..).bind aY fun _ _ _=>Mg aY (fun _ _=>Mj aY (fun r _ aA=>Mh aY (fun _ _=> .ok aA) _ _ _) _ _ _ fun x an=>by cases an) _ _ _
theorem Mk:∀(k:Nat) (a:Int) (xs:List dm),(∀s∈xs,∀x∈s.res,x.parts.length≤l.length+1)→iS (fun xs:List dm=>∀s∈xs,∀x∈s.res,x.parts.length≤l.length+1) (jT l n k a xs)
 |0,_,_,_=> .bad (by decide) fun s aw=>by cases aw
 |k+1,a,xs,h=>by
  have aY:∀s∈(default:List dm),∀x∈s.res,x.parts.length≤l.length+1:=fun s aw=>by cases aw
  rw [jT]
  split
  · split
    · exact .bad (by decide) aY
    · exact (VQ _).bind aY fun x _ an=>Mk k _ _ fun y aK=>by
       rcases List.mem_append.1 aK with aK|aK
       · exact h y aK
       · rw [List.mem_singleton.1 aK];exact an
  · exact .ok h
end
theorem VR (s:ar) (aw:s.length≤5000):0≤(hl s).2.2∧∀t∈(hl s).1,∀x∈t.res,x.parts.length≤1000000:=by
 have av:=A0 s
 have h:=Mk (l:=(c7 s).1) (n:=s.length) ((c7 s).1.length+1) 0 [] fun s aw=>by cases aw
 rw [hl]
 split
 · split
   · exact ⟨Int.le_refl _,fun t aq x an=>by have:=h.q t aq x an;omega⟩
   · exact ⟨h.n,fun t aq=>by cases aq⟩
 · exact ⟨AZ s,fun t aq=>by cases aq⟩
set_option maxHeartbeats 4000000 in
theorem VS (l:List dm) (s:ar) (ao:∀s∈l,y2 s) (m:ae) (K:ab→ae→Prop) (aP:cW m) (U:K (.bool true) m):bh Tryz.prog 5 [.slice false (l.map ey), .str s] m K:=by
 refine enter (c:=cT [] [0] [7,11,15] [] [] []) (vs:=[.aI (.slice false (l.map ey)), .aI (.str s)]) (L:=[]) (m:=m) false b2 Tryz.mixed Tryz.func5 rfl (k:=2) (by show cO [] _ _ _=true;decide+kernel) rfl (Good.nil m) ?_
 refine ⟨fun bJ=>?_⟩
 have o7:l.length≤140737488355328:=dr (o:=false) (bJ 0).1
 refine hG [] [] (.b (.lit true)) rfl (fun bs ai gd aq=>fun K U=>U2 ai K (cW.up aq aP) U) ?_
 refine aB ?_
 refine bx 115 [] (σ:=Bool) (fun y3=>y3=true→(l.length:Int)≤12) (fun y3=>jx y3) (fun y3=>[]) rfl (fun _=>rfl) (fun bs ai gd aq K U=>Vq l ai K (fun b ah=>U b ah)) ?_
 rintro y3 bp
 refine ag (fun J=>?_) (fun J=>?_)
 · refine ag (fun aa=>?_) (fun aa=>?_)
   · exact bn rfl fun _=>U
   have pe:=VR s (by omega)
   refine aB ?_
   refine cH (σ:=Int) [] [0,1,6] 0 (fun i=>([(0,aH (l.map ey)),(1,ay s),(6,ax i)],[],m)) (fun i=>0≤i∧i≤l.length) (fun i=>l.length- i.toNat) (0) ⟨rfl,rfl⟩ ?_ ?_
   · try dsimp only
     first|omega|(refine ⟨?_,?_⟩<;>first|omega|simp)|simp
   rintro i aE
   obtain ⟨cq,bl⟩:=aE
   refine aB ?_
   refine bN ?_
   refine ag (fun aj=>?_) (fun aj=>?_)
   · have F1:=ao _ (bF cq aj)
     refine aB ?_
     refine cf [0,1,6] 59 ((!true)||(!true)) ?_ ?_
     · repeat' first
        |exact ⟨⟨_,rfl,by grind [bD.val]⟩,rfl⟩
        |refine ag (fun _=>?_) (fun _=>?_)
        |refine cX (by omega) ?_
        |refine gN (fun _=>Lx (I l i)) ?_
        |refine gN (fun _=>LY (I l i) F1.ok) ?_
        |refine gN (fun _=>fun m K U=>AR (e6 (I l i)) (e6 (I l i)) (by first|exact y1 _|exact FZ _|exact pe.1) m K (by rw [beq_self_eq_true];exact U)) ?_
        |refine gN (fun _=>VI (I l i) F1) ?_
        |refine gN (fun _=>LZ (I l i) (fun x an=>(F1.r x an).1)) ?_
     refine ag (fun aG=>?_) (fun aG=>?_)
     · replace aG:(true=false)∨(true=false):=((dq aG).imp (fun q=>(dz q)) (fun q=>(dz q)))
       exact absurd aG (by simp)
     replace aG:(true=true)∧(true=true):=⟨(du (cb aG)),(du (dp aG))⟩
     refine ag (by omega) ?_
     refine ⟨(i+1),⟨rfl,rfl⟩,?_,?_⟩
     · try dsimp only
       (first|omega|(simp_all;done)|(simp_all;omega))
     try dsimp only
     omega
   refine hG [] [] (.aI (.tuple [.str ((ht l).1), .err 115 ((ht l).2)])) rfl (fun bs ai gd aq=>fun K U=>Vx l ai K (cW.up aq aP) U) ?_
   refine cG (fun _=>VA l (fun s aw=>(ao s aw).ok)) rfl ?_
   refine aB ?_
   refine cf [1] 78 ((!true)||(!(((ht l).1)==((ht l).1)))) ?_ ?_
   · repeat' first
      |exact ⟨⟨_,rfl,by grind [bD.val]⟩,rfl⟩
      |refine ag (fun _=>?_) (fun _=>?_)
      |refine cG (fun _=>fun m K U=>AR ((ht l).2) ((ht l).2) (by first|exact y1 _|exact FZ _|exact pe.1) m K (by rw [beq_self_eq_true];exact U)) rfl ?_
   refine ag (fun aR=>?_) (fun aR=>?_)
   · replace aR:(true=false)∨((ht l).1≠(ht l).1):=((dq aR).imp (fun q=>(dz q)) (fun q=>(ne_of_beq_false (dz q))))
     exact absurd aR (by simp)
   replace aR:(true=true)∧((ht l).1=(ht l).1):=⟨(du (cb aR)),(eq_of_beq (du (dp aR)))⟩
   refine hG [] [] (.aI (.tuple [.slice false (((hl s).1).map ey), .int .i64 ((hl s).2.1), .err 115 ((hl s).2.2)])) rfl (fun bs ai gd aq=>fun K U=>Vl s (by omega) ai (cW.up aq aP) K U) ?_
   refine cG (fun _=>VN s (by omega)) rfl ?_
   refine cf [] 4 ((true&&(((hl s).2.1)==((hl s).2.1)))&&true) ?_ ?_
   · repeat' first
      |exact ⟨⟨_,rfl,by grind [bD.val]⟩,rfl⟩
      |refine ag (fun _=>?_) (fun _=>?_)
      |refine cG (fun _=>fun m K U=>AR ((hl s).2.2) ((hl s).2.2) (by first|exact y1 _|exact FZ _|exact pe.1) m K (by rw [beq_self_eq_true];exact U)) rfl ?_
      |refine cG (fun _=>Vs (hl s).1 pe.2) rfl ?_
   refine bn rfl fun _=>?_
   show K (.bool ((true&&(((hl s).2.1)==((hl s).2.1)))&&true)) m
   rw [show ((true&&((hl s).2.1==(hl s).2.1))&&true)=true by simp];exact U
 exact bn rfl fun _=>U
end Go.Proofs
end
section
namespace Go.bg
open Go Go.RowKit Go.WideShapes Go.ChangeShapes
end Go.bg
namespace Go.Proofs
open Go Go.bg Go.RowKit Go.WideShapes Go.ChangeShapes
set_option maxRecDepth 100000
theorem BF (v:aW):(cn v).cells.length=5:=by cases v;rfl
theorem BG (v:ar×aW):(cB v).cells.length=6:=by
 obtain ⟨s,v⟩:=v
 cases v;rfl
section
variable {bk:{H:Type}→DataW H→Nat} {bkA:{H:Type}→List (DataW H)→Nat}
theorem VT (l:List aW):(l.map bI).sum=lV l:=by
 induction l with
 |nil=>rfl
 |cons v r aO=>rw [List.map_cons,List.sum_cons,aO];rfl
theorem VU (l:List (ar×aW)):(l.map fun p=>bI p.2).sum=mB l:=by
 induction l with
 |nil=>rfl
 |cons p r aO=>
  obtain ⟨s,v⟩:=p
  cases v with
  |mk k n t l f=>rw [List.map_cons,List.sum_cons,aO];rfl
theorem VV {n:Nat} (df:kQ bk bkA) (aO:∀k,k<n→kR bk Tryz.prog k 25 cn bI):kR bk Tryz.prog n 168 cB (fun p=>bI p.2):=by
 intro H enc W sp cs d ps h hw
 obtain ⟨av,p,aQ,aZ⟩:=rF df Tryz.underlying168 h hw
 obtain ⟨s,_,_,_,_,aw⟩:=aZ 0 _ cm (fun _=>0) rfl (fun _ _=>(n9 (by rfl)).toB) (by decide)
 obtain ⟨v,Ml,J,aa,_,bw⟩:=aZ 1 _ cn bI rfl (fun k al=>aO k al) (by decide)
 have aj:=df.at J
 refine ⟨(s,v),by simp only;omega,by rw [BG,av];rfl,fun i ad=>?_⟩
 rw [av] at ad
 replace ad:i<6:=ad
 cases v with
 |mk k n t l f=>
  match i,ad with
  |0,_=>exact aw 0 (by decide)
  |1,_=>exact bw 0 (by decide)
  |2,_=>exact bw 1 (by decide)
  |3,_=>exact bw 2 (by decide)
  |4,_=>exact bw 3 (by decide)
  |5,_=>exact bw 4 (by decide)
theorem Mm (df:kQ bk bkA) (n:Nat):kR bk Tryz.prog n 25 cn bI:=by
 induction n using Nat.strongRecOn with
 |ind n aO=>
  intro H enc W sp cs d ps h hw
  obtain ⟨av,p,aQ,aZ⟩:=rF df Tryz.underlying25 h hw
  obtain ⟨k,_,_,_,_,al⟩:=aZ 0 _ n8 (fun _=>0) rfl (fun _ _=>(CR (by rfl)).toB) (by decide)
  obtain ⟨m,_,_,_,_,hm⟩:=aZ 1 _ n8 (fun _=>0) rfl (fun _ _=>(CR (by rfl)).toB) (by decide)
  obtain ⟨s,_,_,_,_,aw⟩:=aZ 2 _ cm (fun _=>0) rfl (fun _ _=>(n9 (by rfl)).toB) (by decide)
  obtain ⟨l,dl,hC,hd,_,oi⟩:=aZ 3 _ (lj cn) _ rfl (fun j aD=>qx df (by rfl) (by rfl) (by decide) (by decide) BF (fun i ad=>aO i (by omega))) (by decide)
  obtain ⟨f,Mn,f1,f2,_,VW⟩:=aZ 4 _ (lj cB) _ rfl (fun j aD=>qx df (by rfl) (by rfl) (by decide) (by decide) BG (fun i ad=>VV df (fun q aU=>aO q (by omega)))) (by decide)
  have aj:=df.two (by decide) hC f1
  replace hd:(l.map bI).sum≤bk dl:=hd
  replace f2:(f.map fun p=>bI p.2).sum≤bk Mn:=f2
  rw [VT] at hd
  rw [VU] at f2
  replace aj:bk dl+bk Mn≤bkA p:=aj
  have aG:lV l+mB f+1≤bk d:=by omega
  refine ⟨.mk k m s l f,by rw [bI];exact aG,by rw [BF,av];rfl,fun i ad=>?_⟩
  rw [av] at ad
  replace ad:i<5:=ad
  rw [h4]
  match i,ad with
  |0,_=>exact al 0 (by decide)
  |1,_=>exact hm 0 (by decide)
  |2,_=>exact aw 0 (by decide)
  |3,_=>exact oi 0 (by decide)
  |4,_=>exact VW 0 (by decide)
theorem BH (df:kQ bk bkA) {H:Type}:∀{p:List (DataW H)} {i j k:Nat} {d j6 d2:DataW H},i<j→j<k→p[i]?=some d→p[j]?=some j6→p[k]?=some d2→bk d+bk j6+bk d2≤bkA p
 |a::p,0,j+1,k+1,d,j6,d2,_,Mo,h,cN,aa=>by
  simp only [List.getElem?_cons_zero,Option.some.injEq,List.getElem?_cons_succ] at h cN aa
  subst h
  have:=df.two (by omega) cN aa
  rw [df.cons];omega
 |a::p,i+1,j+1,k+1,d,j6,d2,oV,Mo,h,cN,aa=>by
  simp only [List.getElem?_cons_succ] at h cN aa
  have:=BH df (by omega) (by omega) h cN aa
  rw [df.cons];omega
 |a::p,i,0,k,d,j6,d2,oV,_,_,_,_=>by omega
 |a::p,i,j+1,0,d,j6,d2,_,Mo,_,_,_=>by omega
 |[],i,j,k,d,j6,d2,_,_,h,_,_=>by simp at h
theorem _root_.Go.bg.Rd.toB1 {P:Program} {fuel:Nat} {t:TypeId} {α:Type} {f:α→ab} (J:∀{H:Type} (d:DataW H),1≤bk d) (h:Rd P fuel t f):kR bk P fuel t f (fun _=>1):=by
 intro H enc W sp cs d ps aa aj
 obtain ⟨x,aG,aR⟩:=h H enc W sp cs d ps aa aj
 exact ⟨x,J d,aG,aR⟩
theorem VX (l:List au):(l.map dY).sum=hA l:=by
 induction l with
 |nil=>rfl
 |cons v r aO=>rw [List.map_cons,List.sum_cons,aO];rfl
theorem VY (l:List ar):(l.map fun _=>1).sum=l.length:=by
 induction l with
 |nil=>rfl
 |cons v r aO=>rw [List.map_cons,List.sum_cons,aO,List.length_cons];omega
theorem F2 (e:au):(bY e).cells.length=10:=by cases e;rfl
theorem Mp (df:kQ bk bkA) (J:∀{H:Type} (d:DataW H),1≤bk d) (n:Nat):kR bk Tryz.prog n 29 bY dY:=by
 induction n using Nat.strongRecOn with
 |ind n aO=>
  intro H enc W sp cs d ps h hw
  obtain ⟨av,p,aQ,aZ⟩:=rF df Tryz.underlying29 h hw
  obtain ⟨k,_,_,_,_,al⟩:=aZ 0 _ n8 (fun _=>0) rfl (fun _ _=>(CR (by rfl)).toB) (by decide)
  obtain ⟨v,Ml,v1,v2,_,bw⟩:=aZ 1 _ cn bI rfl (fun j _=>Mm df j) (by decide)
  obtain ⟨s,_,_,_,_,aw⟩:=aZ 2 _ cm (fun _=>0) rfl (fun _ _=>(n9 (by rfl)).toB) (by decide)
  obtain ⟨t,_,_,_,_,aq⟩:=aZ 3 _ cm (fun _=>0) rfl (fun _ _=>(n9 (by rfl)).toB) (by decide)
  obtain ⟨a,Mq,ct,a2,_,aT⟩:=aZ 4 _ (lj bY) _ rfl (fun j aD=>qx df (by rfl) (by rfl) (by decide) (by decide) F2 (fun i ad=>aO i (by omega))) (by decide)
  obtain ⟨m,Mr,m1,m2,_,hm⟩:=aZ 5 _ (lj cm) _ rfl (fun j aD=>qx df (by rfl) (by rfl) (by decide) (by decide) (fun _=>rfl) (fun i ad=>(n9 (by rfl)).toB1 J)) (by decide)
  have aj:=BH df (by decide) (by decide) v1 ct m1
  replace a2:(a.map dY).sum≤bk Mq:=a2
  replace m2:(m.map fun _=>1).sum≤bk Mr:=m2
  rw [VX] at a2
  rw [VY] at m2
  replace aj:bk Ml+bk Mq+bk Mr≤bkA p:=aj
  have aG:bI v+m.length+hA a+1≤bk d:=by omega
  refine ⟨.mk k v s t a m,by rw [dY];exact aG,by rw [F2,av];rfl,fun i ad=>?_⟩
  rw [av] at ad
  replace ad:i<10:=ad
  rw [cy]
  simp only [h4] at bw
  match i,ad with
  |0,_=>exact al 0 (by decide)
  |1,_=>exact bw 0 (by decide)
  |2,_=>exact bw 1 (by decide)
  |3,_=>exact bw 2 (by decide)
  |4,_=>exact bw 3 (by decide)
  |5,_=>exact bw 4 (by decide)
  |6,_=>exact aw 0 (by decide)
  |7,_=>exact aq 0 (by decide)
  |8,_=>exact aT 0 (by decide)
  |9,_=>exact hm 0 (by decide)
theorem y4 {α:Type} (z:α→Nat) {l:List α} {a:α} (h:a∈l):z a≤(l.map z).sum:=by
 induction l with
 |nil=>cases h
 |cons b r aO=>
  rw [List.map_cons,List.sum_cons]
  rcases List.mem_cons.1 h with rfl|h
  · omega
  · have:=aO h;omega
end
theorem F3:∀(n:Nat) (v:aW),bI v<n→hL (cn v)
 |0,_,h=>absurd h (Nat.not_lt_zero _)
 |n+1,v,h=>by
  have e:=ha v
  rw [h4,cV]
  have av:∀w∈v.l,hL (cn w):=fun w hw=>F3 n w (by have:=hH hw;omega)
  have aZ:∀p∈v.f,hL (cB p):=fun p aQ=>by
   have aa:=F3 n p.2 (by have:=hI aQ;omega)
   rw [h4,cV] at aa
   cases aa with
   |agg _ aj=>
    rw [hT,h3]
    refine .agg _ fun y aK=>?_
    rcases List.mem_cons.1 aK with rfl|aK
    · exact .str _
    · exact aj y aK
  refine .agg _ fun y aK=>?_
  simp only [List.mem_cons,List.not_mem_nil,or_false] at aK
  rcases aK with rfl|rfl|rfl|rfl|rfl
  · exact .int _ _ (by decide)
  · exact .int _ _ (by decide)
  · exact .str _
  · refine .slice _ (fun x an=>?_) fun x an y aK=>?_
    · obtain ⟨w,_,rfl⟩:=List.mem_map.1 an
      exact fun e=>by have:=BF w;rw [e] at this;cases this
    · obtain ⟨w,hw,rfl⟩:=List.mem_map.1 an
      have aa:=av w hw
      rw [h4,cV] at aa
      rw [h4,cV] at aK
      cases aa with
      |agg _ aj=>exact aj y aK
  · refine .slice _ (fun x an=>?_) fun x an y aK=>?_
    · obtain ⟨p,_,rfl⟩:=List.mem_map.1 an
      exact fun e=>by have:=BG p;rw [e] at this;cases this
    · obtain ⟨p,aQ,rfl⟩:=List.mem_map.1 an
      have aa:=aZ p aQ
      rw [hT,h3] at aa
      rw [hT,h3] at aK
      cases aa with
      |agg _ aj=>exact aj y aK
theorem F4 (v:aW):hL (cn v):=F3 _ v (Nat.lt_succ_self _)
theorem VZ (p:ar×aW):hL (cB p):=by
 have aa:=F4 p.2
 rw [h4,cV] at aa
 cases aa with
 |agg _ aj=>
  rw [hT,h3]
  refine .agg _ fun y aK=>?_
  rcases List.mem_cons.1 aK with rfl|aK
  · exact .str _
  · exact aj y aK
theorem V0 (l:List (ar×aW)):hL (lj cB l):=by
 refine .slice _ (fun x an=>?_) fun x an y aK=>?_
 · obtain ⟨p,_,rfl⟩:=List.mem_map.1 an
   exact fun e=>by have:=BG p;rw [e] at this;cases this
 · obtain ⟨p,aQ,rfl⟩:=List.mem_map.1 an
   have aa:=VZ p
   rw [hT,h3] at aa
   rw [hT,h3] at aK
   cases aa with
   |agg _ aj=>exact aj y aK
theorem V1 (l:List ar):hL (.slice false (l.map cm)):=by
 refine .slice _ (fun x an=>?_) fun x an y aK=>?_
 · obtain ⟨s,_,rfl⟩:=List.mem_map.1 an
   exact List.cons_ne_nil _ _
 · obtain ⟨s,_,rfl⟩:=List.mem_map.1 an
   rw [List.mem_singleton.1 (show y∈[ab.str s] from aK)];exact .str _
theorem V2 (l:List aW):hL (.slice false (l.map cn)):=by
 refine .slice _ (fun x an=>?_) fun x an y aK=>?_
 · obtain ⟨w,_,rfl⟩:=List.mem_map.1 an
   exact fun e=>by have:=BF w;rw [e] at this;cases this
 · obtain ⟨w,hw,rfl⟩:=List.mem_map.1 an
   have aa:=F4 w
   rw [h4,cV] at aa
   rw [h4,cV] at aK
   cases aa with
   |agg _ aj=>exact aj y aK
theorem Ms:∀(n:Nat) (e:au),cZ e<n→hL (bY e)
 |0,_,h=>absurd h (Nat.not_lt_zero _)
 |n+1,e,h=>by
  rw [cy,bU]
  have av:∀x∈e.a,hL (bY x):=fun x an=>Ms n x (by have:=iq an;omega)
  refine .agg _ fun y aK=>?_
  simp only [List.mem_cons,List.not_mem_nil,or_false] at aK
  rcases aK with rfl|rfl|rfl|rfl|rfl|rfl|rfl|rfl|rfl|rfl
  · exact .int _ _ (by decide)
  · exact .int _ _ (by decide)
  · exact .int _ _ (by decide)
  · exact .str _
  · exact V2 _
  · exact V0 _
  · exact .str _
  · exact .str _
  · refine .slice _ (fun x an=>?_) fun x an y aK=>?_
    · obtain ⟨w,_,rfl⟩:=List.mem_map.1 an
      exact fun q=>by have:=F2 w;rw [q] at this;cases this
    · obtain ⟨w,hw,rfl⟩:=List.mem_map.1 an
      have aa:=av w hw
      rw [cy,bU] at aa
      rw [cy,bU] at aK
      cases aa with
      |agg _ aj=>exact aj y aK
  · exact V1 _
theorem V3 (e:au):hL (bY e):=Ms _ e (Nat.lt_succ_self _)
end Go.Proofs
end
section
namespace Go.Proofs
open Go Go.bg Go.RowKit Go.WideShapes Go.ChangeShapes
set_option maxRecDepth 100000
section
variable {bk:{H:Type}→DataW H→Nat} {bkA:{H:Type}→List (DataW H)→Nat}
def re (x:eU):Nat:=1+(x.parts.map fun p=>dY p.2).sum
def wR (s:dm):Nat:=(s.ins.map fun p=>bI p.2).sum+(s.res.map re).sum+(s.outs.map fun p=>dY p.2).sum
theorem V4 (df:kQ bk bkA) (J:∀{H:Type} (d:DataW H),1≤bk d) (n:Nat):kR bk Tryz.prog n 138 dD (fun p=>bI p.2):=by
 intro H enc W sp cs d ps h hw
 obtain ⟨av,p,aQ,aZ⟩:=rF df Tryz.underlying138 h hw
 obtain ⟨s,d0,a0,b0,_,rf⟩:=aZ 0 _ cm (fun _=>0) rfl (fun j _=>(n9 (by rfl)).toB) (by decide)
 obtain ⟨v,d1,ct,hW,_,hc⟩:=aZ 1 _ cn bI rfl (fun j _=>Mm df j) (by decide)
 simp only [h4] at hc
 have aj:=df.at ct
 have aG:bI v≤bk d:=by omega
 refine ⟨(s,v),aG,av.symm,fun i ad=>?_⟩
 rw [av] at ad
 replace ad:i<6:=ad
 match i,ad with
 |0,_=>exact rf 0 (by decide)
 |1,_=>exact hc 0 (by decide)
 |2,_=>exact hc 1 (by decide)
 |3,_=>exact hc 2 (by decide)
 |4,_=>exact hc 3 (by decide)
 |5,_=>exact hc 4 (by decide)
theorem V5 (df:kQ bk bkA) (J:∀{H:Type} (d:DataW H),1≤bk d) (n:Nat):kR bk Tryz.prog n 144 cQ (fun p=>dY p.2):=by
 intro H enc W sp cs d ps h hw
 obtain ⟨av,p,aQ,aZ⟩:=rF df Tryz.underlying144 h hw
 obtain ⟨s,d0,a0,b0,_,rf⟩:=aZ 0 _ cm (fun _=>0) rfl (fun j _=>(n9 (by rfl)).toB) (by decide)
 obtain ⟨e,d1,ct,hW,_,hc⟩:=aZ 1 _ bY dY rfl (fun j _=>Mp df J j) (by decide)
 simp only [cy] at hc
 have aj:=df.at ct
 have aG:dY e≤bk d:=by omega
 refine ⟨(s,e),aG,av.symm,fun i ad=>?_⟩
 rw [av] at ad
 replace ad:i<11:=ad
 match i,ad with
 |0,_=>exact rf 0 (by decide)
 |1,_=>exact hc 0 (by decide)
 |2,_=>exact hc 1 (by decide)
 |3,_=>exact hc 2 (by decide)
 |4,_=>exact hc 3 (by decide)
 |5,_=>exact hc 4 (by decide)
 |6,_=>exact hc 5 (by decide)
 |7,_=>exact hc 6 (by decide)
 |8,_=>exact hc 7 (by decide)
 |9,_=>exact hc 8 (by decide)
 |10,_=>exact hc 9 (by decide)
theorem V6 (df:kQ bk bkA) (J:∀{H:Type} (d:DataW H),1≤bk d) (n:Nat):kR bk Tryz.prog n 145 cQ (fun p=>dY p.2):=by
 intro H enc W sp cs d ps h hw
 obtain ⟨av,p,aQ,aZ⟩:=rF df Tryz.underlying145 h hw
 obtain ⟨s,d0,a0,b0,_,rf⟩:=aZ 0 _ cm (fun _=>0) rfl (fun j _=>(n9 (by rfl)).toB) (by decide)
 obtain ⟨e,d1,ct,hW,_,hc⟩:=aZ 1 _ bY dY rfl (fun j _=>Mp df J j) (by decide)
 simp only [cy] at hc
 have aj:=df.at ct
 have aG:dY e≤bk d:=by omega
 refine ⟨(s,e),aG,av.symm,fun i ad=>?_⟩
 rw [av] at ad
 replace ad:i<11:=ad
 match i,ad with
 |0,_=>exact rf 0 (by decide)
 |1,_=>exact hc 0 (by decide)
 |2,_=>exact hc 1 (by decide)
 |3,_=>exact hc 2 (by decide)
 |4,_=>exact hc 3 (by decide)
 |5,_=>exact hc 4 (by decide)
 |6,_=>exact hc 5 (by decide)
 |7,_=>exact hc 6 (by decide)
 |8,_=>exact hc 7 (by decide)
 |9,_=>exact hc 8 (by decide)
 |10,_=>exact hc 9 (by decide)
theorem V7 (df:kQ bk bkA) (J:∀{H:Type} (d:DataW H),1≤bk d) (n:Nat):kR bk Tryz.prog n 142 dG re:=by
 intro H enc W sp cs d ps h hw
 obtain ⟨av,p,aQ,aZ⟩:=rF df Tryz.underlying142 h hw
 obtain ⟨k,d0,a0,b0,_,rf⟩:=aZ 0 _ cm (fun _=>0) rfl (fun j _=>(n9 (by rfl)).toB) (by decide)
 obtain ⟨s,d1,ct,hW,_,hc⟩:=aZ 1 _ cm (fun _=>0) rfl (fun j _=>(n9 (by rfl)).toB) (by decide)
 obtain ⟨q,d2,a2,j1,_,F5⟩:=aZ 2 _ (lj cQ) _ rfl (fun j _=>qx df (by rfl) (by rfl) (by decide) (by decide) (fun _=>rfl) (fun i ad=>V5 df J i)) (by decide)
 have aj:=BH df (by decide) (by decide) a0 ct a2
 have aR:=J d0
 replace j1:(q.map fun p=>dY p.2).sum≤bk d2:=j1
 have aG:re ⟨k,s,q⟩≤bk d:=by
  show 1+(q.map fun p=>dY p.2).sum≤_;omega
 refine ⟨⟨k,s,q⟩,aG,av.symm,fun i ad=>?_⟩
 rw [av] at ad
 replace ad:i<3:=ad
 match i,ad with
 |0,_=>exact rf 0 (by decide)
 |1,_=>exact hc 0 (by decide)
 |2,_=>exact F5 0 (by decide)
theorem V8 (df:kQ bk bkA) (J:∀{H:Type} (d:DataW H),1≤bk d) (n:Nat):kR bk Tryz.prog n 62 ey wR:=by
 intro H enc W sp cs d ps h hw
 obtain ⟨av,p,aQ,aZ⟩:=rF df Tryz.underlying62 h hw
 obtain ⟨s,d0,a0,b0,_,rf⟩:=aZ 0 _ cm (fun _=>0) rfl (fun j _=>(n9 (by rfl)).toB) (by decide)
 obtain ⟨x,d1,ct,hW,_,hc⟩:=aZ 1 _ (lj dD) _ rfl (fun j _=>qx df (by rfl) (by rfl) (by decide) (by decide) (fun _=>rfl) (fun i ad=>V4 df J i)) (by decide)
 obtain ⟨y,d2,a2,j1,_,F5⟩:=aZ 2 _ (lj dG) _ rfl (fun j _=>qx df (by rfl) (by rfl) (by decide) (by decide) (fun _=>rfl) (fun i ad=>V7 df J i)) (by decide)
 obtain ⟨z,d3,a3,ia,_,V9⟩:=aZ 3 _ (lj cQ) _ rfl (fun j _=>qx df (by rfl) (by rfl) (by decide) (by decide) (fun _=>rfl) (fun i ad=>V6 df J i)) (by decide)
 have aj:=BH df (by decide) (by decide) ct a2 a3
 replace hW:(x.map fun p=>bI p.2).sum≤bk d1:=hW
 replace j1:(y.map re).sum≤bk d2:=j1
 replace ia:(z.map fun p=>dY p.2).sum≤bk d3:=ia
 have aG:wR ⟨s,x,y,z⟩≤bk d:=by
  show (x.map fun p=>bI p.2).sum+(y.map re).sum+(z.map fun p=>dY p.2).sum≤_;omega
 refine ⟨⟨s,x,y,z⟩,aG,av.symm,fun i ad=>?_⟩
 rw [av] at ad
 replace ad:i<4:=ad
 match i,ad with
 |0,_=>exact rf 0 (by decide)
 |1,_=>exact hc 0 (by decide)
 |2,_=>exact F5 0 (by decide)
 |3,_=>exact V9 0 (by decide)
end
theorem y5 {α:Type} {f:α→Nat} {c:Nat} (h:∀x,c≤f x):∀l:List α,l.length*c≤(l.map f).sum
 |[]=>by simp
 |x::r=>by
  have:=h x;have:=y5 h r
  rw [List.map_cons,List.sum_cons,List.length_cons,Nat.add_mul];omega
theorem Mt (e:au):2≤dY e:=by cases e;rename_i v _ _ _ _;have:=ha v;simp only [dY];omega
theorem Wa {s:dm} (h:wR s≤1048576):y2 s:=by
 unfold wR at h
 have J:=y5 (f:=fun p:ar×aW=>bI p.2) (c:=1) (fun p=>by have:=ha p.2;omega) s.ins
 have aa:=y5 (f:=re) (c:=1) (fun x=>by unfold re;omega) s.res
 have aj:=y5 (f:=fun p:ar×au=>dY p.2) (c:=2) (fun p=>Mt p.2) s.outs
 refine ⟨by omega,by omega,by omega,fun p aQ=>?_,fun x an=>?_,fun p aQ=>?_⟩
 · have:=y4 (fun p:ar×aW=>bI p.2) aQ;omega
 · have J:=y4 re an
   have aj:re x=1+(x.parts.map fun p=>dY p.2).sum:=rfl
   have aG:=y5 (f:=fun p:ar×au=>dY p.2) (c:=2) (fun p=>Mt p.2) x.parts
   exact ⟨by omega,fun p aQ=>by have:=y4 (fun p:ar×au=>dY p.2) aQ;omega⟩
 · have:=y4 (fun p:ar×au=>dY p.2) aQ;omega
theorem y6 {α:Type} {f:α→ab} (fk:∀x,(f x).cells≠[]) (h:∀x,∀y∈(f x).cells,hL y) (l:List α):hL (.slice false (l.map f)):=by
 refine .slice _ (fun x an=>?_) fun x an y aK=>?_
 · obtain ⟨p,_,rfl⟩:=List.mem_map.1 an
   exact fk p
 · obtain ⟨p,_,rfl⟩:=List.mem_map.1 an
   exact h p y aK
theorem Wb (p:ar×aW):∀y∈(dD p).cells,hL y:=fun y aK=>by
 have aa:=F4 p.2
 rw [h4] at aa
 rcases List.mem_cons.1 (show y∈ab.str p.1::(cV p.2).cells from aK) with rfl|aK
 · exact .str _
 · cases aa with
   |agg _ aj=>exact aj y aK
theorem Mu (p:ar×au):∀y∈(cQ p).cells,hL y:=fun y aK=>by
 have aa:=V3 p.2
 rw [cy] at aa
 rcases List.mem_cons.1 (show y∈ab.str p.1::(bU p.2).cells from aK) with rfl|aK
 · exact .str _
 · cases aa with
   |agg _ aj=>exact aj y aK
theorem Wc (x:eU):∀y∈(dG x).cells,hL y:=fun y aK=>by
 replace aK:y∈[ab.str x.kind, .str x.name, .slice false (x.parts.map cQ)]:=aK
 simp only [List.mem_cons,List.not_mem_nil,or_false] at aK
 rcases aK with rfl|rfl|rfl
 · exact .str _
 · exact .str _
 · exact y6 (f:=cQ) (fun _=>List.cons_ne_nil _ _) Mu _
theorem Wd (x:dm):∀y∈(ey x).cells,hL y:=fun y aK=>by
 replace aK:y∈[ab.str x.name, .slice false (x.ins.map dD), .slice false (x.res.map dG), .slice false (x.outs.map cQ)]:=aK
 simp only [List.mem_cons,List.not_mem_nil,or_false] at aK
 rcases aK with rfl|rfl|rfl|rfl
 · exact .str _
 · exact y6 (f:=dD) (fun _=>List.cons_ne_nil _ _) Wb _
 · exact y6 (f:=dG) (fun _=>List.cons_ne_nil _ _) Wc _
 · exact y6 (f:=cQ) (fun _=>List.cons_ne_nil _ _) Mu _
end Go.Proofs
end
