import Derived.Test.YtnahenbiipdlkaaDoorPx22
import Derived.Test.YtnahenbiipdlkaaDoorSv4
section
namespace Go.Proofs
open Go Go.bb Go.b4
set_option maxRecDepth 100000
theorem G0 {l:List Tok} {n a:Int} {aZ:Nat} {xs:List df} (aM:0<aZ) (h:a<l.length):iM l n aZ a xs=if (xs.length:Int)=8 then .bad 2 (cJ l n a) else (lB l n a).bind fun s a=>iM l n (aZ- 1) a (xs++[s]):=by
 obtain ⟨k,rfl⟩:∃k,aZ=k+1:=⟨aZ- 1,by omega⟩
 rw [iM,if_pos h];rfl
theorem Qv {l:List Tok} {n a:Int} {aZ:Nat} {xs:List df} (aM:0<aZ) (h:(l.length:Int)≤a):iM l n aZ a xs= .ok xs a:=by
 obtain ⟨k,rfl⟩:∃k,aZ=k+1:=⟨aZ- 1,by omega⟩
 rw [iM,if_neg (by omega)]
noncomputable def sU (s:al):bm (List df):=iM (dL s).1 s.length ((dL s).1.length+1) 0 []
noncomputable def dS (s:al):List df×Int×Int:=
 if (dL s).2.2=0 then (if (sU s).f=0 then ((sU s).x,0,0) else ([],(sU s).p,(sU s).f)) else ([],(dL s).2.1,(dL s).2.2)
theorem Qw {s:al} {l:List Tok} {e q:Int} {xs:List df} {b:Int} (kJ:(dL s).1=l) (an:(dL s).2.2=0) (h:e6 (iM l s.length (l.length+1) 0 []) e q (.ok xs b)) (au:e=0):dS s=(xs,0,0):=by
 subst kJ
 have I:=h.y au
 rw [dS,if_pos an]
 show (if (iM _ _ _ _ _).f=0 then ((iM _ _ _ _ _).x,0,0) else _)=_
 rw [I];rfl
theorem G1 {s:al} {l:List Tok} {e q:Int} {R:bm (List df)} (kJ:(dL s).1=l) (an:(dL s).2.2=0) (h:e6 (iM l s.length (l.length+1) 0 []) e q R) (au:e≠0):dS s=([],q,e):=by
 subst kJ
 obtain ⟨I,J⟩:=h.z au
 rw [dS,if_pos an]
 show (if (iM _ _ _ _ _).f=0 then _ else ([],(iM _ _ _ _ _).p,(iM _ _ _ _ _).f))=_
 rw [if_neg (by rw [I];exact au),I,J]
theorem Qx {s:al} (an:(dL s).2.2≠0):dS s=([],(dL s).2.1,(dL s).2.2):=by rw [dS,if_neg an]
set_option maxHeartbeats 4000000 in
theorem Qy (s:al) (l:List Tok) (aj:s.length≤16777216) (kJ:(dL s).1=l) (m:ae) (K:aa→ae→Prop) (aC:ch m) (ad:K (.tuple [ld ew (dS s).1, .int .i64 (dS s).2.1, .err 72 (dS s).2.2]) m):bp Tryd.prog 24 [.str s] m K:=by
 refine bp.pl ?_
 have av:l.length≤5000:=by rw [←kJ];have:=Ov s;omega
 have Tj:=Ot s
 have hw:nz l:=by rw [←kJ];exact Pg s
 refine enter (c:=dF [] [] [6] [11999] [5,11] []) (vs:=[.aI (.str s)]) (L:=[]) (m:=m) true cw Tryd.mixed Tryd.func24 rfl (k:=1) (by show du [11999] _ _ _=true;decide+kernel) rfl (Good.nil m) ?_
 refine dV (fun _=>fun m K ad=>Oo s aj m K (by rw [kJ];exact ad)) rfl ?_
 refine aU ?_
 refine ax (fun I=>?_) (fun I=>?_)
 · refine M1 72 (a:=0) (j:=3) rfl rfl ?_
   refine MH ?_
   refine aU ?_
   refine dE (σ:=(List df)×Int×Int×Int) [] [8,9] 1 (fun ⟨xs,a2,az,bo⟩=>([(8, .loc 0 0),(9, .own (xs.map ew))],[bg l (s.length:Int) a2 az bo],m)) (fun ⟨xs,a2,az,bo⟩=>0≤a2∧a2≤l.length∧0≤az∧xs.length≤8∧∃aZ:Nat,(az=0→l.length- a2<aZ)∧e6 (iM l s.length (l.length+1) 0 []) az bo (iM l s.length aZ a2 xs)) (fun ⟨xs,a2,az,bo⟩=>if az=0 then l.length- a2.toNat+1 else 0) ([],0,0,0) ⟨rfl,rfl⟩ ?_ ?_
   · try dsimp only
     exact ⟨by omega,by omega,by omega,by simp,l.length+1,fun _=>by omega,⟨fun _=>rfl,fun h=>absurd rfl h⟩⟩
   rintro ⟨xs,a2,az,bo⟩ aW
   dsimp only at aW
   obtain ⟨i1,i2,i3,i4,aZ,i8,i9⟩:=aW
   refine aU ?_
   refine dc [8,9] 41 ((az==0)&&(decide (a2<(l.length:Int)))) ?_ ?_
   · repeat' first
      |exact ⟨⟨_,rfl,by grind [bT.val]⟩,rfl⟩
      |refine ax (fun _=>?_) (fun _=>?_)
      |refine cl ?_
   refine ax (fun J=>?_) (fun J=>?_)
   · replace J:(az=0)∧(a2<(l.length:Int)):=⟨(eq_of_beq (fC J)),(of_decide_eq_true (gS J))⟩
     obtain ⟨cf,dQ⟩:=J
     refine aU ?_
     refine cl ?_
     refine ax (fun ak=>?_) (fun ak=>?_)
     · refine cc 72 [0] (σ:=Int×Int) (fun ⟨bt,bP⟩=>(az=0→bt=2∧bP=cJ l (s.length:Int) a2)∧(az≠0→bt=az∧bP=bo)∧0<bt) (fun ⟨bt,bP⟩=> .cM []) (fun ⟨bt,bP⟩=>[bg l (s.length:Int) a2 bt bP]) rfl (fun _=>rfl) (fun bs aq gd an K ad=>oe l (s.length:Int) a2 az bo 2 (bs.getD 0 0) (by decide) av (by omega) (by omega) (by omega) aq gd K (fun z=>ad (2,cJ l (s.length:Int) a2) ⟨fun _=>⟨rfl,rfl⟩,fun y=>absurd z y,by decide⟩) (fun z=>ad (az,bo) ⟨fun y=>absurd y z,fun _=>⟨rfl,rfl⟩,by omega⟩)) ?_
       rintro ⟨bt,bP⟩ bA
       dsimp only at bA
       obtain ⟨sC,p4,u0⟩:=bA
       refine aU ?_
       refine ax (fun aH=>?_) (fun aH=>?_)
       · refine b7 rfl fun _=>?_
         show K (.tuple [.slice false (xs.map ew), .int .i64 0, .err 72 0]) m
         exact absurd aH (by omega)
       refine kR cw Tryd.mixed (σ:=Unit) (.f 0 (.f 1 (.f 2 (.f 4 (.f 5 (.f 6 (.o 3 (.o 7 (.s 8 (.s 9 (.s 10 .d))) (.o 8 (.o 7 (.s 9 (.s 10 .d)) (.o 9 (.s 7 (.s 10 .d)) .z)) .z)) (.o 7 (.o 3 (.s 8 (.s 9 (.s 10 .d))) (.o 8 (.s 3 (.s 9 (.s 10 .d))) .z)) (.o 8 (.o 3 (.o 7 (.s 9 (.s 10 .d)) (.o 9 (.s 7 (.s 10 .d)) .z)) (.o 7 (.s 3 (.s 9 (.s 10 .d))) .z)) .z))))))))) [] [2,3,4] 1 (fun _=>([(2, .own []),(3,aK bP),(4, .aI (.err 72 bt))],[bg l (s.length:Int) a2 bt bP],m)) (fun _=>True) (by decide+kernel) ?_ ?_
       · rintro _ dZ
         try dsimp only at dZ
         refine b7 rfl fun _=>?_
         show K (.tuple [.slice false [], .int .i64 bP, .err 72 bt]) m
         have aw:=G1 kJ I (e6.fail (R:= .bad 0 0) (i9.to fun _=>(G0 (by have:=i8 cf;omega) dQ).trans (if_pos ak)) sC p4 u0) (by omega)
         rw [aw] at ad
         exact ad
       repeat' first
        |refine ⟨(),⟨rfl,rfl⟩,trivial⟩
        |refine ⟨?_,?_,?_,trivial⟩
        |refine ⟨?_,?_,trivial⟩
     refine cc 72 [0] (σ:=df×Int×Int×Int) (fun ⟨gW,ee,cT,c7⟩=>bj l (lB l (s.length:Int) a2) gW a2 az bo ee cT c7) (fun ⟨gW,ee,cT,c7⟩=> .agg [aR gW.name,aX (gW.ins.map fq),aX (gW.res.map fh),aX (gW.outs.map dO)]) (fun ⟨gW,ee,cT,c7⟩=>[bg l (s.length:Int) ee cT c7]) rfl (fun _=>rfl) (fun bs aq gd an K ad=>Qf l (s.length:Int) a2 az bo (bs.getD 0 0) av (by omega) (by omega) (by omega) hw cf aq gd K (ch.up an aC) (fun eJ bO bF bG aL=>ad (eJ,bO,bF,bG) aL)) ?_
     rintro ⟨gW,ee,cT,c7⟩ cH
     dsimp only at cH
     have uY:=cH.bh
     have jt:=cH.ab
     have uZ:=cH.bW
     refine ap ew xs ([gW]:List df) rfl rfl (fun _=>⟨rfl,rfl⟩) (by (simp only [List.length_append,List.length_cons,List.length_nil];omega)) ?_
     refine ⟨(xs++([gW]:List df),ee,cT,c7),⟨rfl,rfl⟩,?_,?_⟩
     · try dsimp only
       have a8:=cH.gt
       simp only [List.length_append,List.length_cons,List.length_nil]
       exact ⟨by omega,by omega,by omega,by omega,aZ- 1,fun z=>by have:=a8 z;have:=i8 cf;omega,(i9.to fun _=>(G0 (by have:=i8 cf;omega) dQ).trans (if_neg ak)).step cH⟩
     try dsimp only
     rw [if_pos cf]
     have a8:=cH.gt
     split<;>omega
   replace J:(az≠0)∨((l.length:Int)≤a2):=((gT J).imp (fun q=>(ne_of_beq_false q)) (fun q=>(Int.not_lt.1 (of_decide_eq_false q))))
   refine aU ?_
   refine ax (fun aQ=>?_) (fun aQ=>?_)
   · refine b7 rfl fun _=>?_
     show K (.tuple [.slice false (xs.map ew), .int .i64 0, .err 72 0]) m
     have aw:=Qw kJ I (i9.to fun z=>Qv (by have:=i8 z;omega) (J.resolve_left fun c=>c z)) aQ
     rw [aw] at ad
     exact ad
   refine kR cw Tryd.mixed (σ:=Unit) (.f 0 (.f 1 (.f 2 (.f 4 (.f 5 (.f 6 (.o 3 (.o 7 (.s 8 (.s 9 (.s 10 .d))) (.o 8 (.o 7 (.s 9 (.s 10 .d)) (.o 9 (.s 7 (.s 10 .d)) .z)) .z)) (.o 7 (.o 3 (.s 8 (.s 9 (.s 10 .d))) (.o 8 (.s 3 (.s 9 (.s 10 .d))) .z)) (.o 8 (.o 3 (.o 7 (.s 9 (.s 10 .d)) (.o 9 (.s 7 (.s 10 .d)) .z)) (.o 7 (.s 3 (.s 9 (.s 10 .d))) .z)) .z))))))))) [] [2,3,4] 1 (fun _=>([(2, .own []),(3,aK bo),(4, .aI (.err 72 az))],[bg l (s.length:Int) a2 az bo],m)) (fun _=>True) (by decide+kernel) ?_ ?_
   · rintro _ dZ
     try dsimp only at dZ
     refine b7 rfl fun _=>?_
     show K (.tuple [.slice false [], .int .i64 bo, .err 72 az]) m
     have aw:=G1 kJ I i9 aQ
     rw [aw] at ad
     exact ad
   repeat' first
    |refine ⟨(),⟨rfl,rfl⟩,trivial⟩
    |refine ⟨?_,?_,?_,trivial⟩
    |refine ⟨?_,?_,trivial⟩
 refine b7 rfl fun _=>?_
 show K (.tuple [.slice false [], .int .i64 ((dL s).2.1), .err 72 ((dL s).2.2)]) m
 rw [Qx I] at ad
 exact ad
theorem sV (s:al) (aj:s.length≤16777216) (m:ae) (aC:ch m) (K:aa→ae→Prop) (ad:K (.tuple [ld ew (dS s).1, .int .i64 (dS s).2.1, .err 72 (dS s).2.2]) m):bp Tryd.prog 24 [.str s] m K:=Qy s _ aj rfl m K aC ad
end Go.Proofs
end
section
namespace Go.Proofs
open Go Go.bb Go.b4
set_option maxRecDepth 100000
structure Tk (s:df):Prop where
 v:∀p∈s.ins,dq p.2≤1000000000000
 r:∀x∈s.res,∀p∈x.parts,hk p.2≤1000000000
 o:∀p∈s.outs,hk p.2≤1000000000
end Go.Proofs
end
section
namespace Go.Proofs
open Go Go.bb Go.b4
set_option maxRecDepth 100000
theorem vg (v:a6):gm v v=true:=pZ rfl
set_option maxHeartbeats 4000000 in
theorem Qz (s:df) (aB:∀x∈s.res,x.parts.length≤1000000) (m:ae) (K:aa→ae→Prop) (ad:K (.bool true) m):bp Tryd.prog 48 [ew s,ew s] m K:=by
 refine enter (c:=dF [] [0] [1,7,14,20,26] [] [] []) (vs:=[.aI (ew s), .aI (ew s)]) (L:=[]) (m:=m) false cw Tryd.mixed Tryd.func48 rfl (k:=2) (by show du [] _ _ _=true;decide+kernel) rfl (Good.nil m) ?_
 refine ⟨fun b2=>?_⟩
 have rf:s.name.length≤140737488355328:=(b2 0 0 (Nat.le_of_ble_eq_true rfl))
 have PW:s.ins.length≤140737488355328:=dT (b2 0 1 (Nat.le_of_ble_eq_true rfl))
 have sq:s.res.length≤140737488355328:=dT (b2 0 2 (Nat.le_of_ble_eq_true rfl))
 have ob:s.outs.length≤140737488355328:=dT (b2 0 3 (Nat.le_of_ble_eq_true rfl))
 refine aU ?_
 refine dc [2,3] 45 ((((!(s.name==s.name))||(!((s.ins.length:Int)==(s.ins.length:Int))))||(!((s.res.length:Int)==(s.res.length:Int))))||(!((s.outs.length:Int)==(s.outs.length:Int)))) ?_ ?_
 · repeat' first
    |exact ⟨⟨_,rfl,by grind [bT.val]⟩,rfl⟩
    |refine ax (fun _=>?_) (fun _=>?_)
    |refine cl ?_
 refine ax (fun I=>?_) (fun I=>?_)
 · replace I:(((s.name≠s.name)∨((s.ins.length:Int)≠(s.ins.length:Int)))∨((s.res.length:Int)≠(s.res.length:Int)))∨((s.outs.length:Int)≠(s.outs.length:Int)):=((dD I).imp (fun q=>((dD q).imp (fun q=>((dD q).imp (fun q=>(ne_of_beq_false (dt q))) (fun q=>(ne_of_beq_false (dt q))))) (fun q=>(ne_of_beq_false (dt q))))) (fun q=>(ne_of_beq_false (dt q))))
   exact absurd I (by simp [vg,u9])
 replace I:(((s.name=s.name)∧((s.ins.length:Int)=(s.ins.length:Int)))∧((s.res.length:Int)=(s.res.length:Int)))∧((s.outs.length:Int)=(s.outs.length:Int)):=⟨⟨⟨(eq_of_beq (dy (b8 (b8 (b8 I))))),(eq_of_beq (dy (dC (b8 (b8 I)))))⟩,(eq_of_beq (dy (dC (b8 I))))⟩,(eq_of_beq (dy (dC I)))⟩
 refine aU ?_
 refine dE (σ:=Int) [] [2,3,5] 2 (fun i=>([(2, .loc 0 0),(3, .loc 1 0),(5,aK i)],[.cells [aR s.name,aX (s.ins.map fq),aX (s.res.map fh),aX (s.outs.map dO)], .cells [aR s.name,aX (s.ins.map fq),aX (s.res.map fh),aX (s.outs.map dO)]],m)) (fun i=>0≤i∧i≤s.ins.length) (fun i=>s.ins.length- i.toNat) (0) ⟨rfl,rfl⟩ ?_ ?_
 · try dsimp only
   first|omega|(refine ⟨?_,?_⟩<;>first|omega|simp)|simp
 rintro i aW
 refine aU ?_
 refine cl ?_
 refine ax (fun J=>?_) (fun J=>?_)
 · refine aU ?_
   refine eF (by omega) ?_
   refine eF (by omega) ?_
   refine h9 (fun _=>Fp ((U s.ins i).2) ((U s.ins i).2)) ?_
   refine dc [2,3,5] 82 ((!(((U s.ins i).1)==((U s.ins i).1)))||(!(gm ((U s.ins i).2) ((U s.ins i).2)))) ?_ ?_
   · repeat' first
      |exact ⟨⟨_,rfl,by grind [bT.val]⟩,rfl⟩
      |refine ax (fun _=>?_) (fun _=>?_)
      |refine eF (by omega) ?_
   refine ax (fun ak=>?_) (fun ak=>?_)
   · replace ak:((U s.ins i).1≠(U s.ins i).1)∨(gm ((U s.ins i).2) ((U s.ins i).2)=false):=((dD ak).imp (fun q=>(ne_of_beq_false (dt q))) (fun q=>(dt q)))
     exact absurd ak (by simp [vg,u9])
   replace ak:((U s.ins i).1=(U s.ins i).1)∧(gm ((U s.ins i).2) ((U s.ins i).2)=true):=⟨(eq_of_beq (dy (b8 ak))),(dy (dC ak))⟩
   refine ax (by omega) ?_
   refine ⟨(i+1),⟨rfl,rfl⟩,?_,?_⟩
   · try dsimp only
     (first|omega|(simp_all;done)|(simp_all;omega))
   try dsimp only
   omega
 refine aU ?_
 refine dE (σ:=Int) [] [2,3,7] 2 (fun i2=>([(2, .loc 0 0),(3, .loc 1 0),(7,aK i2)],[.cells [aR s.name,aX (s.ins.map fq),aX (s.res.map fh),aX (s.outs.map dO)], .cells [aR s.name,aX (s.ins.map fq),aX (s.res.map fh),aX (s.outs.map dO)]],m)) (fun i2=>0≤i2∧i2≤s.res.length) (fun i2=>s.res.length- i2.toNat) (0) ⟨rfl,rfl⟩ ?_ ?_
 · try dsimp only
   first|omega|(refine ⟨?_,?_⟩<;>first|omega|simp)|simp
 rintro i2 cR
 refine aU ?_
 refine cl ?_
 refine ax (fun aH=>?_) (fun aH=>?_)
 · have qs:=aB _ (cy cR.1 aH)
   refine aU ?_
   refine eF (by omega) ?_
   refine eF (by omega) ?_
   refine aU ?_
   refine dc [2,3,7,8,9] 120 (((!(((U s.res i2).kind)==((U s.res i2).kind)))||(!(((U s.res i2).name)==((U s.res i2).name))))||(!((((U s.res i2).parts).length:Int)==(((U s.res i2).parts).length:Int)))) ?_ ?_
   · repeat' first
      |exact ⟨⟨_,rfl,by grind [bT.val]⟩,rfl⟩
      |refine ax (fun _=>?_) (fun _=>?_)
      |refine cl ?_
   refine ax (fun aQ=>?_) (fun aQ=>?_)
   · replace aQ:(((U s.res i2).kind≠(U s.res i2).kind)∨((U s.res i2).name≠(U s.res i2).name))∨((((U s.res i2).parts).length:Int)≠(((U s.res i2).parts).length:Int)):=((dD aQ).imp (fun q=>((dD q).imp (fun q=>(ne_of_beq_false (dt q))) (fun q=>(ne_of_beq_false (dt q))))) (fun q=>(ne_of_beq_false (dt q))))
     exact absurd aQ (by simp [vg,u9])
   replace aQ:(((U s.res i2).kind=(U s.res i2).kind)∧((U s.res i2).name=(U s.res i2).name))∧((((U s.res i2).parts).length:Int)=(((U s.res i2).parts).length:Int)):=⟨⟨(eq_of_beq (dy (b8 (b8 aQ)))),(eq_of_beq (dy (dC (b8 aQ))))⟩,(eq_of_beq (dy (dC aQ)))⟩
   refine dE (σ:=Int) [] [2,3,7,8,9,10] 4 (fun k=>([(2, .loc 0 0),(3, .loc 1 0),(7,aK i2),(8, .loc 2 0),(9, .loc 3 0),(10,aK k)],[.cells [aR s.name,aX (s.ins.map fq),aX (s.res.map fh),aX (s.outs.map dO)], .cells [aR s.name,aX (s.ins.map fq),aX (s.res.map fh),aX (s.outs.map dO)], .cells [aR ((U s.res i2).kind),aR ((U s.res i2).name),aX (((U s.res i2).parts).map dO)], .cells [aR ((U s.res i2).kind),aR ((U s.res i2).name),aX (((U s.res i2).parts).map dO)]],m)) (fun k=>0≤k∧k≤(U s.res i2).parts.length) (fun k=>(U s.res i2).parts.length- k.toNat) (0) ⟨rfl,rfl⟩ ?_ ?_
   · try dsimp only
     first|omega|(refine ⟨?_,?_⟩<;>first|omega|simp)|simp
   rintro k il
   refine aU ?_
   refine cl ?_
   refine ax (fun bw=>?_) (fun bw=>?_)
   · refine aU ?_
     refine eF (by omega) ?_
     refine eF (by omega) ?_
     refine h9 (fun _=>GK ((U ((U s.res i2).parts) k).2) ((U ((U s.res i2).parts) k).2)) ?_
     refine dc [2,3,7,8,9,10] 157 ((!(((U ((U s.res i2).parts) k).1)==((U ((U s.res i2).parts) k).1)))||(!(j6 ((U ((U s.res i2).parts) k).2) ((U ((U s.res i2).parts) k).2)))) ?_ ?_
     · repeat' first
        |exact ⟨⟨_,rfl,by grind [bT.val]⟩,rfl⟩
        |refine ax (fun _=>?_) (fun _=>?_)
        |refine eF (by omega) ?_
     refine ax (fun db=>?_) (fun db=>?_)
     · replace db:((U ((U s.res i2).parts) k).1≠(U ((U s.res i2).parts) k).1)∨(j6 ((U ((U s.res i2).parts) k).2) ((U ((U s.res i2).parts) k).2)=false):=((dD db).imp (fun q=>(ne_of_beq_false (dt q))) (fun q=>(dt q)))
       exact absurd db (by simp [vg,u9])
     replace db:((U ((U s.res i2).parts) k).1=(U ((U s.res i2).parts) k).1)∧(j6 ((U ((U s.res i2).parts) k).2) ((U ((U s.res i2).parts) k).2)=true):=⟨(eq_of_beq (dy (b8 db))),(dy (dC db))⟩
     refine ax (by omega) ?_
     refine ⟨(k+1),⟨rfl,rfl⟩,?_,?_⟩
     · try dsimp only
       (first|omega|(simp_all;done)|(simp_all;omega))
     try dsimp only
     omega
   refine ax (by omega) ?_
   refine ⟨(i2+1),⟨rfl,rfl⟩,?_,?_⟩
   · try dsimp only
     (first|omega|(simp_all;done)|(simp_all;omega))
   try dsimp only
   omega
 refine aU ?_
 refine dE (σ:=Int) [] [2,3,12] 2 (fun i3=>([(2, .loc 0 0),(3, .loc 1 0),(12,aK i3)],[.cells [aR s.name,aX (s.ins.map fq),aX (s.res.map fh),aX (s.outs.map dO)], .cells [aR s.name,aX (s.ins.map fq),aX (s.res.map fh),aX (s.outs.map dO)]],m)) (fun i3=>0≤i3∧i3≤s.outs.length) (fun i3=>s.outs.length- i3.toNat) (0) ⟨rfl,rfl⟩ ?_ ?_
 · try dsimp only
   first|omega|(refine ⟨?_,?_⟩<;>first|omega|simp)|simp
 rintro i3 il
 refine aU ?_
 refine cl ?_
 refine ax (fun cA=>?_) (fun cA=>?_)
 · refine aU ?_
   refine eF (by omega) ?_
   refine eF (by omega) ?_
   refine h9 (fun _=>GK ((U s.outs i3).2) ((U s.outs i3).2)) ?_
   refine dc [2,3,12] 194 ((!(((U s.outs i3).1)==((U s.outs i3).1)))||(!(j6 ((U s.outs i3).2) ((U s.outs i3).2)))) ?_ ?_
   · repeat' first
      |exact ⟨⟨_,rfl,by grind [bT.val]⟩,rfl⟩
      |refine ax (fun _=>?_) (fun _=>?_)
      |refine eF (by omega) ?_
   refine ax (fun dx=>?_) (fun dx=>?_)
   · replace dx:((U s.outs i3).1≠(U s.outs i3).1)∨(j6 ((U s.outs i3).2) ((U s.outs i3).2)=false):=((dD dx).imp (fun q=>(ne_of_beq_false (dt q))) (fun q=>(dt q)))
     exact absurd dx (by simp [vg,u9])
   replace dx:((U s.outs i3).1=(U s.outs i3).1)∧(j6 ((U s.outs i3).2) ((U s.outs i3).2)=true):=⟨(eq_of_beq (dy (b8 dx))),(dy (dC dx))⟩
   refine ax (by omega) ?_
   refine ⟨(i3+1),⟨rfl,rfl⟩,?_,?_⟩
   · try dsimp only
     (first|omega|(simp_all;done)|(simp_all;omega))
   try dsimp only
   omega
 exact b7 rfl fun _=>ad
set_option maxHeartbeats 4000000 in
theorem BB (l:List df) (aB:∀s∈l,∀x∈s.res,x.parts.length≤1000000) (m:ae) (K:aa→ae→Prop) (ad:K (.bool true) m):bp Tryd.prog 27 [.slice false (l.map ew), .slice false (l.map ew)] m K:=by
 refine enter (c:=dF [] [0] [] [] [] []) (vs:=[.aI (.slice false (l.map ew)), .aI (.slice false (l.map ew))]) (L:=[]) (m:=m) false cw Tryd.mixed Tryd.func27 rfl (k:=2) (by show du [] _ _ _=true;decide+kernel) rfl (Good.nil m) ?_
 refine ⟨fun b2=>?_⟩
 have rf:l.length≤140737488355328:=dT (o:=false) (b2 0).1
 refine aU ?_
 refine cl ?_
 refine cl ?_
 refine ax (fun I=>?_) (fun I=>?_)
 · refine aU ?_
   refine dE (σ:=Int) [] [0,1,5] 0 (fun i=>([(0,aX (l.map ew)),(1,aX (l.map ew)),(5,aK i)],[],m)) (fun i=>0≤i∧i≤l.length) (fun i=>l.length- i.toNat) (0) ⟨rfl,rfl⟩ ?_ ?_
   · try dsimp only
     first|omega|(refine ⟨?_,?_⟩<;>first|omega|simp)|simp
   rintro i aW
   refine aU ?_
   refine cl ?_
   refine ax (fun J=>?_) (fun J=>?_)
   · refine aU ?_
     refine eF (by omega) ?_
     refine eF (by omega) ?_
     refine h9 (fun _=>Qz (U l i) (aB _ (cy aW.1 (by assumption)))) ?_
     refine ax (fun ak=>?_) (fun ak=>?_)
     · refine ax (by omega) ?_
       refine ⟨(i+1),⟨rfl,rfl⟩,?_,?_⟩
       · try dsimp only
         (first|omega|(simp_all;done)|(simp_all;omega))
       try dsimp only
       omega
     cases ak
   exact b7 rfl fun _=>ad
 exact absurd rfl I
end Go.Proofs
end
section
namespace Go.Proofs
open Go Go.bb Go.b4
set_option maxRecDepth 100000
set_option maxHeartbeats 2000000 in
set_option maxRecDepth 100000 in
theorem Tryd.QA (b:Nat) (p:Value) (a:Option Addr) (n c:Nat) (w:World) (ag:w.heap[b]?=some (.cells #[p, .slice a n c] 77 (0,0))):
 Calls Tryd.prog 47 #[.pointer (some ⟨b,0,none⟩)] w fun e w'=>e= .returned (.int .i64 n)∧w'=w:=by
 have h7:w.cell? ⟨b,1,none⟩=some (.slice a n c):=by rw [Lib.cell_of_heap ag];rfl
 go_enter Tryd.func47,Tryd.ntmps47
 go_wp2
 go_ret
 exact ⟨rfl,rfl⟩
theorem QB (b:Nat) (l:al) (h:l.length≤140737488355328) (m:ae) (K:aa→ae→Prop) (ad:K (.int .i64 l.length) (m.a1 [(b, .bx 77 5 (l.map bk))])):
 bp Tryd.prog 47 [.ptr ⟨b,0,none⟩] (m.a1 [(b, .bx 77 5 (l.map bk))]) K:=
 M3 ⟨_,Tryd.func47,rfl,by kernel_rfl⟩ Tryd.QA (AD m b _) h ad
end Go.Proofs
end
section
namespace Go.Proofs
open Go Go.bb Go.b4
set_option maxRecDepth 100000
def eV {α:Type} (f:α→al):List α→al
 |[]=>[]
 |x::r=>f x++eV f r
def hP:List (al×ar)→Bool→al
 |[],_=>[]
 |p::r,b=>(if b=true then [] else [44])++([32]++p.1++[58,32])++ik p.2++hP r false
def pd (p:al×a6):al:=[105,110,112,117,116,32]++p.1++[32,61,32]++ib p.2++[10]
def kZ (x:e7):al:=[114,101,115,111,117,114,99,101,32]++x.kind++[32]++x.name++[32,123]++hP x.parts true++[32,125,10]
def nC (p:al×ar):al:=[111,117,116,112,117,116,32]++p.1++[32,61,32]++ik p.2++[10]
def im (s:df):al:=[115,116,97,99,107,32]++s.name++[10]++eV pd s.ins++eV kZ s.res++eV nC s.outs
theorem xz {α:Type} [Inhabited α] (f:α→al) {l:List α} {i:Int} (aA:0≤i) (ab:i<l.length):eV f (l.drop i.toNat)=f (U l i)++eV f (l.drop (i+1).toNat):=by rw [iZ aA ab,eV]
theorem xA {α:Type} (f:α→al) {l:List α} {i:Int} (ab:(l.length:Int)≤i):eV f (l.drop i.toNat)=[]:=by rw [List.drop_eq_nil_of_le (by omega),eV]
theorem xB {α:Type} {f:α→al} {c:Nat}:∀l:List α,(∀x∈l,(f x).length≤c)→(eV f l).length≤l.length*c
 |[],_=>by rw [eV];simp
 |x::r,h=>by
  have I:=h x (List.mem_cons_self ..)
  have J:=xB r fun y aE=>h y (List.mem_cons_of_mem _ aE)
  rw [eV,List.length_append,List.length_cons,Nat.add_mul];omega
theorem QC {l:List (al×ar)} {i:Int} (aA:0≤i) (ab:i<l.length) (au:i≤0):hP (l.drop i.toNat) (i==0)=([32]++(U l i).1++[58,32])++ik (U l i).2++hP (l.drop (i+1).toNat) (i+1==0):=by
 have e:(i+1==0)=false:=by simp;omega
 rw [iZ aA ab,hP,e,if_pos (by simp;omega)];rfl
theorem QD {l:List (al×ar)} {i:Int} (aA:0≤i) (ab:i<l.length) (au:0<i):hP (l.drop i.toNat) (i==0)=[44]++([32]++(U l i).1++[58,32])++ik (U l i).2++hP (l.drop (i+1).toNat) (i+1==0):=by
 have e:(i+1==0)=false:=by simp;omega
 rw [iZ aA ab,hP,e,if_neg (by simp;omega)]
theorem QE {l:List (al×ar)} {i:Int} {b:Bool} (ab:(l.length:Int)≤i):hP (l.drop i.toNat) b=[]:=by rw [List.drop_eq_nil_of_le (by omega),hP]
theorem G2 {c:Nat}:∀(l:List (al×ar)) (b:Bool),(∀p∈l,p.1.length≤12∧(ik p.2).length≤c)→(hP l b).length≤l.length*(c+16)
 |[],_,_=>by rw [hP];simp
 |p::r,b,h=>by
  have I:=h p (List.mem_cons_self ..)
  have J:=G2 r false fun y aE=>h y (List.mem_cons_of_mem _ aE)
  have ak:(if b=true then ([]:al) else [44]).length≤1:=by split<;>simp
  rw [hP,List.length_cons,Nat.add_mul]
  simp only [List.length_append,List.length_cons,List.length_nil];omega
attribute [irreducible] eV hP
theorem QF:∀{l:List (al×a6)},me l=0→∀p∈l,p.1.length≤12∧bH p.2=0:=fun h p aB=>⟨mb (xv h p aB).1,(xv h p aB).2⟩
theorem QG {l:List (al×ar)} (h:kW l=0):∀p∈l,p.1.length≤12∧dm p.2=0:=by
 have g:∀(n:Nat) (i:Int),0≤i→jI l n i=0→∀j:Int,i≤j→j<i+n→bJ (U l j).1=true:=fun n=>by
  induction n with
  |zero=>intro i _ _ j I J;omega
  |succ n aO=>
   intro i aA h j I J
   rw [jI] at h
   split at h
   · rename_i c0
     split at h
     · rcases Int.lt_or_le i j with q|q
       · exact aO (i+1) (by omega) h j (by omega) (by omega)
       · rw [show j=i by omega];exact c0.1
     · rename_i c;exact absurd h c
   · cases h
 intro p aB
 refine ⟨?_,Bu h p aB⟩
 obtain ⟨k,ai,rfl⟩:=List.getElem_of_mem aB
 have:=g l.length 0 (Int.le_refl _) h (k:Int) (by omega) (by omega)
 exact mb (by simpa [U,List.getD_eq_getElem?_getD,ai] using this)
theorem G3:∀{l:List e7},kX l=0→∀x∈l,x.kind.length≤12∧x.name.length≤12∧x.parts.length≤6∧∀p∈x.parts,p.1.length≤12∧dm p.2=0
 |[],_,p,aB=>by cases aB
 |y::r,h,x,ao=>by
  rw [kX] at h
  split at h
  · rename_i c0
    split at h
    · cases h
    · rename_i c
      split at h
      · rename_i c2
        rcases List.mem_cons.1 ao with rfl|ao
        · exact ⟨mb c0.1,mb c0.2,by omega,QG c2⟩
        · exact G3 h x ao
      · rename_i c2;exact absurd h c2
  · cases h
theorem G4:∀{l:List (al×ar)},kY l=0→∀p∈l,p.1.length≤12∧dm p.2=0
 |[],_,p,aB=>by cases aB
 |x::r,h,p,aB=>by
  rw [kY] at h
  split at h
  · rename_i c0
    split at h
    · rename_i c
      rcases List.mem_cons.1 aB with rfl|aB
      · exact ⟨mb c0,c⟩
      · exact G4 h p aB
    · rename_i c;exact absurd h c
  · cases h
structure G5 (s:df):Prop where
 nm:s.name.length≤12
 li:s.ins.length≤8
 hO:s.res.length≤8
 bh:s.outs.length≤8
 i:∀p∈s.ins,p.1.length≤12∧bH p.2=0
 r:∀x∈s.res,x.kind.length≤12∧x.name.length≤12∧x.parts.length≤6∧∀p∈x.parts,p.1.length≤12∧dm p.2=0
 o:∀p∈s.outs,p.1.length≤12∧dm p.2=0
theorem QH {s:df} (h:fW s=0):G5 s:=by
 have aj:=GP h
 unfold fW at h
 split at h
 · cases h
 · rename_i c0
   split at h
   · cases h
   · unfold p6 at h
     split at h
     · rename_i c2;exact absurd h c2
     · rename_i c2
       unfold p5 at h
       split at h
       · rename_i c3;exact absurd h c3
       · rename_i c3
         exact ⟨mb (by simpa using c0),aj.li,aj.hO,aj.bh,QF (by simpa using c2),G3 (by simpa using c3),G4 h⟩
theorem G6 {x:e7} (h:x.parts.length≤6∧∀p∈x.parts,p.1.length≤12∧dm p.2=0) (b:Bool):(hP x.parts b).length≤7200096:=by
 have:=G2 (c:=1200000) x.parts b fun p aB=>⟨(h.2 p aB).1,xq (h.2 p aB).2⟩
 have J:x.parts.length*(1200000+16)≤6*(1200000+16):=Nat.mul_le_mul_right _ h.1
 omega
theorem QI {s:df} (h:G5 s):(im s).length≤80000000:=by
 have I:=xB (f:=pd) (c:=13000) s.ins fun p aB=>by
  have:=xa (h.i p aB).2;have:=(h.i p aB).1
  simp only [pd,List.length_append,List.length_cons,List.length_nil];omega
 have J:=xB (f:=kZ) (c:=7300000) s.res fun x ao=>by
  have ak:=h.r x ao
  have:=G6 ak.2.2 true
  simp only [kZ,List.length_append,List.length_cons,List.length_nil];omega
 have ak:=xB (f:=nC) (c:=1300000) s.outs fun p aB=>by
  have:=xq (h.o p aB).2;have:=(h.o p aB).1
  simp only [nC,List.length_append,List.length_cons,List.length_nil];omega
 have g1:s.ins.length*13000≤8*13000:=Nat.mul_le_mul_right _ h.li
 have g2:s.res.length*7300000≤8*7300000:=Nat.mul_le_mul_right _ h.hO
 have g3:s.outs.length*1300000≤8*1300000:=Nat.mul_le_mul_right _ h.bh
 have:=h.nm
 simp only [im,List.length_append,List.length_cons,List.length_nil];omega
noncomputable def gL:List df→Int
 |[]=>0
 |s::r=>if fW s=0 then gL r else fW s
theorem G7 {l:List df} {i:Int} (aA:0≤i) (ab:i<l.length):gL (l.drop i.toNat)=if fW (U l i)=0 then gL (l.drop (i+1).toNat) else fW (U l i):=by rw [iZ aA ab,gL]
noncomputable def fi (l:List df):al×Int:=if 8<(l.length:Int) then ([],2) else if gL l=0 then (if 4000<((eV im l).length:Int) then ([],2) else (eV im l,0)) else ([],gL l)
set_option maxHeartbeats 4000000 in
theorem BC (l:List df) (m:ae) (K:aa→ae→Prop) (aC:ch m) (ad:K (.tuple [.str (fi l).1, .err 72 (fi l).2]) m):bp Tryd.prog 26 [.slice false (l.map ew)] m K:=by
 refine enter (c:=dF [] [0] [] [] [] []) (vs:=[.aI (.slice false (l.map ew))]) (L:=[]) (m:=m) true cw Tryd.mixed Tryd.func26 rfl (k:=1) (by show du [] _ _ _=true;decide+kernel) rfl (Good.nil m) ?_
 refine ⟨fun b2=>?_⟩
 have rf:l.length≤140737488355328:=dT (o:=false) (b2 0).1
 refine aU ?_
 refine cl ?_
 refine ax (fun I=>?_) (fun I=>?_)
 · refine b7 rfl fun _=>?_
   show K (.tuple [.str ([]), .err 72 2]) m
   have e:fi l=([],2):=by rw [fi,if_pos I]
   rw [e] at ad;exact ad
 refine E0 (eb:=5) w5.choose_spec.1 w5.choose_spec.2 rfl ?_
 refine aU ?_
 refine cl ?_
 refine dE (σ:=Int×al) [] [4,22,23,24] 1 (fun ⟨i,gv⟩=>([(4, .loc 0 0),(22,aX (l.map ew)),(23,aK (l.length:Int)),(24,aK i)],[.obj (.bx 77 5 (gv.map bk))],m)) (fun ⟨i,gv⟩=>0≤i∧i≤l.length∧(l.length:Int)≤8∧eV im l=gv++eV im (l.drop i.toNat)∧gL l=gL (l.drop i.toNat)∧(gv.length:Int)≤80000000*i) (fun ⟨i,gv⟩=>l.length- i.toNat) (0,([]:al)) ⟨rfl,rfl⟩ ?_ ?_
 · try dsimp only
   exact ⟨by omega,by omega,by omega,rfl,rfl,by simp⟩
 rintro ⟨i,gv⟩ aW
 dsimp only at aW
 obtain ⟨bZ,bo,gK,iT,BD,Tl⟩:=aW
 refine aU ?_
 refine ax (fun J=>?_) (fun J=>?_)
 · refine aU ?_
   refine eF (by omega) ?_
   refine dV (fun _=>PV (U l i)) rfl ?_
   refine aU ?_
   refine ax (fun ak=>?_) (fun ak=>?_)
   · have ps:=QH ak
     have fZ:=QI ps
     have Tm:=ps.nm
     have Tn:=ps.li
     have rj:=ps.hO
     have mm:=ps.bh
     have bU:=xz im bZ J
     refine ax (by (first|omega|(simp only [List.length_append,List.length_cons,List.length_nil];omega))) ?_
     refine ax (by (first|omega|(simp only [List.length_append,List.length_cons,List.length_nil];omega))) ?_
     refine cI [0] [.obj (.bx 77 5 ((gv++((([115,116,97,99,107,32]:List UInt8)++((U l i).name))++([10]:List UInt8))).map bk))] (.aI (.tuple [.int .i64 (((([115,116,97,99,107,32]:List UInt8)++((U l i).name))++([10]:List UInt8)).length:Int), .nilIface])) rfl (fun bs aq gd=>eB (bs.getD 0 0) gv ((([115,116,97,99,107,32]:List UInt8)++((U l i).name))++([10]:List UInt8)) (by first|omega|(simp only [List.length_append,List.length_cons,List.length_nil];omega)) aq) ?_
     refine aU ?_
     refine cl ?_
     refine dE (σ:=Int×al) [] [4,6,22,23,24,39,40,41] 2 (fun ⟨i1,cf⟩=>([(4, .loc 0 0),(6, .loc 1 0),(22,aX (l.map ew)),(23,aK (l.length:Int)),(24,aK i),(39,aX (((U l i).ins).map fq)),(40,aK (((U l i).ins).length:Int)),(41,aK i1)],[.obj (.bx 77 5 (cf.map bk)), .cells [aR ((U l i).name),aX (((U l i).ins).map fq),aX (((U l i).res).map fh),aX (((U l i).outs).map dO)]],m)) (fun ⟨i1,cf⟩=>0≤i1∧i1≤(U l i).ins.length∧gv++im (U l i)=cf++(eV pd ((U l i).ins.drop i1.toNat)++eV kZ (U l i).res++eV nC (U l i).outs)) (fun ⟨i1,cf⟩=>(U l i).ins.length- i1.toNat) (0,gv++((([115,116,97,99,107,32]:List UInt8)++((U l i).name))++([10]:List UInt8))) ⟨rfl,rfl⟩ ?_ ?_
     · try dsimp only
       exact ⟨by omega,by omega,by simp only [im,List.append_assoc];rfl⟩
     rintro ⟨i1,cf⟩ cR
     dsimp only at cR
     obtain ⟨jX,jn,ay⟩:=cR
     have Bb:=congrArg List.length ay
     simp only [List.length_append,List.length_cons,List.length_nil] at Bb
     refine aU ?_
     refine ax (fun aH=>?_) (fun aH=>?_)
     · have ao:=ps.i _ (cy jX aH)
       have G8:=ao.2
       have To:=xa G8
       have bA:=ao.1
       have ah:=xz pd jX aH
       refine aU ?_
       refine eF (by omega) ?_
       refine fQ [] [] (.aI (.tuple [.str (ib ((U ((U l i).ins) i1).2)), .err 72 0])) rfl (fun bs aq gd an=>fun K ad=>Gz ((U ((U l i).ins) i1).2) G8 aq K (ch.up an aC) ad) ?_
       refine ax (by (first|omega|(simp only [List.length_append,List.length_cons,List.length_nil];omega))) ?_
       refine ax (by (first|omega|(simp only [List.length_append,List.length_cons,List.length_nil];omega))) ?_
       refine ax (by (first|omega|(simp only [List.length_append,List.length_cons,List.length_nil];omega))) ?_
       refine ax (by (first|omega|(simp only [List.length_append,List.length_cons,List.length_nil];omega))) ?_
       refine cI [0] [.obj (.bx 77 5 ((cf++((((([105,110,112,117,116,32]:List UInt8)++((U ((U l i).ins) i1).1))++([32,61,32]:List UInt8))++(ib ((U ((U l i).ins) i1).2)))++([10]:List UInt8))).map bk))] (.aI (.tuple [.int .i64 (((((([105,110,112,117,116,32]:List UInt8)++((U ((U l i).ins) i1).1))++([32,61,32]:List UInt8))++(ib ((U ((U l i).ins) i1).2)))++([10]:List UInt8)).length:Int), .nilIface])) rfl (fun bs aq gd=>eB (bs.getD 0 0) cf ((((([105,110,112,117,116,32]:List UInt8)++((U ((U l i).ins) i1).1))++([32,61,32]:List UInt8))++(ib ((U ((U l i).ins) i1).2)))++([10]:List UInt8)) (by first|omega|(simp only [List.length_append,List.length_cons,List.length_nil];omega)) aq) ?_
       refine ax (by omega) ?_
       refine ⟨(i1+1,cf++((((([105,110,112,117,116,32]:List UInt8)++((U ((U l i).ins) i1).1))++([32,61,32]:List UInt8))++(ib ((U ((U l i).ins) i1).2)))++([10]:List UInt8))),⟨rfl,rfl⟩,?_,?_⟩
       · try dsimp only
         exact ⟨by omega,by omega,by rw [ay,ah];simp only [pd,List.append_assoc]⟩
       try dsimp only
       omega
     refine aU ?_
     refine cl ?_
     refine dE (σ:=Int×al) [] [4,6,22,23,24,61,62,63] 2 (fun ⟨i2,dQ⟩=>([(4, .loc 0 0),(6, .loc 1 0),(22,aX (l.map ew)),(23,aK (l.length:Int)),(24,aK i),(61,aX (((U l i).res).map fh)),(62,aK (((U l i).res).length:Int)),(63,aK i2)],[.obj (.bx 77 5 (dQ.map bk)), .cells [aR ((U l i).name),aX (((U l i).ins).map fq),aX (((U l i).res).map fh),aX (((U l i).outs).map dO)]],m)) (fun ⟨i2,dQ⟩=>0≤i2∧i2≤(U l i).res.length∧gv++im (U l i)=dQ++(eV kZ ((U l i).res.drop i2.toNat)++eV nC (U l i).outs)) (fun ⟨i2,dQ⟩=>(U l i).res.length- i2.toNat) (0,cf) ⟨rfl,rfl⟩ ?_ ?_
     · try dsimp only
       exact ⟨by omega,by omega,by rw [ay,xA pd (by omega)];rfl⟩
     rintro ⟨i2,dQ⟩ il
     dsimp only at il
     obtain ⟨z2,e3,az⟩:=il
     have zb:=congrArg List.length az
     simp only [List.length_append,List.length_cons,List.length_nil] at zb
     refine aU ?_
     refine ax (fun aQ=>?_) (fun aQ=>?_)
     · have ao:=ps.r _ (cy z2 aQ)
       have EP:=ao.1
       have ES:=ao.2.1
       have Tp:=ao.2.2.1
       have ah:=xz kZ z2 aQ
       have qs:=G6 ao.2.2 true
       have Cm:(kZ (U (U l i).res i2)).length≤7300000:=by simp only [kZ,List.length_append,List.length_cons,List.length_nil];omega
       refine aU ?_
       refine eF (by omega) ?_
       refine ax (by (first|omega|(simp only [List.length_append,List.length_cons,List.length_nil];omega))) ?_
       refine ax (by (first|omega|(simp only [List.length_append,List.length_cons,List.length_nil];omega))) ?_
       refine ax (by (first|omega|(simp only [List.length_append,List.length_cons,List.length_nil];omega))) ?_
       refine ax (by (first|omega|(simp only [List.length_append,List.length_cons,List.length_nil];omega))) ?_
       refine cI [0] [.obj (.bx 77 5 ((dQ++((((([114,101,115,111,117,114,99,101,32]:List UInt8)++((U ((U l i).res) i2).kind))++([32]:List UInt8))++((U ((U l i).res) i2).name))++([32,123]:List UInt8))).map bk))] (.aI (.tuple [.int .i64 (((((([114,101,115,111,117,114,99,101,32]:List UInt8)++((U ((U l i).res) i2).kind))++([32]:List UInt8))++((U ((U l i).res) i2).name))++([32,123]:List UInt8)).length:Int), .nilIface])) rfl (fun bs aq gd=>eB (bs.getD 0 0) dQ ((((([114,101,115,111,117,114,99,101,32]:List UInt8)++((U ((U l i).res) i2).kind))++([32]:List UInt8))++((U ((U l i).res) i2).name))++([32,123]:List UInt8)) (by first|omega|(simp only [List.length_append,List.length_cons,List.length_nil];omega)) aq) ?_
       refine aU ?_
       refine cl ?_
       refine dE (σ:=Int×al) [] [4,6,22,23,24,61,62,63,77,78,79] 3 (fun ⟨k,eN⟩=>([(4, .loc 0 0),(6, .loc 1 0),(22,aX (l.map ew)),(23,aK (l.length:Int)),(24,aK i),(61,aX (((U l i).res).map fh)),(62,aK (((U l i).res).length:Int)),(63,aK i2),(77,aX (((U ((U l i).res) i2).parts).map dO)),(78,aK (((U ((U l i).res) i2).parts).length:Int)),(79,aK k)],[.obj (.bx 77 5 (eN.map bk)), .cells [aR ((U l i).name),aX (((U l i).ins).map fq),aX (((U l i).res).map fh),aX (((U l i).outs).map dO)], .cells [aR ((U ((U l i).res) i2).kind),aR ((U ((U l i).res) i2).name),aX (((U ((U l i).res) i2).parts).map dO)]],m)) (fun ⟨k,eN⟩=>0≤k∧k≤(U (U l i).res i2).parts.length∧dQ++kZ (U (U l i).res i2)=eN++(hP ((U (U l i).res i2).parts.drop k.toNat) (k==0)++[32,125,10])) (fun ⟨k,eN⟩=>(U (U l i).res i2).parts.length- k.toNat) (0,dQ++((((([114,101,115,111,117,114,99,101,32]:List UInt8)++((U ((U l i).res) i2).kind))++([32]:List UInt8))++((U ((U l i).res) i2).name))++([32,123]:List UInt8))) ⟨rfl,rfl⟩ ?_ ?_
       · try dsimp only
         exact ⟨by omega,by omega,by simp only [kZ,List.append_assoc];rfl⟩
       rintro ⟨k,eN⟩ pe
       dsimp only at pe
       obtain ⟨z3,mG,cB⟩:=pe
       have QJ:=congrArg List.length cB
       simp only [List.length_append,List.length_cons,List.length_nil] at QJ
       refine aU ?_
       refine ax (fun bw=>?_) (fun bw=>?_)
       · have aE:=ao.2.2.2 _ (cy z3 bw)
         have p7:=aE.2
         have rT:=xq p7
         have QK:=aE.1
         refine aU ?_
         refine eF (by omega) ?_
         refine aU ?_
         refine ax (fun db=>?_) (fun db=>?_)
         · refine cI [0] [.obj (.bx 77 5 ((eN++([44]:List UInt8)).map bk))] (.aI (.tuple [.int .i64 (([44]:List UInt8).length:Int), .nilIface])) rfl (fun bs aq gd=>eB (bs.getD 0 0) eN ([44]:List UInt8) (by first|omega|(simp only [List.length_append,List.length_cons,List.length_nil];omega)) aq) ?_
           refine ax (by (first|omega|(simp only [List.length_append,List.length_cons,List.length_nil];omega))) ?_
           refine ax (by (first|omega|(simp only [List.length_append,List.length_cons,List.length_nil];omega))) ?_
           refine cI [0] [.obj (.bx 77 5 (((eN++([44]:List UInt8))++((([32]:List UInt8)++((U ((U ((U l i).res) i2).parts) k).1))++([58,32]:List UInt8))).map bk))] (.aI (.tuple [.int .i64 (((([32]:List UInt8)++((U ((U ((U l i).res) i2).parts) k).1))++([58,32]:List UInt8)).length:Int), .nilIface])) rfl (fun bs aq gd=>eB (bs.getD 0 0) (eN++([44]:List UInt8)) ((([32]:List UInt8)++((U ((U ((U l i).res) i2).parts) k).1))++([58,32]:List UInt8)) (by first|omega|(simp only [List.length_append,List.length_cons,List.length_nil];omega)) aq) ?_
           refine fQ [0] [.obj (.bx 77 5 ((((eN++([44]:List UInt8))++((([32]:List UInt8)++((U ((U ((U l i).res) i2).parts) k).1))++([58,32]:List UInt8)))++ik ((U ((U ((U l i).res) i2).parts) k).2)).map bk))] (.cM []) rfl (fun bs aq gd an=>xr (dN ((U ((U ((U l i).res) i2).parts) k).2)+1) ((U ((U ((U l i).res) i2).parts) k).2) ((eN++([44]:List UInt8))++((([32]:List UInt8)++((U ((U ((U l i).res) i2).parts) k).1))++([58,32]:List UInt8))) (Nat.lt_succ_self _) (sM p7).1 (by unfold ik at rT;(first|omega|(simp only [List.length_append,List.length_cons,List.length_nil];omega))) (bs.getD 0 0) aq gd (ch.up an aC)) ?_
           refine ax (by omega) ?_
           refine ⟨(k+1,((eN++([44]:List UInt8))++((([32]:List UInt8)++((U ((U ((U l i).res) i2).parts) k).1))++([58,32]:List UInt8)))++ik ((U ((U ((U l i).res) i2).parts) k).2)),⟨rfl,rfl⟩,?_,?_⟩
           · try dsimp only
             exact ⟨by omega,by omega,by rw [cB,QD z3 bw db];simp only [List.append_assoc]⟩
           try dsimp only
           omega
         refine ax (by (first|omega|(simp only [List.length_append,List.length_cons,List.length_nil];omega))) ?_
         refine ax (by (first|omega|(simp only [List.length_append,List.length_cons,List.length_nil];omega))) ?_
         refine cI [0] [.obj (.bx 77 5 ((eN++((([32]:List UInt8)++((U ((U ((U l i).res) i2).parts) k).1))++([58,32]:List UInt8))).map bk))] (.aI (.tuple [.int .i64 (((([32]:List UInt8)++((U ((U ((U l i).res) i2).parts) k).1))++([58,32]:List UInt8)).length:Int), .nilIface])) rfl (fun bs aq gd=>eB (bs.getD 0 0) eN ((([32]:List UInt8)++((U ((U ((U l i).res) i2).parts) k).1))++([58,32]:List UInt8)) (by first|omega|(simp only [List.length_append,List.length_cons,List.length_nil];omega)) aq) ?_
         refine fQ [0] [.obj (.bx 77 5 (((eN++((([32]:List UInt8)++((U ((U ((U l i).res) i2).parts) k).1))++([58,32]:List UInt8)))++ik ((U ((U ((U l i).res) i2).parts) k).2)).map bk))] (.cM []) rfl (fun bs aq gd an=>xr (dN ((U ((U ((U l i).res) i2).parts) k).2)+1) ((U ((U ((U l i).res) i2).parts) k).2) (eN++((([32]:List UInt8)++((U ((U ((U l i).res) i2).parts) k).1))++([58,32]:List UInt8))) (Nat.lt_succ_self _) (sM p7).1 (by unfold ik at rT;(first|omega|(simp only [List.length_append,List.length_cons,List.length_nil];omega))) (bs.getD 0 0) aq gd (ch.up an aC)) ?_
         refine ax (by omega) ?_
         refine ⟨(k+1,(eN++((([32]:List UInt8)++((U ((U ((U l i).res) i2).parts) k).1))++([58,32]:List UInt8)))++ik ((U ((U ((U l i).res) i2).parts) k).2)),⟨rfl,rfl⟩,?_,?_⟩
         · try dsimp only
           exact ⟨by omega,by omega,by rw [cB,QC z3 bw (by omega)];simp only [List.append_assoc]⟩
         try dsimp only
         omega
       refine cI [0] [.obj (.bx 77 5 ((eN++([32,125,10]:List UInt8)).map bk))] (.aI (.tuple [.int .i64 (([32,125,10]:List UInt8).length:Int), .nilIface])) rfl (fun bs aq gd=>eB (bs.getD 0 0) eN ([32,125,10]:List UInt8) (by first|omega|(simp only [List.length_append,List.length_cons,List.length_nil];omega)) aq) ?_
       refine ax (by omega) ?_
       refine ⟨(i2+1,eN++([32,125,10]:List UInt8)),⟨rfl,rfl⟩,?_,?_⟩
       · try dsimp only
         have qS:dQ++kZ (U (U l i).res i2)=eN++[32,125,10]:=by rw [cB,QE (by omega)];rfl
         exact ⟨by omega,by omega,by rw [az,ah,←qS];simp only [List.append_assoc]⟩
       try dsimp only
       omega
     refine cl ?_
     refine dE (σ:=Int×al) [] [4,22,23,24,99,100,101] 2 (fun ⟨i3,jW⟩=>([(4, .loc 0 0),(22,aX (l.map ew)),(23,aK (l.length:Int)),(24,aK i),(99,aX (((U l i).outs).map dO)),(100,aK (((U l i).outs).length:Int)),(101,aK i3)],[.obj (.bx 77 5 (jW.map bk)), .cells [aR ((U l i).name),aX (((U l i).ins).map fq),aX (((U l i).res).map fh),aX (((U l i).outs).map dO)]],m)) (fun ⟨i3,jW⟩=>0≤i3∧i3≤(U l i).outs.length∧gv++im (U l i)=jW++eV nC ((U l i).outs.drop i3.toNat)) (fun ⟨i3,jW⟩=>(U l i).outs.length- i3.toNat) (0,dQ) ⟨rfl,rfl⟩ ?_ ?_
     · try dsimp only
       exact ⟨by omega,by omega,by rw [az,xA kZ (by omega)];rfl⟩
     rintro ⟨i3,jW⟩ pe
     dsimp only at pe
     obtain ⟨z4,mH,fv⟩:=pe
     have QL:=congrArg List.length fv
     simp only [List.length_append,List.length_cons,List.length_nil] at QL
     refine aU ?_
     refine ax (fun cA=>?_) (fun cA=>?_)
     · have aE:=ps.o _ (cy z4 cA)
       have p7:=aE.2
       have rT:=xq p7
       have QK:=aE.1
       have ah:=xz nC z4 cA
       refine aU ?_
       refine eF (by omega) ?_
       refine ax (by (first|omega|(simp only [List.length_append,List.length_cons,List.length_nil];omega))) ?_
       refine ax (by (first|omega|(simp only [List.length_append,List.length_cons,List.length_nil];omega))) ?_
       refine cI [0] [.obj (.bx 77 5 ((jW++((([111,117,116,112,117,116,32]:List UInt8)++((U ((U l i).outs) i3).1))++([32,61,32]:List UInt8))).map bk))] (.aI (.tuple [.int .i64 (((([111,117,116,112,117,116,32]:List UInt8)++((U ((U l i).outs) i3).1))++([32,61,32]:List UInt8)).length:Int), .nilIface])) rfl (fun bs aq gd=>eB (bs.getD 0 0) jW ((([111,117,116,112,117,116,32]:List UInt8)++((U ((U l i).outs) i3).1))++([32,61,32]:List UInt8)) (by first|omega|(simp only [List.length_append,List.length_cons,List.length_nil];omega)) aq) ?_
       refine fQ [0] [.obj (.bx 77 5 (((jW++((([111,117,116,112,117,116,32]:List UInt8)++((U ((U l i).outs) i3).1))++([32,61,32]:List UInt8)))++ik ((U ((U l i).outs) i3).2)).map bk))] (.cM []) rfl (fun bs aq gd an=>xr (dN ((U ((U l i).outs) i3).2)+1) ((U ((U l i).outs) i3).2) (jW++((([111,117,116,112,117,116,32]:List UInt8)++((U ((U l i).outs) i3).1))++([32,61,32]:List UInt8))) (Nat.lt_succ_self _) (sM p7).1 (by unfold ik at rT;(first|omega|(simp only [List.length_append,List.length_cons,List.length_nil];omega))) (bs.getD 0 0) aq gd (ch.up an aC)) ?_
       refine cI [0] [.obj (.bx 77 5 ((((jW++((([111,117,116,112,117,116,32]:List UInt8)++((U ((U l i).outs) i3).1))++([32,61,32]:List UInt8)))++ik ((U ((U l i).outs) i3).2))++([10]:List UInt8)).map bk))] (.aI (.tuple [.int .i64 (([10]:List UInt8).length:Int), .nilIface])) rfl (fun bs aq gd=>eB (bs.getD 0 0) ((jW++((([111,117,116,112,117,116,32]:List UInt8)++((U ((U l i).outs) i3).1))++([32,61,32]:List UInt8)))++ik ((U ((U l i).outs) i3).2)) ([10]:List UInt8) (by first|omega|(simp only [List.length_append,List.length_cons,List.length_nil];omega)) aq) ?_
       refine ax (by omega) ?_
       refine ⟨(i3+1,((jW++((([111,117,116,112,117,116,32]:List UInt8)++((U ((U l i).outs) i3).1))++([32,61,32]:List UInt8)))++ik ((U ((U l i).outs) i3).2))++([10]:List UInt8)),⟨rfl,rfl⟩,?_,?_⟩
       · try dsimp only
         exact ⟨by omega,by omega,by rw [fv,ah];simp only [nC,List.append_assoc]⟩
       try dsimp only
       omega
     refine ax (by omega) ?_
     refine ⟨(i+1,jW),⟨rfl,rfl⟩,?_,?_⟩
     · try dsimp only
       have G9:gv++im (U l i)=jW:=by rw [fv,xA nC (by omega),List.append_nil]
       have bw:=congrArg List.length G9
       simp only [List.length_append] at bw
       exact ⟨by omega,by omega,by omega,by rw [iT,bU,←G9,List.append_assoc],by rw [BD,G7 bZ J,if_pos ak],by omega⟩
     try dsimp only
     omega
   refine b7 rfl fun _=>?_
   show K (.tuple [.str ([]), .err 72 (fW (U l i))]) m
   have q:gL l=fW (U l i):=by rw [BD,G7 bZ J,if_neg ak]
   have e:fi l=([],fW (U l i)):=by rw [fi,if_neg (by omega),if_neg (by rw [q];exact ak),q]
   rw [e] at ad;exact ad
 have hw:eV im l=gv:=by rw [iT,xA im (by omega),List.append_nil]
 have he:gL l=0:=by rw [BD,List.drop_eq_nil_of_le (by omega),gL]
 refine aU ?_
 refine cI [0] [.obj (.bx 77 5 (gv.map bk))] (aK (gv.length:Int)) rfl (fun bs aq gd=>QB (bs.getD 0 0) gv (by first|omega|(simp only [List.length_append,List.length_cons,List.length_nil];omega)) aq) ?_
 refine ax (fun dx=>?_) (fun dx=>?_)
 · refine b7 rfl fun _=>?_
   show K (.tuple [.str ([]), .err 72 2]) m
   have e:fi l=([],2):=by rw [fi,if_neg (by omega),if_pos he,hw,if_pos dx]
   rw [e] at ad;exact ad
 refine cI [0] [.cells [.aI (.aP), .aI (.aP)]] (aR gv) rfl (fun bs aq gd=>Fu (bs.getD 0 0) gv aq) ?_
 refine b7 rfl fun _=>?_
 show K (.tuple [.str gv, .err 72 0]) m
 have e:fi l=(gv,0):=by rw [fi,if_neg (by omega),if_pos he,hw,if_neg (by omega)]
 rw [e] at ad;exact ad
end Go.Proofs
end
section
namespace Go.Proofs
open Go Go.bb Go.b4
set_option maxRecDepth 100000
def rk (n:Nat):UInt8:=fR.getD n 0
def lC (c:UInt8):List UInt8:=if c.toNat=34∨c.toNat=92 then [92,c] else if c.toNat<32∨126<c.toNat then [92,120,rk (c.toNat/16),rk (c.toNat%16)] else [c]
def p8 (s:List UInt8):List UInt8:=34::s.flatMap lC++[34]
def Good (t:Tok):Prop:=
 (t.1=1∧t.2.2.length≤12∧(∀c∈t.2.2,fH c=true)∧∃c r,t.2.2=c::r∧jx c=true)∨
 (t.1=2∧t.2.2.length≤10∧(∀c∈t.2.2,dK c=true)∧(∃c r,t.2.2=c::r∧(c.toNat=48→r=[])))∨
 (t.1=3∧t.2.2.length≤40)∨
 (t.1=4∧(t.2.2=[61,61]∨∃c,t.2.2=[c]∧c∈j2))
theorem Ha {f:UInt8→Bool} {T w r:List UInt8} {a:Int} (aA:0≤a) (aC:T.drop a.toNat=w++r) (hw:∀c∈w,f c=true) (aJ:∀c q,r=c::q→f c=false):cG f T a=a+w.length:=by
 have:((T.drop a.toNat).takeWhile f).length=w.length:=by
  rw [aC]
  have:(w++r).takeWhile f=w:=by
   clear aC
   induction w with
   |nil=>
    cases r with
    |nil=>rfl
    |cons c q=>simp [aJ c q rfl]
   |cons c w aO=>simp only [List.cons_append,List.takeWhile_cons,hw c (by simp),if_true];rw [aO (fun c ah=>hw c (by simp [ah]))]
  rw [this]
 unfold cG runN
 rw [this];omega
theorem BE {T w r:List UInt8} {a:Int} (aA:0≤a) (aC:T.drop a.toNat=w++r):sub T a (a+w.length)=w:=by
 unfold sub
 rw [aC,show (a+(w.length:Int)- a).toNat=w.length by omega]
 simp
theorem p9 {T r:List UInt8} {c:UInt8} {a:Int} (aA:0≤a) (aC:T.drop a.toNat=c::r):U T a=c∧a<T.length:=by
 have bN:a.toNat<T.length:=by
  by_cases h:a.toNat<T.length
  · exact h
  · rw [List.drop_eq_nil_of_le (by omega)] at aC;cases aC
 rw [List.drop_eq_getElem_cons bN] at aC
 injection aC with I J
 exact ⟨by simp [U,List.getD_eq_getElem?_getD,bN,I],by omega⟩
theorem BF {T w r:List UInt8} {a:Int} (aA:0≤a) (aC:T.drop a.toNat=w++r):T.drop (a+w.length).toNat=r:=by
 have:(a+(w.length:Int)).toNat=a.toNat+w.length:=by omega
 rw [this,←List.drop_drop,aC];simp
theorem Hb (n:Nat) (h:n<16):Lib.indexByte fR (rk n)=n:=by
 have J:∀k:Fin 16,Lib.indexByte fR (rk k.1)=k.1:=by decide+kernel
 exact J ⟨n,h⟩
theorem QM (c:UInt8):p2 ((c.toNat/16:Nat):Int) ((c.toNat%16:Nat):Int)=c:=by
 unfold p2
 have:(16*((c.toNat/16:Nat):Int)+((c.toNat%16:Nat):Int)).toNat=c.toNat:=by omega
 rw [this];simp
theorem x5 {T:List UInt8} {i k:Nat}:(T.drop i).getD k 0=T.getD (i+k) 0:=by
 simp [List.getD_eq_getElem?_getD,List.getElem?_drop]
theorem QN {T r:List UInt8} {c:UInt8} {i:Nat} {b:List UInt8} (aC:T.drop i=lC c++r):gD T i b=gD T (i+(lC c).length) (b++[c]):=by
 have ah:=c.toNat_lt
 have hlen:i+(lC c++r).length=T.length∨(lC c++r)=[]:=by
  by_cases h:i≤T.length
  · left;rw [←aC,List.length_drop];omega
  · right;rw [←aC];exact List.drop_eq_nil_of_le (by omega)
 have a8:∀k,T.getD (i+k) 0=(lC c++r).getD k 0:=fun k=>by rw [←aC,x5]
 have ku:=a8 0
 have qa:=a8 1
 have pU:=a8 2
 have xC:=a8 3
 unfold lC at hlen ku qa pU xC ⊢
 split
 · rename_i h
   rw [if_pos h] at hlen ku qa
   simp at hlen ku qa
   rw [N9 (by omega) (by simp [ku]) ⟨by omega,by rw [show T.getD (i+1) 0=c by simpa using qa];exact h⟩,show T.getD (i+1) 0=c by simpa using qa]
   rfl
 · rename_i h
   split
   · rename_i J
     rw [if_neg h,if_pos J] at hlen ku qa pU xC
     simp at hlen ku qa pU xC
     have ay:T.getD (i+1) 0=120:=by simpa using qa
     have az:T.getD (i+2) 0=rk (c.toNat/16):=by simpa using pU
     have cB:T.getD (i+3) 0=rk (c.toNat%16):=by simpa using xC
     have sh:=Hb (c.toNat/16) (by omega)
     have uI:=Hb (c.toNat%16) (by omega)
     rw [Oa (by omega) (by simp [ku]) (by rw [ay];rintro ⟨_,h|h⟩<;>exact absurd h (by decide)) ⟨by omega,by rw [ay];rfl,by rw [az,sh];omega,by rw [cB,uI];omega⟩,az,cB,sh,uI,QM]
     rfl
   · rename_i J
     rw [if_neg h,if_neg J] at hlen ku
     simp at hlen ku
     have cD:T.getD i 0=c:=by simpa using ku
     rw [N8 (by omega) (by rw [cD];omega) (by rw [cD];exact J) (by rw [cD];omega),cD]
     rfl
theorem Hc {T r:List UInt8}:∀(s:List UInt8) (i:Nat) (b:List UInt8),T.drop i=s.flatMap lC++34::r→(b++s).length≤40→gD T i b=(0,b++s,((i+(s.flatMap lC).length+1:Nat):Int))
 |[],i,b,aC,av=>by
  have a8:T.getD i 0=34∧i<T.length:=by
   have bN:i<T.length:=by
    by_cases h:i<T.length
    · exact h
    · rw [List.drop_eq_nil_of_le (by omega)] at aC;simp at aC
   rw [List.drop_eq_getElem_cons bN] at aC
   injection aC with I J
   exact ⟨by simp [List.getD_eq_getElem?_getD,bN,I],bN⟩
  rw [N7 a8.2 (by rw [a8.1];rfl) (by simp at av;omega)]
  simp
 |c::s,i,b,aC,av=>by
  rw [List.flatMap_cons,List.append_assoc] at aC
  rw [QN aC,Hc (r:=r) s (i+(lC c).length) (b++[c]) (by rw [←List.drop_drop,aC];simp) (by simpa using av)]
  simp [List.flatMap_cons,Nat.add_assoc]
theorem QO {c:UInt8} (h:c∈j2):jx c=false∧dK c=false∧(c.toNat:Int)≠34∧(c.toNat:Int)≠35∧(c.toNat:Int)≠32∧(c.toNat:Int)≠10∧0≤Lib.indexByte j2 c:=by
 have J:∀c∈j2,jx c=false∧dK c=false∧(c.toNat:Int)≠34∧(c.toNat:Int)≠35∧(c.toNat:Int)≠32∧(c.toNat:Int)≠10∧0≤Lib.indexByte j2 c:=by decide+kernel
 exact J c h
theorem QP {c:UInt8} (h:jx c=true):dK c=false∧(c.toNat:Int)≠34∧(c.toNat:Int)≠35∧(c.toNat:Int)≠32∧(c.toNat:Int)≠10:=by
 have:=AI.1 h
 refine ⟨?_,by omega,by omega,by omega,by omega⟩
 rw [Bool.eq_false_iff];intro J;have:=uV.1 J;omega
theorem QQ {c:UInt8} (h:dK c=true):jx c=false∧(c.toNat:Int)≠34∧(c.toNat:Int)≠35∧(c.toNat:Int)≠32∧(c.toNat:Int)≠10:=by
 have:=uV.1 h
 refine ⟨?_,by omega,by omega,by omega,by omega⟩
 rw [Bool.eq_false_iff];intro J;have:=AI.1 J;omega
def xD (t:Int×al) (r:al):Prop:=(t.1=1→∀c q,r=c::q→fH c=false)∧(t.1=2→∀c q,r=c::q→dK c=false)∧(t=(4,[61])→∀c q,r=c::q→c≠61)
def mO (t:Int×al):al:=if t.1=3 then p8 t.2 else t.2
theorem QR {T r:al} {k p:Int} {w:al} {a:Int} (a8:Good (k,p,w)) (aA:0≤a) (aC:T.drop a.toNat=mO (k,w)++r) (aM:xD (k,w) r):
 a<T.length∧¬(((U T a).toNat:Int)=32∨((U T a).toNat:Int)=10)∧((U T a).toNat:Int)≠35∧eP T a=(k,w,a+(mO (k,w)).length,0):=by
 rcases a8 with ⟨I,J,ak,c,q,aH,aQ⟩|⟨I,J,ak,c,q,aH,aQ⟩|⟨I,J⟩|⟨I,J⟩
 · simp only at I J ak aH;subst I
   have aB:mO (1,w)=w:=rfl
   rw [aB] at aC
   have hw:=Ha (f:=fH) aA aC ak (aM.1 rfl)
   have aj:=BE aA aC
   subst aH
   obtain ⟨g1,g2⟩:=p9 aA aC
   have av:=QP aQ
   rw [g1]
   refine ⟨g2,by omega,by omega,?_⟩
   rw [FO (by rw [g1];exact aQ),hw,if_neg (by omega),aj,aB]
 · simp only at I J ak aH;subst I
   have aB:mO (2,w)=w:=rfl
   rw [aB] at aC
   have hw:=Ha (f:=dK) aA aC ak (aM.2.1 rfl)
   have aj:=BE aA aC
   subst aH
   obtain ⟨g1,g2⟩:=p9 aA aC
   have a7:=ak c (by simp)
   have av:=QQ a7
   rw [g1]
   refine ⟨g2,by omega,by omega,?_⟩
   rw [FP (by rw [g1,av.1];simp) (by rw [g1];exact a7),hw,g1,if_neg (by
    intro aL
    rcases aL with aL|⟨aL,ai⟩
    · omega
    · have:=aQ (by omega)
      subst this;simp at ai),aj,aB]
 · simp only at I J;subst I
   have aB:mO (3,w)=p8 w:=rfl
   rw [aB] at aC
   have Hd:T.drop a.toNat=34::(w.flatMap lC++34::r):=by rw [aC];simp [p8]
   obtain ⟨g1,g2⟩:=p9 aA Hd
   have a7:T.drop (a+1).toNat=w.flatMap lC++34::r:=by
    have:(a+1).toNat=a.toNat+1:=by omega
    rw [this,←List.drop_drop,Hd];simp
   have aS:fm T (a+1) []=(0,w,a+(p8 w).length):=by
    unfold fm
    rw [Hc w _ [] a7 (by simpa using J)]
    simp [p8];omega
   rw [g1]
   refine ⟨g2,by decide,by decide,?_⟩
   rw [FQ (by rw [g1];rfl),aS,aB]
   simp
 · simp only at I J;subst I
   have aB:mO (4,w)=w:=rfl
   rw [aB] at aC
   have aj:=BE aA aC
   rcases J with rfl|⟨c,rfl,ah⟩
   · obtain ⟨g1,g2⟩:=p9 (r:=[61]++r) aA aC
     have a7:T.drop (a+1).toNat=61::r:=BF (w:=[61]) aA aC
     obtain ⟨g3,g4⟩:=p9 (a:=a+1) (by omega) a7
     rw [g1]
     refine ⟨g2,by decide,by decide,?_⟩
     unfold eP
     rw [g1,if_neg (by decide),if_neg (by decide),if_neg (by decide),if_pos ⟨by decide,g4,by rw [g3];decide⟩,aB]
     simp
   · have xE:=QO ah
     obtain ⟨g1,g2⟩:=p9 (r:=r) aA aC
     have a7:T.drop (a+1).toNat=r:=BF (w:=[c]) aA aC
     rw [g1]
     refine ⟨g2,by omega,by omega,?_⟩
     unfold eP
     rw [g1,if_neg (by rw [xE.1];simp),if_neg (by rw [xE.2.1];simp),if_neg xE.2.2.1,if_neg (by
      rintro ⟨Tq,BG,QS⟩
      have ay:c=61:=by
       have:c.toNat=61:=by omega
       exact UInt8.toNat_inj.1 this
      subst ay
      cases r with
      |nil=>have:=congrArg List.length a7;rw [List.length_drop] at this;simp at this;omega
      |cons d q=>
       obtain ⟨g3,g4⟩:=p9 (a:=a+1) (by omega) a7
       rw [g3] at QS
       exact aM.2.2 rfl d q rfl (by have:d.toNat=61:=by omega
                                    exact UInt8.toNat_inj.1 this)),if_pos xE.2.2.2.2.2.2,aB]
     have:sub T a (a+1)=[c]:=aj
     rw [this];simp
def po (t:Tok):Int×al:=(t.1,t.2.2)
def fj (F:al→Prop) (w:al) (bd:List (Int×al)):Prop:=∀(T r:al) (a:Int) (n:Nat) (out:List Tok),0≤a→T.drop a.toNat=w++r→a≤T.length→F r→(T.length:Int)- a<n→
 ∃(pT:Nat) (l:List Tok),l.map po=bd∧(T.length:Int)- (a+w.length)<pT∧a+w.length≤T.length∧fB n T a out=fB pT T (a+w.length) (out++l)
def jf (_:al):Prop:=True
def pf (r:al):Prop:=∀c q,r=c::q→fH c=false
theorem fj.app {He BH:al→Prop} {cf dQ:al} {t1 t2:List (Int×al)} (I:fj He cf t1) (J:fj BH dQ t2) (dB:∀r,BH r→He (dQ++r)):fj BH (cf++dQ) (t1++t2):=by
 intro T r a n out aA aC aN aw aJ
 rw [List.append_assoc] at aC
 obtain ⟨jn,h3,ay,bZ,cd,jX⟩:=I T (dQ++r) a n out aA aC aN (dB r aw) aJ
 obtain ⟨e3,jo,az,bo,a2,z2⟩:=J T r (a+cf.length) jn (out++h3) (by omega) (BF aA aC) cd aw bZ
 refine ⟨e3,h3++jo,by rw [List.map_append,ay,az],?_,?_,?_⟩
 · rw [List.length_append];omega
 · rw [List.length_append];omega
 · rw [jX,z2,List.append_assoc,List.length_append]
   congr 1;omega
theorem fj.kO {F G:al→Prop} {w:al} {bd:List (Int×al)} (h:fj F w bd) (rG:∀r,G r→F r):fj G w bd:=fun T r a n out aA aC aN aw aJ=>h T r a n out aA aC aN (rG r aw) aJ
theorem xF {F:al→Prop}:fj F [] []:=fun T r a n out aA aC aN aw aJ=>⟨n,[],rfl,by simpa using aJ,by simpa using aN,by simp⟩
theorem k0 {c:UInt8} (ah:(c.toNat:Int)=32∨(c.toNat:Int)=10):fj jf [c] []:=by
 intro T r a n out aA aC aN aw aJ
 obtain ⟨g1,g2⟩:=p9 aA aC
 obtain ⟨n,rfl⟩:∃k,n=k+1:=⟨n- 1,by omega⟩
 exact ⟨n,[],rfl,by simp;omega,by simp;omega,by rw [AL g2 (by rw [g1];exact ah)];simp⟩
theorem QT {k p:Int} {w:al} (a8:Good (k,p,w)):1≤(mO (k,w)).length:=by
 rcases a8 with ⟨I,_,_,c,q,aH,_⟩|⟨I,_,_,c,q,aH,_⟩|⟨I,_⟩|⟨I,aH⟩<;>simp only at I<;>subst I
 · simp only at aH;subst aH;simp [mO]
 · simp only at aH;subst aH;simp [mO]
 · simp [mO,p8]
 · rcases aH with aH|⟨c,aH,_⟩<;>simp only at aH<;>subst aH<;>simp [mO]
theorem sW {k p:Int} {w:al} (a8:Good (k,p,w)):fj (xD (k,w)) (mO (k,w)) [(k,w)]:=by
 intro T r a n out aA aC aN aw aJ
 obtain ⟨g1,g2,g3,g4⟩:=QR a8 aA aC aw
 obtain ⟨n,rfl⟩:∃k,n=k+1:=⟨n- 1,by omega⟩
 have av:=congrArg List.length aC
 rw [List.length_drop,List.length_append] at av
 have aB:=QT a8
 refine ⟨n,[(k,a,w)],rfl,by omega,by omega,?_⟩
 rw [AM g1 g2 g3 (by rw [g4]),g4]
theorem xD.dz {t:Int×al} {r:al} (h:pf r) (an:t≠(4,[61])):xD t r:=
 ⟨fun _=>h,fun _ c q e=>by have:=h c q e;simp only [fH,Bool.or_eq_false_iff] at this;exact this.2,fun e=>absurd e an⟩
theorem QU {s:al} (h:bJ s=true):Good (1,0,s):=by
 unfold bJ at h
 simp only [Bool.and_eq_true,decide_eq_true_eq,Bool.not_eq_true',beq_eq_false_iff_ne] at h
 obtain ⟨⟨I,J⟩,ak⟩:=h
 have key:∀(s:al) (b:Bool),ky s b=true→(∀c∈s,fH c=true)∧(b=true→∀c r,s=c::r→jx c=true):=fun s=>by
  induction s with
  |nil=>intro b _;exact ⟨(fun c ah=>by cases ah),fun _ c r e=>by cases e⟩
  |cons c r aO=>
   intro b ag
   rw [ky] at ag
   simp only [Bool.and_eq_true,Bool.or_eq_true,Bool.not_eq_true'] at ag
   have J:=aO _ ag.2
   have ay:l0 c=jx c:=rfl
   have az:mL c=dK c:=rfl
   rw [ay,az] at ag
   refine ⟨fun d a7=>?_,fun QV d q e=>?_⟩
   · rcases List.mem_cons.1 a7 with rfl|a7
     · unfold fH;rcases ag.1 with h|h
       · rw [h];rfl
       · rw [h.2];simp
     · exact J.1 d a7
   · injection e with cB fv
     subst cB
     rcases ag.1 with h|h
     · exact h
     · rw [QV] at h;cases h.1
 obtain ⟨fa,eg⟩:=key s true I
 refine .inl ⟨rfl,by show s.length≤12;omega,fa,?_⟩
 cases s with
 |nil=>exact absurd rfl J
 |cons c r=>exact ⟨c,r,rfl,eg rfl c r rfl⟩
theorem jJ {s:al} (h:bJ s=true):fj pf s [(1,s)]:=(sW (QU h)).kO fun r aw=> .dz aw (by intro e;cases e)
theorem j7 {c:UInt8} (h:c∈j2) (J:c≠61):fj jf [c] [(4,[c])]:=
 (sW (k:=4) (p:=0) (w:=[c]) (.inr (.inr (.inr ⟨rfl, .inr ⟨c,rfl,h⟩⟩)))).kO fun r _=>⟨(fun e=>by cases e),(fun e=>by cases e),fun e=>by injection e with _ e;injection e with e;exact absurd e J⟩
theorem Hf:fj jf [32,61,32] [(4,[61])]:=
 (k0 (c:=32) (.inl rfl)).app (((sW (k:=4) (p:=0) (w:=[61]) (.inr (.inr (.inr ⟨rfl, .inr ⟨61,rfl,by decide⟩⟩)))).app (k0 (c:=32) (.inl rfl)) fun r _=>⟨(fun e=>by cases e),(fun e=>by cases e),fun _ c q e=>by injection e with e;rw [←e];decide⟩)) fun _ _=>trivial
theorem QW:fj jf [32,61,61,32] [(4,[61,61])]:=
 (k0 (c:=32) (.inl rfl)).app (((sW (k:=4) (p:=0) (w:=[61,61]) (.inr (.inr (.inr ⟨rfl, .inl rfl⟩)))).app (k0 (c:=32) (.inl rfl)) fun r _=>⟨(fun e=>by cases e),(fun e=>by cases e),fun e=>by cases e⟩)) fun _ _=>trivial
theorem QX (s:al):ln s=p8 s:=by
 have:j1=lC:=by
  funext c
  unfold j1 lC
  have e:∀n:Nat,U uR (n:Int)=rk n:=fun n=>rfl
  rw [e,e]
  by_cases I:c.toNat=34∨c.toNat=92
  · rw [if_pos I,if_pos (by omega)]
  · rw [if_neg I,if_neg (by omega)]
    by_cases J:c.toNat<32∨126<c.toNat
    · rw [if_pos J,if_pos (by omega)]
    · rw [if_neg J,if_neg (by omega)]
 rw [ln,p8,this]
theorem QY {s:al} (h:s.length≤40):fj jf (ln s) [(3,s)]:=by
 rw [QX]
 exact (sW (k:=3) (p:=0) (w:=s) (.inr (.inr (.inl ⟨rfl,h⟩)))).kO fun r _=>⟨(fun e=>by cases e),(fun e=>by cases e),fun e=>by cases e⟩
theorem Hg:∀(u:Nat),u<10000000000→Good (2,0,Lib.decDigits u)∧∀c∈Lib.decDigits u,48≤c.toNat∧c.toNat≤57:=by
 have dg:∀d:Fin 10,(UInt8.ofNat (48+d.val)).toNat=48+d.val:=by decide+kernel
 have key:∀(k u:Nat),u<10^(k+1)→(Lib.decDigits u).length≤k+1∧(∀c∈Lib.decDigits u,48≤c.toNat∧c.toNat≤57)∧∃c r,Lib.decDigits u=c::r∧(c.toNat=48→u=0):=fun k=>by
  induction k with
  |zero=>
   intro u hu
   have hu:u<10:=by simpa using hu
   have:=dg ⟨u,hu⟩
   rw [Lib.decDigits_one hu]
   exact ⟨by simp,fun c ah=>by rw [List.mem_singleton.1 ah,this];simp only;omega,_,_,rfl,fun h=>by rw [this] at h;simp only at h;omega⟩
  |succ k aO=>
   intro u hu
   by_cases eY:u<10
   · have:=dg ⟨u,eY⟩
     rw [Lib.decDigits_one eY]
     exact ⟨by simp,fun c ah=>by rw [List.mem_singleton.1 ah,this];simp only;omega,_,_,rfl,fun h=>by rw [this] at h;simp only at h;omega⟩
   · have a7:u/10<10^(k+1):=by rw [Nat.pow_succ] at hu;omega
     obtain ⟨i1,i2,c,r,i3,i4⟩:=aO (u/10) a7
     have:=dg ⟨u%10,Nat.mod_lt _ (by decide)⟩
     rw [Lib.decDigits,dif_neg eY]
     refine ⟨by rw [List.length_append];simp;omega,fun c ah=>?_,c,r++[UInt8.ofNat (48+u%10)],by rw [i3];rfl,fun h=>by have:=i4 h;omega⟩
     rcases List.mem_append.1 ah with ah|ah
     · exact i2 c ah
     · rw [List.mem_singleton.1 ah,this];simp only;omega
 intro u hu
 obtain ⟨fa,eg,c,r,gy,j8⟩:=key 9 u (by simpa using hu)
 refine ⟨.inr (.inl ⟨rfl,fa,fun d a7=>uV.2 (by have:=eg d a7;omega),c,r,gy,fun h=>?_⟩),eg⟩
 have au:=j8 h
 subst au
 rw [Lib.decDigits_one (by decide)] at gy
 injection gy with _ gy
 exact gy.symm
theorem Hh {u:Nat} (hu:u<10000000000):fj pf (Lib.decDigits u) [(2,Lib.decDigits u)]:=(sW (Hg u hu).1).kO fun r aw=> .dz aw (by intro e;cases e)
theorem QZ {F:al→Prop} {w:al} {bd:List (Int×al)} (h:fj F w bd) (dB:F []) (av:w.length≤4000):(dL w).1.map po=bd∧(dL w).2=(0,0):=by
 obtain ⟨n,l,ay,az,cB,fv⟩:=h w [] 0 (w.length+1) [] (Int.le_refl _) (by simp) (by omega) dB (by omega)
 have aw:dL w=fB (w.length+1) w 0 []:=by rw [dL,if_neg (by omega)]
 obtain ⟨n,rfl⟩:∃k,n=k+1:=⟨n- 1,by omega⟩
 have qS:=fv.trans (AK (by omega))
 rw [aw,qS]
 exact ⟨by simpa using ay,rfl⟩
end Go.Proofs
end
section
namespace Go.Proofs
open Go Go.bb Go.b4
set_option maxRecDepth 100000
def fK (l:List Tok):Int→List (Int×al)→Prop
 |_,[]=>True
 |a,t::r=>(0≤a∧a<l.length)∧po (U l a)=t∧fK l (a+1) r
section
variable {l:List Tok} {n a k:Int} {x s:al} {t:Int×al} {r:List (Int×al)}
theorem fK.app:∀{x y:List (Int×al)} {a:Int},fK l a (x++y)→fK l a x∧fK l (a+x.length) y
 |[],y,a,h=>⟨trivial,by simpa using h⟩
 |t::x,y,a,h=>by
  obtain ⟨I,J,ak⟩:=h
  obtain ⟨aH,aQ⟩:=fK.app ak
  exact ⟨⟨I,J,aH⟩,by rw [List.length_cons,show a+((x.length+1:Nat):Int)=a+1+x.length by omega];exact aQ⟩
theorem fK.len:∀{bd:List (Int×al)} {a:Int},fK l a bd→bd≠[]→0≤a∧a+bd.length≤l.length
 |[],_,_,h=>absurd rfl h
 |t::[],a,⟨I,_,_⟩,_=>by simp;omega
 |t::u::r,a,⟨I,_,ak⟩,_=>by
  have:=fK.len ak (by simp)
  simp only [List.length_cons] at this ⊢;omega
theorem Hi:∀(l p:List Tok),fK (p++l) p.length (l.map po)
 |[],_=>trivial
 |t::l,p=>by
  refine ⟨⟨by omega,by simp;omega⟩,?_,?_⟩
  · congr 1
    simp [U,List.getD_eq_getElem?_getD]
  · have:=Hi l (p++[t])
    simpa using this
theorem Q0 {l:List Tok} {bd:List (Int×al)} (h:l.map po=bd):fK l 0 bd:=by
 have:=Hi l []
 rw [h] at this
 simpa using this
theorem xG (h:fK l a (t::r)) (k:Int) (s:al):bV l k s a=((t.1==k)&&((s==[])||(t.2==s))):=by
 obtain ⟨⟨aA,I⟩,J,_⟩:=h
 subst J
 simp [bV,po,I]
theorem hC (h:fK l a ((k,x)::r)) (aj:s=[]∨s=x):bV l k s a=true:=by
 rw [xG h];rcases aj with rfl|rfl<;>simp
theorem j9 (h:fK l a (t::r)) (ai:t.1≠k):¬bV l k s a=true:=by
 rw [xG h];simp [ai]
theorem fL (h:fK l a (t::r)) (aj:s≠[]) (ao:t.2≠s):¬bV l k s a=true:=by
 rw [xG h];simp [aj,ao]
theorem gY (h:fK l a ((k,x)::r)) (aj:s=[]∨s=x):ck l n k s a= .ok x (a+1):=by
 rw [ck,if_pos (hC h aj)]
 have:=congrArg Prod.snd h.2.1
 rw [show (U l a).2.2=x from this]
theorem eE {α β:Type} [Inhabited β] (x:α) (a:Int) (g:α→Int→bm β):(bm.ok x a).bind g=g x a:=by
 rw [bm.bind,if_pos (show (bm.ok x a).f=0 from rfl)];rfl
end
def hn (k:Nat) (w:al) (e:ar):Prop:=∃bd:List (Int×al),fj pf w bd∧(∃t r,bd=t::r∧t≠(4,[93]))∧∀(l:List Tok) (n a:Int),fK l a bd→cn l n k a= .ok e (a+bd.length)
theorem hQ {c:UInt8} (h:fH c=false) (q:al):pf (c::q):=fun d r e=>by injection e with e _;rw [←e];exact h
theorem BI {c:UInt8} (h:c∈j2) (J:c≠61):fj jf [32,c,32] [(4,[c])]:=
 (k0 (c:=32) (.inl rfl)).app ((j7 h J).app (k0 (c:=32) (.inl rfl)) fun _ _=>trivial) fun _ _=>trivial
theorem xH {c:UInt8} (h:c∈j2) (J:c≠61):fj jf [c,32] [(4,[c])]:=
 (j7 h J).app (k0 (c:=32) (.inl rfl)) fun _ _=>trivial
theorem Hj {α:Type} (g:α→al) (l:List α) {c:UInt8} (h:fH c=false) (q:al):pf (ed g l false++[c]++q):=by
 cases l with
 |nil=>rw [ed];exact hQ h _
 |cons x r=>rw [ed];exact hQ (by decide) _
theorem Hk {k:Nat} {g:ar→al}:∀(es:List ar) (b:Bool),(∀x∈es,hn k (g x) x)→∃bd:List (Int×al),fj jf (ed g es b++[93]) bd∧es.length<bd.length∧
 ∀(l:List Tok) (n a:Int) (aZ:Nat) (xs:List ar),fK l a bd→es.length<aZ→(xs=[]↔b=true)→j3 (cn l n k) l n aZ a xs= .ok (.mk 8 cS [] [] (xs++es) []) (a+bd.length)
 |[],b,_=>by
  refine ⟨[(4,[93])],by rw [ed];exact j7 (by decide) (by decide),by simp,fun l n a aZ xs aj aM _=>?_⟩
  obtain ⟨aZ,rfl⟩:∃k,aZ=k+1:=⟨aZ- 1,by omega⟩
  rw [j3,if_pos (hC aj (.inr rfl)),List.append_nil];rfl
 |x::r,b,h=>by
  obtain ⟨vh,qu,⟨t,q,rfl,an⟩,vi⟩:=h x (List.mem_cons_self ..)
  obtain ⟨e8,hO,rj,cN⟩:=Hk r false fun y aE=>h y (List.mem_cons_of_mem _ aE)
  have key:∀(l:List Tok) (n a:Int) (aZ:Nat) (xs:List ar),fK l a ((t::q)++e8)→r.length<aZ→(((cn l n k) a).bind fun x a=>j3 (cn l n k) l n aZ a (xs++[x]))= .ok (.mk 8 cS [] [] (xs++x::r) []) (a+((t::q)++e8).length):=fun l n a aZ xs aj aM=>by
   obtain ⟨s1,s2⟩:=aj.app
   rw [vi l n a s1,eE,cN l n _ aZ (xs++[x]) s2 aM (by simp),List.append_assoc]
   congr 1
   rw [List.length_append];omega
  have qb:=qu.app hO fun q _=>Hj g r (by decide) q
  cases b with
  |true=>
   refine ⟨(t::q)++e8,by rw [ed];simpa using qb,by rw [List.length_append,List.length_cons,List.length_cons];omega,fun l n a aZ xs aj aM ao=>?_⟩
   obtain ⟨aZ,rfl⟩:∃k,aZ=k+1:=⟨aZ- 1,by omega⟩
   have zQ:¬bV l 4 [93] a=true:=by
    rw [xG aj]
    intro aL
    simp at aL
    exact an (Prod.ext aL.1 aL.2)
   rw [j3,if_neg zQ,jz,if_pos (ao.2 rfl)]
   exact key l n a aZ xs aj (by simp at aM;omega)
  |false=>
   refine ⟨(4,[44])::((t::q)++e8),by rw [ed];simpa using (xH (c:=44) (by decide) (by decide)).app qb fun _ _=>trivial,by simp;omega,fun l n a aZ xs aj aM ao=>?_⟩
   obtain ⟨aZ,rfl⟩:∃k,aZ=k+1:=⟨aZ- 1,by omega⟩
   rw [j3,if_neg (fL aj (by decide) (by decide)),jz,if_neg (fun c=>by have:=ao.1 c;cases this),gY aj (.inr rfl),eE,key l n (a+1) aZ xs aj.2.2 (by simp at aM;omega)]
   congr 1
   rw [List.length_cons];omega
theorem Hl {bQ:List al} {m:al} {r:List al} (h:jd (bQ++m::r)):bJ m=true∧¬q3 bQ m:=by
 have I:=h bQ.length (by omega) (by simp;omega)
 have ay:U (bQ++m::r) (bQ.length:Int)=m:=by simp [U,List.getD_eq_getElem?_getD]
 rw [ay] at I
 refine ⟨I.1,fun ag=>?_⟩
 have J:=I.2 ag.1
 have az:U (bQ++m::r) ((bQ.length:Int)- 1)=U bQ ((bQ.length:Int)- 1):=by
  have:=ag.1
  have aJ:((bQ.length:Int)- 1).toNat<bQ.length:=by omega
  simp only [U,List.getD_eq_getElem?_getD,List.getElem?_append_left aJ]
 rw [az,ag.2] at J
 cases J
theorem Hm {k:Nat} {g:ar→al}:∀(es:List (al×ar)) (b:Bool),(∀p∈es,bJ p.1=true∧hn k (g p.2) p.2)→∃bd:List (Int×al),fj jf (ed (fun p:al×ar=>p.1++[58,32]++g p.2) es b++[125]) bd∧es.length<bd.length∧
 ∀(l:List Tok) (n a:Int) (aZ:Nat) (bQ:List al) (xs:List ar),fK l a bd→es.length<aZ→(xs=[]↔b=true)→jd (bQ++es.map Prod.fst)→jb (cn l n k) l n aZ a bQ xs= .ok (.mk 9 cS [] [] (xs++es.map Prod.snd) (bQ++es.map Prod.fst)) (a+bd.length)
 |[],b,_=>by
  refine ⟨[(4,[125])],by rw [ed];exact j7 (by decide) (by decide),by simp,fun l n a aZ bQ xs aj aM _ _=>?_⟩
  obtain ⟨aZ,rfl⟩:∃k,aZ=k+1:=⟨aZ- 1,by omega⟩
  rw [jb,if_pos (hC aj (.inr rfl))];simp
 |p::r,b,h=>by
  obtain ⟨aJ,vh,qu,_,vi⟩:=h p (List.mem_cons_self ..)
  obtain ⟨e8,hO,rj,cN⟩:=Hm r false fun y aE=>h y (List.mem_cons_of_mem _ aE)
  have key:∀(l:List Tok) (n a:Int) (aZ:Nat) (bQ:List al) (xs:List ar),fK l a ((1,p.1)::(4,[58])::(vh++e8))→r.length<aZ→jd (bQ++(p::r).map Prod.fst)→
   ((ck l n 1 [] a).bind fun m a=>if q3 bQ m then .bad 3 (cJ l n a) else (ck l n 4 [58] a).bind fun _ a=>((cn l n k) a).bind fun x a=>jb (cn l n k) l n aZ a (bQ++[m]) (xs++[x]))= .ok (.mk 9 cS [] [] (xs++(p::r).map Prod.snd) (bQ++(p::r).map Prod.fst)) (a+((1,p.1)::(4,[58])::(vh++e8)).length):=fun l n a aZ bQ xs aj aM di=>by
   rw [List.map_cons] at di
   obtain ⟨s1,s2⟩:=aj.2.2.2.2.app
   rw [gY aj (.inl rfl),eE,if_neg (Hl di).2,gY aj.2.2 (.inr rfl),eE,vi l n _ s1,eE,cN l n _ aZ (bQ++[p.1]) (xs++[p.2]) s2 aM (by simp) (by simpa using di)]
   simp only [List.append_assoc,List.map_cons,List.singleton_append,List.length_cons,List.length_append]
   congr 1;omega
  have qb:=(jJ aJ).app ((xH (c:=58) (by decide) (by decide)).app (qu.app hO fun q _=>Hj _ r (by decide) q) fun _ _=>trivial) fun q _=>hQ (by decide) _
  cases b with
  |true=>
   refine ⟨(1,p.1)::(4,[58])::(vh++e8),by rw [ed];simpa using qb,by simp;omega,fun l n a aZ bQ xs aj aM ao di=>?_⟩
   obtain ⟨aZ,rfl⟩:∃k,aZ=k+1:=⟨aZ- 1,by omega⟩
   rw [jb,if_neg (j9 aj (by show (1:Int)≠4;decide)),jz,if_pos (ao.2 rfl)]
   exact key l n a aZ bQ xs aj (by simp at aM;omega) di
  |false=>
   refine ⟨(4,[44])::(1,p.1)::(4,[58])::(vh++e8),by rw [ed];simpa using (xH (c:=44) (by decide) (by decide)).app qb fun _ _=>trivial,by simp;omega,fun l n a aZ bQ xs aj aM ao di=>?_⟩
   obtain ⟨aZ,rfl⟩:∃k,aZ=k+1:=⟨aZ- 1,by omega⟩
   rw [jb,if_neg (fL aj (by decide) (by decide)),jz,if_neg (fun c=>by have:=ao.1 c;cases this),gY aj (.inr rfl),eE,key l n (a+1) aZ bQ xs aj.2.2 (by simp at aM;omega) di]
   congr 1
   simp only [List.length_cons];omega
end Go.Proofs
end
section
namespace Go.Proofs
open Go Go.bb Go.b4
set_option maxRecDepth 100000
theorem Hn:∀{l:List ar} {x:ar},x∈l→hB x≤j5 l
 |y::r,x,h=>by
  rw [j5]
  rcases List.mem_cons.1 h with rfl|h
  · exact Int.le_max_left _ _
  · exact Int.le_trans (Hn h) (Int.le_max_right _ _)
theorem Ho:∀(s:al) (acc:Nat) (b:UInt8),Lib.decFrom acc (s++[b])=(Lib.decFrom acc s).bind fun m=>(Lib.digitVal b).map fun d=>m*10+d
 |[],acc,b=>by
  simp only [List.nil_append,Lib.decFrom]
  cases Lib.digitVal b<;>rfl
 |c::s,acc,b=>by
  simp only [List.cons_append,Lib.decFrom]
  cases Lib.digitVal c with
  |none=>rfl
  |some d=>exact Ho s _ b
theorem Q1:∀(k u:Nat),u<10^(k+1)→Lib.decFrom 0 (Lib.decDigits u)=some u:=by
 have dg:∀d:Fin 10,Lib.digitVal (UInt8.ofNat (48+d.val))=some d.val:=by decide+kernel
 intro k
 induction k with
 |zero=>
  intro u hu
  have hu:u<10:=by simpa using hu
  rw [Lib.decDigits_one hu]
  have:=dg ⟨u,hu⟩
  simp only at this
  simp only [Lib.decFrom,this];simp
 |succ k aO=>
  intro u hu
  by_cases eY:u<10
  · rw [Lib.decDigits_one eY]
    have:=dg ⟨u,eY⟩
    simp only at this
    simp only [Lib.decFrom,this];simp
  · have a7:u/10<10^(k+1):=by rw [Nat.pow_succ] at hu;omega
    have:=dg ⟨u%10,Nat.mod_lt _ (by decide)⟩
    simp only at this
    rw [Lib.decDigits,dif_neg eY,Ho,aO _ a7,Option.bind_some,this,Option.map_some]
    congr 1;omega
theorem Q2 {u:Nat} (hu:u<10000000000):gG (Lib.decDigits u)=u:=by
 have a8:=(Hg u hu)
 rw [gG,FV (NO u) a8.2,Q1 9 u (by simpa using hu)];rfl
theorem fj.cast {F:al→Prop} {w w':al} {t gZ:List (Int×al)} (h:fj F w t) (e:w=w') (az:t=gZ):fj F w' gZ:=by subst e;subst az;exact h
section
variable {l:List Tok} {n a:Int} {k:Nat} {x:al} {r:List (Int×al)}
theorem rl (h:fK l a ((1,x)::r)):cn l n (k+1) a=iH (cn l n k) l n a:=by
 have aH:(1:Int)≠4:=by decide
 rw [cn,if_neg (j9 h aH),if_neg (j9 h aH),if_neg (j9 h aH),if_neg (j9 h aH),if_neg (j9 h (by show (1:Int)≠2;decide)),if_neg (j9 h (by show (1:Int)≠3;decide))]
theorem Hp (dU:Int) {u:Nat} (hu:u≤1000000000) (aj:¬(dU<0∧u=0)) (h:fK l a ((2,Lib.decDigits u)::r)):l4 l n dU a= .ok (gn (.mk 1 (dU*u) [] [] [])) (a+1):=by
 have a7:gG (U l a).2.2=u:=by
  have:=congrArg Prod.snd h.2.1
  rw [show (U l a).2.2=Lib.decDigits u from this,Q2 (by omega)]
 rw [l4,if_pos (hC h (.inl rfl)),a7,if_neg (by omega)]
end
theorem Q3 (k:Nat):hn (k+1) [110,117,108,108] (gn cS):=
 ⟨[(1,[110,117,108,108])],jJ (by decide+kernel),⟨_,_,rfl,by decide⟩,fun l n a h=>by rw [rl h,iH,if_pos (hC h (.inr rfl))];rfl⟩
theorem rd_true (k:Nat):hn (k+1) [116,114,117,101] (gn (.mk 3 1 [] [] [])):=
 ⟨[(1,[116,114,117,101])],jJ (by decide+kernel),⟨_,_,rfl,by decide⟩,fun l n a h=>by rw [rl h,iH,if_neg (fL h (by decide) (by decide)),if_pos (hC h (.inr rfl))];rfl⟩
theorem rd_false (k:Nat):hn (k+1) [102,97,108,115,101] (gn (.mk 3 0 [] [] [])):=
 ⟨[(1,[102,97,108,115,101])],jJ (by decide+kernel),⟨_,_,rfl,by decide⟩,fun l n a h=>by rw [rl h,iH,if_neg (fL h (by decide) (by decide)),if_neg (fL h (by decide) (by decide)),if_pos (hC h (.inr rfl))];rfl⟩
theorem Q4 (k:Nat) {m:Int} (I:-1000000000≤m) (J:m≤1000000000):hn (k+1) (Lib.itoa m) (gn (.mk 1 m [] [] [])):=by
 rw [Lib.itoa]
 split
 · rename_i hm
   refine ⟨[(4,[45]),(2,Lib.decDigits m.natAbs)],by
    have:=(j7 (c:=45) (by decide) (by decide)).app (Hh (u:=m.natAbs) (by omega)) fun _ _=>trivial
    simpa using this,⟨_,_,rfl,by decide⟩,fun l n a h=>?_⟩
   rw [cn,if_neg (fL h (by decide) (by decide)),if_neg (fL h (by decide) (by decide)),if_neg (fL h (by decide) (by decide)),if_pos (hC h (.inr rfl)),Hp (-1) (by omega) (by omega) h.2.2]
   congr 1
   · congr 2;omega
   · simp;omega
 · rename_i hm
   refine ⟨[(2,Lib.decDigits m.toNat)],Hh (by omega),⟨_,_,rfl,by intro e;cases e⟩,fun l n a h=>?_⟩
   have aH:(2:Int)≠4:=by decide
   rw [cn,if_neg (j9 h aH),if_neg (j9 h aH),if_neg (j9 h aH),if_neg (j9 h aH),if_pos (hC h (.inl rfl)),Hp 1 (by omega) (by omega) h]
   congr 1
   congr 2;omega
theorem Q5 (k:Nat) {s:al} (h:s.length≤40):hn (k+1) (ln s) (gn (.mk 2 0 s [] [])):=by
 refine ⟨[(3,s)],(QY h).kO fun _ _=>trivial,⟨_,_,rfl,by intro e;cases e⟩,fun l n a h=>?_⟩
 have aH:(3:Int)≠4:=by decide
 rw [cn,if_neg (j9 h aH),if_neg (j9 h aH),if_neg (j9 h aH),if_neg (j9 h aH),if_neg (j9 h (by show (3:Int)≠2;decide)),if_pos (hC h (.inl rfl))]
 have:=congrArg Prod.snd h.2.1
 rw [show (U l a).2.2=s from this];rfl
theorem Q6 (k:Nat) {v:a6} (ai:v.kind≤3) (ah:bH v=0):hn (k+1) (ib v) (gn v):=by
 have aj:=(AE (w9 ah).1).1
 have xI:((v.l.length:Int)+(v.f.length:Int)==0)=true→v.l=[]∧v.f=[]:=fun h=>by
  have:=eq_of_beq h
  exact ⟨List.length_eq_zero_iff.1 (by omega),List.length_eq_zero_iff.1 (by omega)⟩
 have Q7:v.kind=0∨v.kind=1∨v.kind=2∨v.kind=3:=by
  have:=Fx aj;omega
 have az:∀fN:a6,v=fN→fN=v:=fun _ h=>h.symm
 rw [ib,p1]
 rcases Q7 with aA|aA|aA|aA
 · rw [hJ,if_pos aA] at aj
   simp only [Bool.and_eq_true,beq_iff_eq] at aj
   obtain ⟨⟨I,J⟩,ak⟩:=aj
   obtain ⟨aH,aQ⟩:=xI (by simpa using ak)
   rw [if_pos aA]
   have:v=cS:=by cases v;simp only [a6.kind,a6.n,a6.s,a6.l,a6.f] at aA I J aH aQ;subst aA I J aH aQ;rfl
   rw [this];exact Q3 k
 · rw [hJ,if_neg (by omega),if_pos aA] at aj
   simp only [Bool.and_eq_true,decide_eq_true_eq,beq_iff_eq] at aj
   obtain ⟨⟨⟨I,J⟩,bw⟩,ak⟩:=aj
   obtain ⟨aH,aQ⟩:=xI (by simpa using ak)
   rw [if_neg (by omega),if_pos aA]
   have:v= .mk 1 v.n [] [] []:=by cases v;simp only [a6.kind,a6.n,a6.s,a6.l,a6.f] at aA bw aH aQ;subst aA bw aH aQ;rfl
   rw [this];exact Q4 k I J
 · rw [hJ,if_neg (by omega),if_neg (by omega),if_pos aA] at aj
   simp only [Bool.and_eq_true,decide_eq_true_eq,beq_iff_eq] at aj
   obtain ⟨⟨I,J⟩,ak⟩:=aj
   obtain ⟨aH,aQ⟩:=xI (by simpa using ak)
   rw [if_neg (by omega),if_neg (by omega),if_pos aA]
   have:v= .mk 2 0 v.s [] []:=by cases v;simp only [a6.kind,a6.n,a6.s,a6.l,a6.f] at aA I aH aQ;subst aA I aH aQ;rfl
   have h:=Q5 k (s:=v.s) (by omega)
   rw [show gn v=gn (.mk 2 0 v.s [] []) from congrArg gn this];exact h
 · rw [hJ,if_neg (by omega),if_neg (by omega),if_neg (by omega),if_pos aA] at aj
   simp only [Bool.and_eq_true,Bool.or_eq_true,beq_iff_eq] at aj
   obtain ⟨⟨I,J⟩,ak⟩:=aj
   obtain ⟨aH,aQ⟩:=xI (by simpa using ak)
   rw [if_neg (by omega),if_neg (by omega),if_neg (by omega),if_pos aA]
   have:v= .mk 3 v.n [] [] []:=by cases v;simp only [a6.kind,a6.n,a6.s,a6.l,a6.f] at aA J aH aQ;subst aA J aH aQ;rfl
   rcases I with I|I<;>rw [this,I]
   · exact rd_false k
   · exact rd_true k
section
variable {k:Nat} {gv cf dQ:al} {x y z:ar}
theorem Hq {c:al} {cs:UInt8} (ah:cs=43∨cs=61) (aA:hn k gv x) (I:hn k cf y) (hm:fj jf ([32]++c++[32]) [(4,c)]) (so:(cs=43∧c=[43])∨(cs=61∧c=[61,61])):
 hn (k+1) ([40]++gv++([32]++c++[32])++cf++[41]) (.mk (if cs=43 then 5 else 6) cS [] [] [x,y] []):=by
 obtain ⟨t0,mf,_,mP⟩:=aA
 obtain ⟨t1,h3,_,qh⟩:=I
 refine ⟨(4,[40])::(t0++((4,c)::(t1++[(4,[41])]))),?_,⟨_,_,rfl,by decide⟩,fun l n a h=>?_⟩
 · have:=(j7 (c:=40) (by decide) (by decide)).app (mf.app (hm.app (h3.app (j7 (c:=41) (by decide) (by decide)) fun _ _=>hQ (by decide) _) fun _ _=>trivial) fun _ _=>hQ (by decide) _) fun _ _=>trivial
   refine (this.kO fun _ _=>trivial).cast ?_ rfl
   simp only [List.append_assoc]
 · obtain ⟨ng,s1⟩:=h.2.2.app
   obtain ⟨s2,ht⟩:=s1.2.2.app
   rw [cn,if_pos (hC h (.inr rfl)),nA,mP l n _ ng,eE]
   have hlen:a+1+t0.length+1+t1.length+1=a+(((4,[40])::(t0++((4,c)::(t1++[(4,[41])]))):List (Int×al)).length:Int):=by simp only [List.length_cons,List.length_append,List.length_nil];omega
   rcases so with ⟨rfl,rfl⟩|⟨rfl,rfl⟩
   · rw [if_pos (hC s1 (.inr rfl)),qh l n _ s2,eE,gY ht (.inr rfl),eE,if_pos rfl,hlen]
   · rw [if_neg (fL s1 (by decide) (by decide)),if_pos (hC s1 (.inr rfl)),qh l n _ s2,eE,gY ht (.inr rfl),eE,if_neg (by decide),hlen]
theorem Q8 (aA:hn k gv x) (I:hn k cf y) (J:hn k dQ z):hn (k+1) ([40]++gv++[32,63,32]++cf++[32,58,32]++dQ++[41]) (.mk 7 cS [] [] [x,y,z] []):=by
 obtain ⟨t0,mf,_,mP⟩:=aA
 obtain ⟨t1,h3,_,qh⟩:=I
 obtain ⟨t2,jo,_,xW⟩:=J
 refine ⟨(4,[40])::(t0++((4,[63])::(t1++((4,[58])::(t2++[(4,[41])]))))),?_,⟨_,_,rfl,by decide⟩,fun l n a h=>?_⟩
 · have:=(j7 (c:=40) (by decide) (by decide)).app (mf.app ((BI (c:=63) (by decide) (by decide)).app (h3.app ((BI (c:=58) (by decide) (by decide)).app (jo.app (j7 (c:=41) (by decide) (by decide)) fun _ _=>hQ (by decide) _) fun _ _=>trivial) fun _ _=>hQ (by decide) _) fun _ _=>trivial) fun _ _=>hQ (by decide) _) fun _ _=>trivial
   refine (this.kO fun _ _=>trivial).cast ?_ rfl
   simp only [List.append_assoc]
 · obtain ⟨ng,s1⟩:=h.2.2.app
   obtain ⟨s2,ht⟩:=s1.2.2.app
   obtain ⟨mI,Q9⟩:=ht.2.2.app
   rw [cn,if_pos (hC h (.inr rfl)),nA,mP l n _ ng,eE,if_neg (fL s1 (by decide) (by decide)),if_neg (fL s1 (by decide) (by decide)),if_pos (hC s1 (.inr rfl)),qh l n _ s2,eE,gY ht (.inr rfl),eE,xW l n _ mI,eE,gY Q9 (.inr rfl),eE]
   congr 1
   simp only [List.length_cons,List.length_append,List.length_nil];omega
theorem Ra {s:al} (aj:bJ s=true) (aA:hn k gv x):hn (k+1) ([103,101,116,32]++gv++[32]++s) (.mk 10 cS s [] [x] []):=by
 obtain ⟨t0,mf,_,mP⟩:=aA
 refine ⟨(1,[103,101,116])::(t0++[(1,s)]),?_,⟨_,_,rfl,by decide⟩,fun l n a h=>?_⟩
 · have:=(jJ (s:=[103,101,116]) (by decide+kernel)).app ((k0 (c:=32) (.inl rfl)).app (mf.app ((k0 (c:=32) (.inl rfl)).app (jJ aj) fun _ _=>trivial) fun _ _=>hQ (by decide) _) fun _ _=>trivial) fun _ _=>hQ (by decide) _
   refine this.cast ?_ rfl
   simp only [List.append_assoc];rfl
 · obtain ⟨ng,s1⟩:=h.2.2.app
   rw [rl h,iH,if_neg (fL h (by decide) (by decide)),if_neg (fL h (by decide) (by decide)),if_neg (fL h (by decide) (by decide)),if_neg (fL h (by decide) (by decide)),if_neg (fL h (by decide) (by decide)),if_neg (fL h (by decide) (by decide)),if_pos (hC h (.inr rfl)),mP l n _ ng,eE,gY s1 (.inl rfl),eE]
   congr 1
   simp only [List.length_cons,List.length_append,List.length_nil];omega
end
theorem Rb (k:Nat) {s:al} (aj:bJ s=true):hn (k+1) ([105,110,46]++s) (.mk 2 cS s [] [] []):=by
 refine ⟨[(1,[105,110]),(4,[46]),(1,s)],?_,⟨_,_,rfl,by decide⟩,fun l n a h=>?_⟩
 · have:=(jJ (s:=[105,110]) (by decide+kernel)).app ((j7 (c:=46) (by decide) (by decide)).app (jJ aj) fun _ _=>trivial) fun _ _=>hQ (by decide) _
   exact this.cast rfl rfl
 · rw [rl h,iH,if_neg (fL h (by decide) (by decide)),if_neg (fL h (by decide) (by decide)),if_neg (fL h (by decide) (by decide)),if_pos (hC h (.inr rfl)),gY h.2.2 (.inr rfl),eE,gY h.2.2.2.2 (.inl rfl),eE]
   congr 1
   simp only [List.length_cons,List.length_nil];omega
theorem Hr {kw:al} (ai:bJ kw=true) {s t:al} (aj:bJ s=true) (an:bJ t=true):∃bd:List (Int×al),fj pf (kw++[46]++s++[46]++t) ((1,kw)::bd)∧(bd.length:Int)=4∧∀(l:List Tok) (n a:Int),fK l a bd→o9 l n a= .ok (s,t) (a+4):=by
 refine ⟨[(4,[46]),(1,s),(4,[46]),(1,t)],?_,rfl,fun l n a h=>?_⟩
 · have:=(jJ ai).app ((j7 (c:=46) (by decide) (by decide)).app ((jJ aj).app ((j7 (c:=46) (by decide) (by decide)).app (jJ an) fun _ _=>trivial) fun _ _=>hQ (by decide) _) fun _ _=>trivial) fun _ _=>hQ (by decide) _
   refine this.cast ?_ rfl
   simp only [List.append_assoc]
 · rw [o9,gY h (.inr rfl),eE,gY h.2.2 (.inl rfl),eE,gY h.2.2.2.2 (.inr rfl),eE,gY h.2.2.2.2.2.2 (.inl rfl),eE]
   congr 1;omega
theorem Rc (k:Nat) {s t:al} (aj:bJ s=true) (an:bJ t=true):hn (k+1) ([114,101,115,46]++s++[46]++t) (.mk 3 cS s t [] []):=by
 obtain ⟨bd,I,J,ak⟩:=Hr (kw:=[114,101,115]) (by decide+kernel) aj an
 refine ⟨_,I.cast (by simp only [List.append_assoc];rfl) rfl,⟨_,_,rfl,by intro e;cases e⟩,fun l n a h=>?_⟩
 rw [rl h,iH,if_neg (fL h (by decide) (by decide)),if_neg (fL h (by decide) (by decide)),if_neg (fL h (by decide) (by decide)),if_neg (fL h (by decide) (by decide)),if_pos (hC h (.inr rfl)),ak l n _ h.2.2,eE]
 congr 1
 rw [List.length_cons];omega
theorem Re (k:Nat) {s t:al} (aj:bJ s=true) (an:bJ t=true):hn (k+1) ([115,116,97,99,107,46]++s++[46]++t) (.mk 4 cS s t [] []):=by
 obtain ⟨bd,I,J,ak⟩:=Hr (kw:=[115,116,97,99,107]) (by decide+kernel) aj an
 refine ⟨_,I.cast (by simp only [List.append_assoc];rfl) rfl,⟨_,_,rfl,by intro e;cases e⟩,fun l n a h=>?_⟩
 rw [rl h,iH,if_neg (fL h (by decide) (by decide)),if_neg (fL h (by decide) (by decide)),if_neg (fL h (by decide) (by decide)),if_neg (fL h (by decide) (by decide)),if_neg (fL h (by decide) (by decide)),if_pos (hC h (.inr rfl)),ak l n _ h.2.2,eE]
 congr 1
 rw [List.length_cons];omega
theorem Rf {k:Nat} {g:ar→al} {es:List ar} (h:∀x∈es,hn k (g x) x):hn (k+1) ([91]++ed g es true++[93]) (.mk 8 cS [] [] es []):=by
 obtain ⟨bd,mf,av,mP⟩:=Hk es true h
 refine ⟨(4,[91])::bd,?_,⟨_,_,rfl,by decide⟩,fun l n a h=>?_⟩
 · have:=(j7 (c:=91) (by decide) (by decide)).app mf fun _ _=>trivial
   exact (this.kO fun _ _=>trivial).cast (List.append_assoc ..).symm rfl
 · have aJ:bd≠[]:=fun e=>by rw [e] at av;simp at av
   have:=h.2.2.len aJ
   rw [cn,if_neg (fL h (by decide) (by decide)),if_pos (hC h (.inr rfl)),mP l n _ (l.length+1) [] h.2.2 (by omega) (by simp)]
   congr 1
   rw [List.length_cons];omega
theorem Rg {k:Nat} {g:ar→al} {es:List (al×ar)} (h:∀p∈es,bJ p.1=true∧hn k (g p.2) p.2) (di:jd (es.map Prod.fst)):hn (k+1) ([123]++ed (fun p:al×ar=>p.1++[58,32]++g p.2) es true++[125]) (.mk 9 cS [] [] (es.map Prod.snd) (es.map Prod.fst)):=by
 obtain ⟨bd,mf,av,mP⟩:=Hm es true h
 refine ⟨(4,[123])::bd,?_,⟨_,_,rfl,by decide⟩,fun l n a h=>?_⟩
 · have:=(j7 (c:=123) (by decide) (by decide)).app mf fun _ _=>trivial
   exact (this.kO fun _ _=>trivial).cast (List.append_assoc ..).symm rfl
 · have aJ:bd≠[]:=fun e=>by rw [e] at av;simp at av
   have:=h.2.2.len aJ
   rw [cn,if_neg (fL h (by decide) (by decide)),if_neg (fL h (by decide) (by decide)),if_pos (hC h (.inr rfl)),mP l n _ (l.length+1) [] [] h.2.2 (by omega) (by simp) di]
   congr 1
   rw [List.length_cons];omega
theorem Hs:∀(qv:Nat) (e:ar) (k:Nat),dN e<qv→kB e→hB e≤k→hn k (bz qv e) e
 |0,_,_,h,_,_=>absurd h (Nat.not_lt_zero _)
 |qv+1,e,k,a7,aM,ao=>by
  obtain ⟨aJ,lu⟩:=Bk aM
  have bA:=(xm e).2.2.1
  obtain ⟨k,rfl⟩:∃cX,k=cX+1:=⟨k- 1,by omega⟩
  have aO:∀x∈e.a,hn k (bz qv x) x:=fun x tN=>Hs qv x k (by have:=jy tN;omega) (lu x tN) (by have:=Hn tN;rw [Gi] at ao;omega)
  unfold ih at aJ
  rcases aJ with ⟨ai,aj,an,⟨I,J⟩,aN,hm⟩|⟨ba,aJ⟩
  · rw [ij,if_pos (by omega)]
    obtain ⟨cu,v,s,t,a,bQ⟩:=e
    simp only [ar.kind,ar.v,ar.s,ar.t,ar.a,ar.n] at ai aj an I J aN hm aO ⊢
    subst ai aj an aN hm
    exact Q6 k I J
  rcases aJ with ⟨ai,I,an,aN,hm⟩|⟨ai|ai,I,J,aN,hm⟩|⟨ai|ai,aj,an,I,hm⟩|⟨ai,aj,an,I,hm⟩|⟨ai,aj,an,hm⟩|⟨ai,aj,an,I,J⟩|⟨ai,I,an,J,hm⟩
  · rw [ij,if_neg (by omega),if_pos (by omega)]
    obtain ⟨cu,v,s,t,a,bQ⟩:=e
    simp only [ar.kind,ar.v,ar.s,ar.t,ar.a,ar.n] at ai ba I an aN hm aO ⊢
    subst ai ba an aN hm
    exact Rb k I
  · rw [ij,if_neg (by omega),if_neg (by omega),if_pos (by omega)]
    obtain ⟨cu,v,s,t,a,bQ⟩:=e
    simp only [ar.kind,ar.v,ar.s,ar.t,ar.a,ar.n] at ai ba I J aN hm aO ⊢
    subst ai ba aN hm
    exact Rc k I J
  · rw [ij,if_neg (by omega),if_neg (by omega),if_neg (by omega),if_pos (by omega)]
    obtain ⟨cu,v,s,t,a,bQ⟩:=e
    simp only [ar.kind,ar.v,ar.s,ar.t,ar.a,ar.n] at ai ba I J aN hm aO ⊢
    subst ai ba aN hm
    exact Re k I J
  · rw [ij,if_neg (by omega),if_neg (by omega),if_neg (by omega),if_neg (by omega),if_pos (by omega)]
    obtain ⟨cu,v,s,t,a,bQ⟩:=e
    simp only [ar.kind,ar.v,ar.s,ar.t,ar.a,ar.n] at ai ba aj an I hm aO ⊢
    subst ai ba aj an hm
    match a,I with
    |[x,y],_=>
     rw [Px]
     exact Hq (cs:=43) (c:=[43]) (.inl rfl) (aO x (by simp)) (aO y (by simp)) (BI (c:=43) (by decide) (by decide)) (.inl ⟨rfl,rfl⟩)
  · rw [ij,if_neg (by omega),if_neg (by omega),if_neg (by omega),if_neg (by omega),if_pos (by omega)]
    obtain ⟨cu,v,s,t,a,bQ⟩:=e
    simp only [ar.kind,ar.v,ar.s,ar.t,ar.a,ar.n] at ai ba aj an I hm aO ⊢
    subst ai ba aj an hm
    match a,I with
    |[x,y],_=>
     rw [Py]
     exact Hq (cs:=61) (c:=[61,61]) (.inr rfl) (aO x (by simp)) (aO y (by simp)) QW (.inr ⟨rfl,rfl⟩)
  · rw [ij,if_neg (by omega),if_neg (by omega),if_neg (by omega),if_neg (by omega),if_neg (by omega),if_pos (by omega)]
    obtain ⟨cu,v,s,t,a,bQ⟩:=e
    simp only [ar.kind,ar.v,ar.s,ar.t,ar.a,ar.n] at ai ba aj an I hm aO ⊢
    subst ai ba aj an hm
    match a,I with
    |[x,y,z],_=>exact Q8 (aO x (by simp)) (aO y (by simp)) (aO z (by simp))
  · rw [ij,if_neg (by omega),if_neg (by omega),if_neg (by omega),if_neg (by omega),if_neg (by omega),if_neg (by omega),if_pos (by omega)]
    obtain ⟨cu,v,s,t,a,bQ⟩:=e
    simp only [ar.kind,ar.v,ar.s,ar.t,ar.a,ar.n] at ai ba aj an hm aO ⊢
    subst ai ba aj an hm
    exact Rf aO
  · rw [ij,if_neg (by omega),if_neg (by omega),if_neg (by omega),if_neg (by omega),if_neg (by omega),if_neg (by omega),if_neg (by omega),if_pos (by omega)]
    obtain ⟨cu,v,s,t,a,bQ⟩:=e
    simp only [ar.kind,ar.v,ar.s,ar.t,ar.a,ar.n] at ai ba aj an I J aO ⊢
    subst ai ba aj an
    have ay:(bQ.zip a).map Prod.fst=bQ:=List.map_fst_zip (by omega)
    have az:(bQ.zip a).map Prod.snd=a:=List.map_snd_zip (by omega)
    have:=Rg (k:=k) (g:=bz qv) (es:=bQ.zip a) (fun p aB=>by
     obtain ⟨bZ,bo⟩:=List.of_mem_zip aB
     refine ⟨?_,aO _ bo⟩
     obtain ⟨i,ab,aS⟩:=List.getElem_of_mem bZ
     have:=(J i (by omega) (by omega)).1
     rw [u7 (x:=bQ[i]) (by omega) (by simp [ab]),aS] at this
     exact this) (by rw [ay];exact J)
    rw [ay,az] at this
    exact this
  · rw [ij,if_neg (by omega),if_neg (by omega),if_neg (by omega),if_neg (by omega),if_neg (by omega),if_neg (by omega),if_neg (by omega),if_neg (by omega),if_pos (by omega)]
    obtain ⟨cu,v,s,t,a,bQ⟩:=e
    simp only [ar.kind,ar.v,ar.s,ar.t,ar.a,ar.n] at ai ba I an J hm aO ⊢
    subst ai ba an hm
    match a,J with
    |[x],_=>exact Ra I (aO x (by simp))
def Rh (w:al) (e:ar):Prop:=∃bd:List (Int×al),fj pf w bd∧bd≠[]∧∀(l:List Tok) (n a:Int),fK l a bd→hN l n a= .ok e (a+bd.length)
theorem BJ {e:ar} (h:dm e=0):Rh (ik e) e:=by
 obtain ⟨I,_,J⟩:=sM h
 obtain ⟨bd,mf,⟨t,r,rfl,_⟩,mP⟩:=Hs (dN e+1) e 6 (Nat.lt_succ_self _) I (by omega)
 refine ⟨_,mf,List.cons_ne_nil _ _,fun l n a aj=>?_⟩
 rw [hN,mP l n a aj,eE,if_pos h]
end Go.Proofs
end
section
namespace Go.Proofs
open Go Go.bb Go.b4
set_option maxRecDepth 100000
def vj (w:al) (bd:List (Int×al)):Prop:=∀t r,bd=t::r→t=(1,w)
theorem xJ {w:al} (h:bJ w=true):fj jf (w++[32]) [(1,w)]:=(jJ h).app (k0 (c:=32) (.inl rfl)) fun _ _=>hQ (by decide) _
theorem xK:fj jf [10] []:=k0 (.inr rfl)
theorem Ri {l:List Tok} {n a b:Int} {v:a6} (ai:v.kind≤3) (ah:bH v=0) (h:hN l n a= .ok (gn v) b):oi l n a= .ok v b:=by
 have aB:oh v=true:=by unfold oh;simp [ai,ah]
 rw [oi,h,eE,if_pos ⟨rfl,aB⟩];rfl
theorem Rj {v:a6} (ai:v.kind≤3) (ah:bH v=0):dm (gn v)=0:=by
 have ao:gu (gn v)=1:=rfl
 have a7:hB (gn v)=1:=rfl
 rw [Gq ⟨by omega,by omega⟩]
 refine Gn ((sL _).2 ⟨.inl ⟨rfl,rfl,rfl,⟨ai,ah⟩,rfl,rfl⟩,?_⟩)
 show je [];simp only [je]
theorem Rk (v:a6):ik (gn v)=ib v:=by rw [ik,ij,if_pos (show (gn v).kind=1 from rfl)];rfl
section
theorem Ht:∀(ps:List (al×a6)),(∀p∈ps,bJ p.1=true∧p.2.kind≤3∧bH p.2=0)→∃bd:List (Int×al),fj jf (eV pd ps) bd∧ps.length≤bd.length∧vj [105,110,112,117,116] bd∧
 ∀(b6:Type) [Inhabited b6] (l:List Tok) (n a:Int) (aZ:Nat) (xs:List (al×a6)) (T:List (al×a6)→Int→bm b6),fK l a bd→ps.length<aZ→xs.length+ps.length≤8→¬bV l 1 [105,110,112,117,116] (a+bd.length)=true→lx l n T aZ a xs=T (xs++ps) (a+bd.length)
 |[],_=>by
  refine ⟨[],by rw [eV];exact xF,Nat.le_refl _,(fun t r e=>by cases e),fun b6 _ l n a aZ xs T _ aM _ an=>?_⟩
  obtain ⟨aZ,rfl⟩:∃k,aZ=k+1:=⟨aZ- 1,by omega⟩
  rw [show a+(([]:List (Int×al)).length:Int)=a by simp] at an ⊢
  rw [lx,if_neg an,List.append_nil]
 |p::r,h=>by
  obtain ⟨I,J,ak⟩:=h p (List.mem_cons_self ..)
  obtain ⟨e8,hO,rj,_,cN⟩:=Ht r fun y aE=>h y (List.mem_cons_of_mem _ aE)
  obtain ⟨hb,oj,_,pv⟩:=BJ (Rj J ak)
  rw [Rk] at oj
  refine ⟨(1,[105,110,112,117,116])::(1,p.1)::(4,[61])::(hb++e8),?_,by simp;omega,(fun t q e=>by injection e with e _;exact e.symm),fun b6 _ l n a aZ xs T aj aM cA an=>?_⟩
  · have:=(xJ (w:=[105,110,112,117,116]) (by decide+kernel)).app ((jJ I).app (Hf.app (oj.app (xK.app hO fun _ _=>trivial) fun _ _=>hQ (by decide) _) fun _ _=>trivial) fun _ _=>hQ (by decide) _) fun _ _=>trivial
    refine this.cast ?_ rfl
    rw [eV,pd];simp only [List.append_assoc];rfl
  · obtain ⟨aZ,rfl⟩:∃k,aZ=k+1:=⟨aZ- 1,by omega⟩
    obtain ⟨s1,s2⟩:=aj.2.2.2.2.2.2.app
    rw [List.length_cons] at cA aM
    have hlen:a+1+1+1+hb.length+e8.length=a+(((1,[105,110,112,117,116])::(1,p.1)::(4,[61])::(hb++e8):List (Int×al)).length:Int):=by simp only [List.length_cons,List.length_append];omega
    rw [lx,if_pos (hC aj (.inr rfl)),if_neg (by omega),Bv,gY aj.2.2 (.inl rfl),eE,gY aj.2.2.2.2 (.inr rfl),eE,Ri J ak (pv l n _ s1),eE,cN b6 l n _ aZ (xs++[(p.1,p.2)]) T s2 (by omega) (by simp;omega) (by rw [hlen];exact an),hlen,List.append_assoc]
    rfl
theorem Hu:∀(ps:List (al×ar)),(∀p∈ps,bJ p.1=true∧dm p.2=0)→∃bd:List (Int×al),fj jf (eV nC ps) bd∧ps.length≤bd.length∧vj [111,117,116,112,117,116] bd∧
 ∀(b6:Type) [Inhabited b6] (l:List Tok) (n a:Int) (aZ:Nat) (xs:List (al×ar)) (T:List (al×ar)→Int→bm b6),fK l a bd→ps.length<aZ→xs.length+ps.length≤8→¬bV l 1 [111,117,116,112,117,116] (a+bd.length)=true→lA l n T aZ a xs=T (xs++ps) (a+bd.length)
 |[],_=>by
  refine ⟨[],by rw [eV];exact xF,Nat.le_refl _,(fun t r e=>by cases e),fun b6 _ l n a aZ xs T _ aM _ an=>?_⟩
  obtain ⟨aZ,rfl⟩:∃k,aZ=k+1:=⟨aZ- 1,by omega⟩
  rw [show a+(([]:List (Int×al)).length:Int)=a by simp] at an ⊢
  rw [lA,if_neg an,List.append_nil]
 |p::r,h=>by
  obtain ⟨I,J⟩:=h p (List.mem_cons_self ..)
  obtain ⟨e8,hO,rj,_,cN⟩:=Hu r fun y aE=>h y (List.mem_cons_of_mem _ aE)
  obtain ⟨hb,oj,_,pv⟩:=BJ J
  refine ⟨(1,[111,117,116,112,117,116])::(1,p.1)::(4,[61])::(hb++e8),?_,by simp;omega,(fun t q e=>by injection e with e _;exact e.symm),fun b6 _ l n a aZ xs T aj aM cA an=>?_⟩
  · have:=(xJ (w:=[111,117,116,112,117,116]) (by decide+kernel)).app ((jJ I).app (Hf.app (oj.app (xK.app hO fun _ _=>trivial) fun _ _=>hQ (by decide) _) fun _ _=>trivial) fun _ _=>hQ (by decide) _) fun _ _=>trivial
    refine this.cast ?_ rfl
    rw [eV,nC];simp only [List.append_assoc];rfl
  · obtain ⟨aZ,rfl⟩:∃k,aZ=k+1:=⟨aZ- 1,by omega⟩
    obtain ⟨s1,s2⟩:=aj.2.2.2.2.2.2.app
    rw [List.length_cons] at cA aM
    have hlen:a+1+1+1+hb.length+e8.length=a+(((1,[111,117,116,112,117,116])::(1,p.1)::(4,[61])::(hb++e8):List (Int×al)).length:Int):=by simp only [List.length_cons,List.length_append];omega
    rw [lA,if_pos (hC aj (.inr rfl)),if_neg (by omega),Bw,gY aj.2.2 (.inl rfl),eE,gY aj.2.2.2.2 (.inr rfl),eE,pv l n _ s1,eE,cN b6 l n _ aZ (xs++[(p.1,p.2)]) T s2 (by omega) (by simp;omega) (by rw [hlen];exact an),hlen,List.append_assoc]
    rfl
theorem Rl {xs:List (al×ar)} {m:al} {r:List al} (h:jd (xs.map Prod.fst++m::r)):bJ m=true∧¬sQ xs m:=by
 have I:=Hl h
 refine ⟨I.1,fun ag=>I.2 ⟨by rw [List.length_map];exact ag.1,?_⟩⟩
 have:=ag.1
 rw [List.length_map,rh (f:=Prod.fst) (by omega) (by omega)]
 exact ag.2
theorem Hv:∀(ps:List (al×ar)) (b:Bool),(∀p∈ps,bJ p.1=true∧dm p.2=0)→∃bd:List (Int×al),fj jf (hP ps b++[32,125,10]) bd∧ps.length<bd.length∧
 ∀(b6:Type) [Inhabited b6] (l:List Tok) (n a:Int) (aZ:Nat) (xs:List (al×ar)) (T:List (al×ar)→Int→bm b6),fK l a bd→ps.length<aZ→(xs=[]↔b=true)→xs.length+ps.length≤6→jd (xs.map Prod.fst++ps.map Prod.fst)→jA l n T aZ a xs=T (xs++ps) (a+bd.length)
 |[],b,_=>by
  refine ⟨[(4,[125])],?_,by simp,fun b6 _ l n a aZ xs T aj aM _ _ _=>?_⟩
  · have:=(k0 (c:=32) (.inl rfl)).app ((j7 (c:=125) (by decide) (by decide)).app xK fun _ _=>trivial) fun _ _=>trivial
    exact this.cast (by rw [hP];rfl) rfl
  · obtain ⟨aZ,rfl⟩:∃k,aZ=k+1:=⟨aZ- 1,by omega⟩
    rw [jA,if_pos (hC aj (.inr rfl)),List.append_nil];rfl
 |p::r,b,h=>by
  obtain ⟨I,J⟩:=h p (List.mem_cons_self ..)
  obtain ⟨e8,hO,rj,cN⟩:=Hv r false fun y aE=>h y (List.mem_cons_of_mem _ aE)
  obtain ⟨hb,oj,_,pv⟩:=BJ J
  have Rm:∀q,pf (hP r false++[32,125,10]++q):=fun q=>by
   cases r with
   |nil=>rw [hP];exact hQ (by decide) _
   |cons x r=>rw [hP];exact hQ (by decide) _
  have qb:fj jf (([32]++p.1++[58,32])++ik p.2++(hP r false++[32,125,10])) ((1,p.1)::(4,[58])::(hb++e8)):=by
   have:=(k0 (c:=32) (.inl rfl)).app ((jJ I).app ((xH (c:=58) (by decide) (by decide)).app (oj.app hO fun q _=>Rm q) fun _ _=>trivial) fun _ _=>hQ (by decide) _) fun _ _=>trivial
   refine this.cast ?_ rfl
   simp only [List.append_assoc]
  have key:∀(b6:Type) [Inhabited b6] (l:List Tok) (n a:Int) (aZ:Nat) (xs:List (al×ar)) (T:List (al×ar)→Int→bm b6),fK l a ((1,p.1)::(4,[58])::(hb++e8))→r.length<aZ→xs.length+(r.length+1)≤6→jd (xs.map Prod.fst++(p::r).map Prod.fst)→
   ri l n (jA l n T aZ) xs a=T (xs++p::r) (a+((1,p.1)::(4,[58])::(hb++e8):List (Int×al)).length):=fun b6 _ l n a aZ xs T aj aM bw di=>by
   rw [List.map_cons] at di
   obtain ⟨s1,s2⟩:=aj.2.2.2.2.app
   rw [ri,if_neg (by omega),gY aj (.inl rfl),eE,vb,if_neg (Rl di).2,xw,gY aj.2.2 (.inr rfl),eE,pv l n _ s1,eE,cN b6 l n _ aZ (xs++[(p.1,p.2)]) T s2 aM (by simp) (by simp;omega) (by simpa using di),List.append_assoc]
   rw [show a+1+1+hb.length+e8.length=a+(((1,p.1)::(4,[58])::(hb++e8):List (Int×al)).length:Int) by simp only [List.length_cons,List.length_append];omega]
   rfl
  cases b with
  |true=>
   refine ⟨(1,p.1)::(4,[58])::(hb++e8),qb.cast (by rw [hP];simp only [List.append_assoc];rfl) rfl,by simp;omega,fun b6 _ l n a aZ xs T aj aM ao bw di=>?_⟩
   obtain ⟨aZ,rfl⟩:∃k,aZ=k+1:=⟨aZ- 1,by omega⟩
   rw [List.length_cons] at aM bw
   rw [jA,if_neg (j9 aj (by show (1:Int)≠4;decide)),jz,if_pos (ao.2 rfl)]
   exact key b6 l n a aZ xs T aj (by omega) bw di
  |false=>
   refine ⟨(4,[44])::(1,p.1)::(4,[58])::(hb++e8),((j7 (c:=44) (by decide) (by decide)).app qb fun _ _=>trivial).cast (by rw [hP];simp only [List.append_assoc];rfl) rfl,by simp;omega,fun b6 _ l n a aZ xs T aj aM ao bw di=>?_⟩
   obtain ⟨aZ,rfl⟩:∃k,aZ=k+1:=⟨aZ- 1,by omega⟩
   rw [List.length_cons] at aM bw
   rw [jA,if_neg (fL aj (by decide) (by decide)),jz,if_neg (fun c=>by have:=ao.1 c;cases this),gY aj (.inr rfl),eE,key b6 l n (a+1) aZ xs T aj.2.2 (by omega) bw di]
   congr 1
   simp only [List.length_cons];omega
structure qc (x:e7):Prop where
 k:bJ x.kind=true
 n:bJ x.name=true
 l:x.parts.length≤6
 p:∀p∈x.parts,bJ p.1=true∧dm p.2=0
 s:jd (x.parts.map Prod.fst)
theorem Rn {x:e7} (h:qc x):∃bd:List (Int×al),fj jf (kZ x) ((1,[114,101,115,111,117,114,99,101])::bd)∧∀(l:List Tok) (n a:Int),fK l a bd→ly l n a= .ok x (a+bd.length):=by
 obtain ⟨tp,dE,kI,pp⟩:=Hv x.parts true h.p
 refine ⟨(1,x.kind)::(1,x.name)::(4,[123])::tp,?_,fun l n a aj=>?_⟩
 · have:=(xJ (w:=[114,101,115,111,117,114,99,101]) (by decide+kernel)).app (((jJ h.k).app (k0 (c:=32) (.inl rfl)) fun _ _=>hQ (by decide) _).app ((jJ h.n).app ((k0 (c:=32) (.inl rfl)).app ((j7 (c:=123) (by decide) (by decide)).app dE fun _ _=>trivial) fun _ _=>trivial) fun _ _=>hQ (by decide) _) fun _ _=>trivial) fun _ _=>trivial
   refine this.cast ?_ rfl
   rw [kZ];simp only [List.append_assoc];rfl
 · have aJ:tp≠[]:=fun e=>by rw [e] at kI;simp at kI
   have av:=aj.2.2.2.2.2.2.len aJ
   rw [ly,gY aj (.inl rfl),eE,gY aj.2.2 (.inl rfl),eE,gY aj.2.2.2.2 (.inr rfl),eE,pp e7 l n _ (l.length+1) [] _ aj.2.2.2.2.2.2 (by omega) (by simp) (by have:=h.l;simp;omega) h.s]
   rw [List.nil_append]
   congr 1
   simp only [List.length_cons];omega
theorem Hw:∀(ps:List e7),(∀x∈ps,qc x)→∃bd:List (Int×al),fj jf (eV kZ ps) bd∧ps.length≤bd.length∧vj [114,101,115,111,117,114,99,101] bd∧
 ∀(b6:Type) [Inhabited b6] (l:List Tok) (n a:Int) (aZ:Nat) (xs:List e7) (T:List e7→Int→bm b6),fK l a bd→ps.length<aZ→xs.length+ps.length≤8→¬bV l 1 [114,101,115,111,117,114,99,101] (a+bd.length)=true→lz l n T aZ a xs=T (xs++ps) (a+bd.length)
 |[],_=>by
  refine ⟨[],by rw [eV];exact xF,Nat.le_refl _,(fun t r e=>by cases e),fun b6 _ l n a aZ xs T _ aM _ an=>?_⟩
  obtain ⟨aZ,rfl⟩:∃k,aZ=k+1:=⟨aZ- 1,by omega⟩
  rw [show a+(([]:List (Int×al)).length:Int)=a by simp] at an ⊢
  rw [lz,if_neg an,List.append_nil]
 |p::r,h=>by
  obtain ⟨hb,oj,pv⟩:=Rn (h p (List.mem_cons_self ..))
  obtain ⟨e8,hO,rj,_,cN⟩:=Hw r fun y aE=>h y (List.mem_cons_of_mem _ aE)
  refine ⟨(1,[114,101,115,111,117,114,99,101])::(hb++e8),by rw [eV];exact oj.app hO fun _ _=>trivial,by simp;omega,(fun t q e=>by injection e with e _;exact e.symm),fun b6 _ l n a aZ xs T aj aM cA an=>?_⟩
  obtain ⟨aZ,rfl⟩:∃k,aZ=k+1:=⟨aZ- 1,by omega⟩
  obtain ⟨s1,s2⟩:=aj.2.2.app
  rw [List.length_cons] at cA aM
  have hlen:a+1+hb.length+e8.length=a+(((1,[114,101,115,111,117,114,99,101])::(hb++e8):List (Int×al)).length:Int):=by simp only [List.length_cons,List.length_append];omega
  rw [lz,if_pos (hC aj (.inr rfl)),if_neg (by omega),pv l n _ s1,eE,cN b6 l n _ aZ (xs++[p]) T s2 (by omega) (by simp;omega) (by rw [hlen];exact an),hlen,List.append_assoc]
  rfl
end
structure om (s:df):Prop where
 n:bJ s.name=true
 li:s.ins.length≤8
 hO:s.res.length≤8
 bh:s.outs.length≤8
 i:∀p∈s.ins,bJ p.1=true∧p.2.kind≤3∧bH p.2=0
 r:∀x∈s.res,qc x
 o:∀p∈s.outs,bJ p.1=true∧dm p.2=0
theorem xL {l:List Tok} {a b:Int} {w v:al} {bd:List (Int×al)} (h:vj w bd) (aj:fK l a bd) (ba:v≠[]) (hw:w≠v) (ag:b=a+bd.length) (an:¬bV l 1 v b=true):¬bV l 1 v a=true:=by
 cases bd with
 |nil=>rw [ag] at an;simpa using an
 |cons t r=>
  have e:=h t r rfl
  subst e
  exact fL aj ba hw
theorem Ro {s:df} (h:om s):∃bd:List (Int×al),fj jf (im s) ((1,[115,116,97,99,107])::bd)∧
 ∀(l:List Tok) (n a:Int),fK l a ((1,[115,116,97,99,107])::bd)→(∀w∈[[105,110,112,117,116],[114,101,115,111,117,114,99,101],[111,117,116,112,117,116]],¬bV l 1 w (a+((1,[115,116,97,99,107])::bd:List (Int×al)).length)=true)→lB l n a= .ok s (a+((1,[115,116,97,99,107])::bd:List (Int×al)).length):=by
 obtain ⟨dp,li,ab,Tr,pi⟩:=Ht s.ins h.i
 obtain ⟨e8,hO,aw,BK,cN⟩:=Hw s.res h.r
 obtain ⟨to,bh,aD,Hx,Rp⟩:=Hu s.outs h.o
 refine ⟨(1,s.name)::(dp++(e8++to)),?_,fun l n a aj an=>?_⟩
 · have:=(xJ (w:=[115,116,97,99,107]) (by decide+kernel)).app ((jJ h.n).app (xK.app (li.app (hO.app bh fun _ _=>trivial) fun _ _=>trivial) fun _ _=>trivial) fun _ _=>hQ (by decide) _) fun _ _=>trivial
   refine this.cast ?_ rfl
   rw [im];simp only [List.append_assoc];rfl
 · have hlen:a+1+1+dp.length+e8.length+to.length=a+(((1,[115,116,97,99,107])::(1,s.name)::(dp++(e8++to)):List (Int×al)).length:Int):=by simp only [List.length_cons,List.length_append];omega
   have Rq:=aj.len (List.cons_ne_nil _ _)
   rw [←hlen] at an ⊢ Rq
   obtain ⟨s1,s2⟩:=aj.2.2.2.2.app
   obtain ⟨ht,mI⟩:=s2.app
   have f1:¬bV l 1 [105,110,112,117,116] (a+1+1+dp.length)=true:=xL BK ht (by decide) (by decide) rfl (xL Hx mI (by decide) (by decide) rfl (an _ (by simp)))
   have f2:¬bV l 1 [114,101,115,111,117,114,99,101] (a+1+1+dp.length+e8.length)=true:=xL Hx mI (by decide) (by decide) rfl (an _ (by simp))
   have g1:=h.li
   have g2:=h.hO
   have g3:=h.bh
   rw [lB,gY aj (.inr rfl),eE,gY aj.2.2 (.inl rfl),eE,pi df l n _ (l.length+1) [] _ s1 (by omega) (by simp;omega) f1]
   simp only [List.nil_append]
   rw [cN df l n _ (l.length+1) [] _ ht (by omega) (by simp;omega) f2]
   simp only [List.nil_append]
   rw [Rp df l n _ (l.length+1) [] _ mI (by omega) (by simp;omega) (an _ (by simp))]
   simp only [List.nil_append]
theorem Hy:∀(ss:List df),(∀s∈ss,om s)→∃bd:List (Int×al),fj jf (eV im ss) bd∧ss.length≤bd.length∧vj [115,116,97,99,107] bd∧
 ∀(l:List Tok) (n a:Int) (aZ:Nat) (xs:List df),0≤a→fK l a bd→a+bd.length=l.length→ss.length<aZ→xs.length+ss.length≤8→iM l n aZ a xs= .ok (xs++ss) (a+bd.length)
 |[],_=>by
  refine ⟨[],by rw [eV];exact xF,Nat.le_refl _,(fun t r e=>by cases e),fun l n a aZ xs _ _ he aM _=>?_⟩
  obtain ⟨aZ,rfl⟩:∃k,aZ=k+1:=⟨aZ- 1,by omega⟩
  rw [show a+(([]:List (Int×al)).length:Int)=a by simp] at he ⊢
  rw [iM,if_neg (by omega),List.append_nil]
 |s::r,h=>by
  obtain ⟨hb,oj,pv⟩:=Ro (h s (List.mem_cons_self ..))
  obtain ⟨e8,hO,rj,BK,cN⟩:=Hy r fun y aE=>h y (List.mem_cons_of_mem _ aE)
  refine ⟨((1,[115,116,97,99,107])::hb)++e8,by rw [eV];exact oj.app hO fun _ _=>trivial,by simp;omega,(fun t q e=>by injection e with e _;exact e.symm),fun l n a aZ xs aA aj he aM cA=>?_⟩
  obtain ⟨aZ,rfl⟩:∃k,aZ=k+1:=⟨aZ- 1,by omega⟩
  obtain ⟨s1,s2⟩:=aj.app
  rw [List.length_cons] at cA aM
  have hlen:a+((1,[115,116,97,99,107])::hb:List (Int×al)).length+e8.length=a+((((1,[115,116,97,99,107])::hb)++e8:List (Int×al)).length:Int):=by rw [List.length_append];omega
  have Hz:∀w:al,¬bV l 1 w (a+((1,[115,116,97,99,107])::hb:List (Int×al)).length+e8.length)=true:=fun w c=>by
   have:=hi c;omega
  have js:(0:Int)<((1,[115,116,97,99,107])::hb:List (Int×al)).length:=by rw [List.length_cons];omega
  rw [iM,if_pos (by omega),if_neg (by omega),pv l n a s1 (fun w hw=>by
   simp only [List.mem_cons,List.not_mem_nil,or_false] at hw
   rcases hw with rfl|rfl|rfl<;>exact xL BK s2 (by decide) (by decide) rfl (Hz _)),eE,cN l n _ aZ (xs++[s]) (by omega) s2 (by omega) (by omega) (by simp;omega),hlen,List.append_assoc]
  rfl
theorem HA {l:List (al×ar)} (h:kW l=0):jd (l.map Prod.fst):=by
 have g:∀(n:Nat) (i:Int),0≤i→jI l n i=0→∀j:Int,i≤j→j<i+n→bJ (U l j).1=true∧(0<j→Op.bytesLess (U l (j- 1)).1 (U l j).1=true):=fun n=>by
  induction n with
  |zero=>intro i _ _ j I J;omega
  |succ n aO=>
   intro i aA h j I J
   rw [jI] at h
   split at h
   · rename_i c0
     split at h
     · rcases Int.lt_or_le i j with q|q
       · exact aO (i+1) (by omega) h j (by omega) (by omega)
       · rw [show j=i by omega];exact c0
     · rename_i c;exact absurd h c
   · cases h
 intro i aA ab
 rw [List.length_map] at ab
 have:=g l.length 0 (Int.le_refl _) h i aA (by omega)
 rw [rh (f:=Prod.fst) aA ab]
 refine ⟨this.1,fun aB=>?_⟩
 rw [rh (f:=Prod.fst) (by omega) (by omega)]
 exact this.2 aB
theorem Rr {l:List (al×ar)} (h:kW l=0):∀p∈l,bJ p.1=true∧dm p.2=0:=fun p aB=>by
 refine ⟨?_,Bu h p aB⟩
 obtain ⟨k,ai,rfl⟩:=List.getElem_of_mem aB
 have:=(HA h (k:Int) (by omega) (by rw [List.length_map];omega)).1
 rw [rh (f:=Prod.fst) (by omega) (by omega)] at this
 simpa [U,List.getD_eq_getElem?_getD,ai] using this
theorem HB:∀{l:List (al×a6)},me l=0→∀p∈l,bJ p.1=true∧p.2.kind≤3∧bH p.2=0
 |[],_,p,aB=>by cases aB
 |x::r,h,p,aB=>by
  rw [me] at h
  split at h
  · rename_i c
    rcases List.mem_cons.1 aB with rfl|aB
    · exact c
    · exact HB h p aB
  · cases h
theorem HC:∀{l:List e7},kX l=0→∀x∈l,qc x
 |[],_,p,aB=>by cases aB
 |y::r,h,x,ao=>by
  rw [kX] at h
  split at h
  · rename_i c0
    split at h
    · cases h
    · rename_i c
      split at h
      · rename_i c2
        rcases List.mem_cons.1 ao with rfl|ao
        · exact ⟨c0.1,c0.2,by omega,Rr c2,HA c2⟩
        · exact HC h x ao
      · rename_i c2;exact absurd h c2
  · cases h
theorem HD:∀{l:List (al×ar)},kY l=0→∀p∈l,bJ p.1=true∧dm p.2=0
 |[],_,p,aB=>by cases aB
 |x::r,h,p,aB=>by
  rw [kY] at h
  split at h
  · rename_i c0
    split at h
    · rename_i c
      rcases List.mem_cons.1 aB with rfl|aB
      · exact ⟨c0,c⟩
      · exact HD h p aB
    · rename_i c;exact absurd h c
  · cases h
theorem HE {s:df} (h:fW s=0):om s:=by
 have aj:=GP h
 unfold fW at h
 split at h
 · cases h
 · rename_i c0
   split at h
   · cases h
   · unfold p6 at h
     split at h
     · rename_i c2;exact absurd h c2
     · rename_i c2
       unfold p5 at h
       split at h
       · rename_i c3;exact absurd h c3
       · rename_i c3
         exact ⟨by simpa using c0,aj.li,aj.hO,aj.bh,HB (by simpa using c2),HC (by simpa using c3),HD h⟩
theorem BL:∀{l:List df},gL l=0→∀s∈l,fW s=0
 |[],_,s,aj=>by cases aj
 |x::r,h,s,aj=>by
  rw [gL] at h
  split at h
  · rename_i c
    rcases List.mem_cons.1 aj with rfl|aj
    · exact c
    · exact BL h s aj
  · rename_i c;exact absurd h c
theorem BM {ss:List df} (h:(fi ss).2=0):dS (fi ss).1=(ss,0,0):=by
 have key:(ss.length:Int)≤8∧gL ss=0∧((eV im ss).length:Int)≤4000:=by
  rw [fi] at h
  split at h
  · cases h
  · split at h
    · split at h
      · cases h
      · exact ⟨by omega,by assumption,by omega⟩
    · exact absurd h (by assumption)
 obtain ⟨cA,he,aH⟩:=key
 rw [fi,if_neg (by omega),if_pos he,if_neg (by omega)]
 obtain ⟨bd,qu,av,_,vi⟩:=Hy ss fun s aj=>HE (BL he s aj)
 obtain ⟨fa,eg⟩:=QZ qu trivial (by omega)
 have Ts:(dL (eV im ss)).1.length=bd.length:=by rw [←fa,List.length_map]
 have ao:sU (eV im ss)= .ok ss (bd.length:Int):=by
  rw [sU,vi _ _ 0 _ [] (Int.le_refl _) (Q0 fa) (by omega) (by omega) (by simp;omega)]
  simp
 show dS (eV im ss)=_
 rw [dS,ao,eg];rfl
end Go.Proofs
end
