import Derived.Test.YtnahenbiipdlkaaGreatDoorSa4
import Derived.Test.YtnahenbiipdlkaaGreatDoorWl2
import Derived.Test.YtnahenbiipdlkaaGreatDoorWzG
import Derived.Test.YtnahenbiipdlkaaGreatDoorSv4
section
namespace Go.Proofs
open Go Go.bh Go.bS
set_option maxRecDepth 100000
theorem y1 {n:Int} (aq:0≤n) (I:n≤18446744073709551615):(Lib.itoa n).length≤20:=by
 rw [Lib.itoa,if_neg (by omega)];exact LV (by omega)
def BK (h:gh):Prop:=bq h.attrs≤1000000000∧-9223372036854775808≤h.id∧h.id≤9223372036854775807
structure p1 (s:dr):Prop where
 h:∀x∈s.held,BK x
 i:∀x∈s.ints,BK x.held∧x.tok.length≤140737488355328
 o:∀p∈s.outs,bq p.2≤1000000000
set_option maxHeartbeats 4000000 in
theorem FV (s:dr) (b4:p1 s) (m:ad) (K:R→ad→Prop) (aJ:cY m) (U:K (.tuple [.str (if cp s=0 then dy s else []), .err 115 (cp s)]) m):bn Tryz.prog 37 [gR s] m K:=by
 refine enter (c:=cP [] [] [] [14014] [] []) (vs:=[.aK (gR s)]) (L:=[]) (m:=m) true cc Tryz.mixed Tryz.func37 rfl (k:=1) (by show cJ [14014] _ _ _=true;decide+kernel) rfl (Good.nil m) ?_
 refine ct (fun _=>Ma s) rfl ?_
 refine aZ ?_
 refine an (fun I=>?_) (fun I=>?_)
 · have ps:=FR I
   have px:=Mf ps (fun x ah=>(b4.h x ah).2.2) (fun x ah=>(b4.i x ah).1.2.2)
   have l5:=ps.s1
   have mG:=ps.s2
   have gH:=nF (n:=s.cZ) (by omega) (by omega)
   have XC:=ps.FP
   have XD:=ps.li
   have km:=ps.bD
   refine aG (eb:=5) Bh.choose_spec.1 Bh.choose_spec.2 rfl ?_
   refine fQ [] [] (bf (Lib.itoa s.cZ)) rfl (fun bs az gd ao=>fun K U=>Bg s.cZ (by omega) (by omega) az (cY.up ao aJ) K U) ?_
   refine an (by first|omega|(simp only [List.length_append,List.length_cons,List.length_nil];omega)) ?_
   refine an (by first|omega|(simp only [List.length_append,List.length_cons,List.length_nil];omega)) ?_
   refine fE [1] [.obj (.en 112 5 ((([]:ak)++((([115,101,114,105,97,108,32]:List UInt8)++(Lib.itoa s.cZ))++([10]:List UInt8))).map cB))] (.aK (.tuple [.int .i64 (((([115,101,114,105,97,108,32]:List UInt8)++(Lib.itoa s.cZ))++([10]:List UInt8)).length:Int), .nilIface])) rfl (fun bs az gd=>mu (bs.getD 1 0) ([]:ak) ((([115,101,114,105,97,108,32]:List UInt8)++(Lib.itoa s.cZ))++([10]:List UInt8)) (by first|omega|(simp only [List.length_append,List.length_cons,List.length_nil];omega)) az) ?_
   refine aZ ?_
   refine dq ?_
   refine ev (σ:=Int×ak) [] [1,5,27,28,29] 2 (fun ⟨i,h7⟩=>([(1, .loc 0 0),(5, .loc 1 0),(27,bj (s.held.map ea)),(28,aw (s.held.length:Int)),(29,aw i)],[.cells [aw s.cZ,bj (s.held.map ea),bj (s.ints.map fh),bj (s.outs.map bB)], .obj (.en 112 5 (h7.map cB))],m)) (fun ⟨i,h7⟩=>0≤i∧i≤s.held.length∧hB s=h7++(gS mz (s.held.drop i.toNat)++gS lz s.ints++gS kL s.outs)) (fun ⟨i,h7⟩=>s.held.length- i.toNat) (0,([]:ak)++((([115,101,114,105,97,108,32]:List UInt8)++(Lib.itoa s.cZ))++([10]:List UInt8))) ⟨rfl,rfl⟩ ?_ ?_
   · try dsimp only
     exact ⟨by omega,by omega,by simp only [hB,List.append_assoc];rfl⟩
   rintro ⟨i,h7⟩ aM
   dsimp only at aM
   obtain ⟨z0,XE,bp⟩:=aM
   have o8:=congrArg List.length bp
   simp only [List.length_append,List.length_cons,List.length_nil] at o8
   refine aZ ?_
   refine an (fun J=>?_) (fun J=>?_)
   · have ah:=ps.h _ (ch z0 J)
     have iP:=ah.1
     have mo:=(b4.h _ (ch z0 J)).2.2
     have jl:=wC iP mo
     have ag:=wA mz z0 J
     refine aZ ?_
     refine fP (by omega) ?_
     refine fQ [] [] (bf (fT (aa s.held i))) rfl (fun bs az gd ao=>fun K U=>Mh (aa s.held i) iP mo az K (cY.up ao aJ) U) ?_
     refine an (by first|omega|(simp only [List.length_append,List.length_cons,List.length_nil];omega)) ?_
     refine an (by first|omega|(simp only [List.length_append,List.length_cons,List.length_nil];omega)) ?_
     refine fE [1] [.obj (.en 112 5 ((h7++((([104,101,108,100,32]:List UInt8)++(fT (aa s.held i)))++([10]:List UInt8))).map cB))] (.aK (.tuple [.int .i64 (((([104,101,108,100,32]:List UInt8)++(fT (aa s.held i)))++([10]:List UInt8)).length:Int), .nilIface])) rfl (fun bs az gd=>mu (bs.getD 1 0) h7 ((([104,101,108,100,32]:List UInt8)++(fT (aa s.held i)))++([10]:List UInt8)) (by first|omega|(simp only [List.length_append,List.length_cons,List.length_nil];omega)) az) ?_
     refine an (by omega) ?_
     refine ⟨(i+1,h7++((([104,101,108,100,32]:List UInt8)++(fT (aa s.held i)))++([10]:List UInt8))),⟨rfl,rfl⟩,?_,?_⟩
     · try dsimp only
       exact ⟨by omega,by omega,by rw [bp,ag];simp only [mz,List.append_assoc]⟩
     try dsimp only
     omega
   refine aZ ?_
   refine dq ?_
   refine ev (σ:=Int×ak) [] [1,5,40,41,42] 2 (fun ⟨i1,cH⟩=>([(1, .loc 0 0),(5, .loc 1 0),(40,bj (s.ints.map fh)),(41,aw (s.ints.length:Int)),(42,aw i1)],[.cells [aw s.cZ,bj (s.held.map ea),bj (s.ints.map fh),bj (s.outs.map bB)], .obj (.en 112 5 (cH.map cB))],m)) (fun ⟨i1,cH⟩=>0≤i1∧i1≤s.ints.length∧hB s=cH++(gS lz (s.ints.drop i1.toNat)++gS kL s.outs)) (fun ⟨i1,cH⟩=>s.ints.length- i1.toNat) (0,h7) ⟨rfl,rfl⟩ ?_ ?_
   · try dsimp only
     exact ⟨by omega,by omega,by rw [bp,wB mz (by omega)];rfl⟩
   rintro ⟨i1,cH⟩ cg
   dsimp only at cg
   obtain ⟨kz,jB,ax⟩:=cg
   have yU:=congrArg List.length ax
   simp only [List.length_append,List.length_cons,List.length_nil] at yU
   refine aZ ?_
   refine an (fun ai=>?_) (fun ai=>?_)
   · have ah:=ps.i _ (ch kz ai)
     obtain ⟨iP,XF,XG,vW⟩:=ah
     have mo:=(b4.i _ (ch kz ai)).1.2.2
     have jl:=wC iP mo
     have vC:=FT vW
     have qQ:=nF (n:=(aa s.ints i1).op) (by omega) (by omega)
     have ag:=wA lz kz ai
     refine aZ ?_
     refine fP (by omega) ?_
     refine A4 (x:= .str (Lib.itoa ((aa s.ints i1).op))) (fun bs az ao=>fun K U=>Bg ((aa s.ints i1).op) (by omega) (by omega) az (cY.up ao aJ) K U) ?_
     refine an (by first|omega|(simp only [List.length_append,List.length_cons,List.length_nil];omega)) ?_
     refine an (by first|omega|(simp only [List.length_append,List.length_cons,List.length_nil];omega)) ?_
     refine an (by first|omega|(simp only [List.length_append,List.length_cons,List.length_nil];omega)) ?_
     refine an (by first|omega|(simp only [List.length_append,List.length_cons,List.length_nil];omega)) ?_
     refine A4 (x:= .str (fT ((aa s.ints i1).held))) (fun bs az ao=>fun K U=>Mh ((aa s.ints i1).held) iP mo az K (cY.up ao aJ) U) ?_
     refine an (by first|omega|(simp only [List.length_append,List.length_cons,List.length_nil];omega)) ?_
     refine an (by first|omega|(simp only [List.length_append,List.length_cons,List.length_nil];omega)) ?_
     refine fE [1] [.obj (.en 112 5 ((cH++((((((([105,110,116,101,110,116,32]:List UInt8)++(Lib.itoa ((aa s.ints i1).op)))++([32]:List UInt8))++((aa s.ints i1).tok))++([32]:List UInt8))++(fT ((aa s.ints i1).held)))++([10]:List UInt8))).map cB))] (.aK (.tuple [.int .i64 (((((((([105,110,116,101,110,116,32]:List UInt8)++(Lib.itoa ((aa s.ints i1).op)))++([32]:List UInt8))++((aa s.ints i1).tok))++([32]:List UInt8))++(fT ((aa s.ints i1).held)))++([10]:List UInt8)).length:Int), .nilIface])) rfl (fun bs az gd=>mu (bs.getD 1 0) cH ((((((([105,110,116,101,110,116,32]:List UInt8)++(Lib.itoa ((aa s.ints i1).op)))++([32]:List UInt8))++((aa s.ints i1).tok))++([32]:List UInt8))++(fT ((aa s.ints i1).held)))++([10]:List UInt8)) (by first|omega|(simp only [List.length_append,List.length_cons,List.length_nil];omega)) az) ?_
     refine an (by omega) ?_
     refine ⟨(i1+1,cH++((((((([105,110,116,101,110,116,32]:List UInt8)++(Lib.itoa ((aa s.ints i1).op)))++([32]:List UInt8))++((aa s.ints i1).tok))++([32]:List UInt8))++(fT ((aa s.ints i1).held)))++([10]:List UInt8))),⟨rfl,rfl⟩,?_,?_⟩
     · try dsimp only
       exact ⟨by omega,by omega,by rw [ax,ag];simp only [lz,List.append_assoc]⟩
     try dsimp only
     omega
   refine aZ ?_
   refine dq ?_
   refine ev (σ:=Int×ak) [] [5,63,64,65] 2 (fun ⟨i2,dO⟩=>([(5, .loc 1 0),(63,bj (s.outs.map bB)),(64,aw (s.outs.length:Int)),(65,aw i2)],[.cells [aw s.cZ,bj (s.held.map ea),bj (s.ints.map fh),bj (s.outs.map bB)], .obj (.en 112 5 (dO.map cB))],m)) (fun ⟨i2,dO⟩=>0≤i2∧i2≤s.outs.length∧hB s=dO++gS kL (s.outs.drop i2.toNat)) (fun ⟨i2,dO⟩=>s.outs.length- i2.toNat) (0,cH) ⟨rfl,rfl⟩ ?_ ?_
   · try dsimp only
     exact ⟨by omega,by omega,by rw [ax,wB lz (by omega)];rfl⟩
   rintro ⟨i2,dO⟩ jz
   dsimp only at jz
   obtain ⟨z2,gq,aI⟩:=jz
   have q0:=congrArg List.length aI
   simp only [List.length_append,List.length_cons,List.length_nil] at q0
   refine aZ ?_
   refine an (fun aC=>?_) (fun aC=>?_)
   · have ah:=ps.o _ (ch z2 aC)
     have oG:=ah.2
     have rB:=rn oG
     have sD:=rB
     unfold eJ at sD
     have hq:=pb ah.1
     have ag:=wA kL z2 aC
     refine aZ ?_
     refine e0 gA fI (by omega) ?_
     refine fQ [] [] (.aK (.tuple [.str (eJ ((aa s.outs i2).2)), .err 115 0])) rfl (fun bs az gd ao=>fun K U=>Lt ((aa s.outs i2).2) oG az K (cY.up ao aJ) U) ?_
     refine an (by first|omega|(simp only [List.length_append,List.length_cons,List.length_nil];omega)) ?_
     refine an (by first|omega|(simp only [List.length_append,List.length_cons,List.length_nil];omega)) ?_
     refine an (by first|omega|(simp only [List.length_append,List.length_cons,List.length_nil];omega)) ?_
     refine an (by first|omega|(simp only [List.length_append,List.length_cons,List.length_nil];omega)) ?_
     refine fE [1] [.obj (.en 112 5 ((dO++((((([111,117,116,32]:List UInt8)++((aa s.outs i2).1))++([32]:List UInt8))++(eJ ((aa s.outs i2).2)))++([10]:List UInt8))).map cB))] (.aK (.tuple [.int .i64 (((((([111,117,116,32]:List UInt8)++((aa s.outs i2).1))++([32]:List UInt8))++(eJ ((aa s.outs i2).2)))++([10]:List UInt8)).length:Int), .nilIface])) rfl (fun bs az gd=>mu (bs.getD 1 0) dO ((((([111,117,116,32]:List UInt8)++((aa s.outs i2).1))++([32]:List UInt8))++(eJ ((aa s.outs i2).2)))++([10]:List UInt8)) (by first|omega|(simp only [List.length_append,List.length_cons,List.length_nil];omega)) az) ?_
     refine an (by omega) ?_
     refine ⟨(i2+1,dO++((((([111,117,116,32]:List UInt8)++((aa s.outs i2).1))++([32]:List UInt8))++(eJ ((aa s.outs i2).2)))++([10]:List UInt8))),⟨rfl,rfl⟩,?_,?_⟩
     · try dsimp only
       exact ⟨by omega,by omega,by rw [aI,ag];simp only [kL,List.append_assoc]⟩
     try dsimp only
     omega
   have hw:hB s=dO:=by rw [aI,wB kL (by omega),List.append_nil]
   have FL:=y1 (na dO).1 (na dO).2
   refine fE [1] [.cells [.aK (.aP), .aK (.aP)]] (bf dO) rfl (fun bs az gd=>Ku (bs.getD 1 0) dO az) ?_
   refine an (by first|omega|(simp only [List.length_append,List.length_cons,List.length_nil];omega)) ?_
   refine ct (fun _=>Kk dO) rfl ?_
   refine fQ [] [] (bf (Lib.itoa (jt dO))) rfl (fun bs az gd ao=>fun K U=>Mg (jt dO) (na _).1 (na _).2 az (cY.up ao aJ) K U) ?_
   refine an (by first|omega|(simp only [List.length_append,List.length_cons,List.length_nil];omega)) ?_
   refine an (by first|omega|(simp only [List.length_append,List.length_cons,List.length_nil];omega)) ?_
   refine bt rfl fun _=>?_
   show K (.tuple [.str (((dO++([115,117,109,32]:List UInt8))++(Lib.itoa (jt dO)))++([10]:List UInt8)), .err 115 0]) m
   rw [if_pos I,I,dy,hw] at U
   exact U
 refine bt rfl fun _=>?_
 show K (.tuple [.str ([]), .err 115 (cp s)]) m
 rw [if_neg I] at U
 exact U
set_option maxHeartbeats 4000000 in
theorem XH (s:dr) (b4:p1 s) (I:cp s=0) (m:ad) (K:R→ad→Prop) (U:K (.str (dy s)) m):bn Tryz.prog 39 [gR s] m K:=by
 have ps:=FR I
 have px:=Mf ps (fun x ah=>(b4.h x ah).2.2) (fun x ah=>(b4.i x ah).1.2.2)
 have l5:=ps.s1
 have mG:=ps.s2
 have gH:=nF (n:=s.cZ) (by omega) (by omega)
 have XC:=ps.FP
 have XD:=ps.li
 have km:=ps.bD
 refine enter (c:=cP [] [] [] [] [] []) (vs:=[.aK (gR s)]) (L:=[]) (m:=m) false cc Tryz.mixed Tryz.func39 rfl (k:=1) (by show cJ [] _ _ _=true;decide+kernel) rfl (Good.nil m) ?_
 refine ct (fun _=>Bf s.cZ (by omega) (by omega)) rfl ?_
 refine an (by first|omega|(simp only [List.length_append,List.length_cons,List.length_nil];omega)) ?_
 refine an (by first|omega|(simp only [List.length_append,List.length_cons,List.length_nil];omega)) ?_
 refine aZ ?_
 refine ev (σ:=(List UInt8)×Int) [] [1,3,4] 1 (fun ⟨h7,i⟩=>([(1, .loc 0 0),(3,bf h7),(4,aw i)],[.cells [aw s.cZ,bj (s.held.map ea),bj (s.ints.map fh),bj (s.outs.map bB)]],m)) (fun ⟨h7,i⟩=>0≤i∧i≤s.held.length∧hB s=h7++(gS mz (s.held.drop i.toNat)++gS lz s.ints++gS kL s.outs)) (fun ⟨h7,i⟩=>s.held.length- i.toNat) ((([115,101,114,105,97,108,32]:List UInt8)++(Lib.itoa s.cZ))++([10]:List UInt8),0) ⟨rfl,rfl⟩ ?_ ?_
 · try dsimp only
   exact ⟨by omega,by omega,by simp only [hB,List.append_assoc];rfl⟩
 rintro ⟨h7,i⟩ aM
 dsimp only at aM
 obtain ⟨z0,XE,bp⟩:=aM
 have o8:=congrArg List.length bp
 simp only [List.length_append,List.length_cons,List.length_nil] at o8
 refine aZ ?_
 refine dq ?_
 refine an (fun I=>?_) (fun I=>?_)
 · have ah:=ps.h _ (ch z0 I)
   have iP:=ah.1
   have mo:=(b4.h _ (ch z0 I)).2.2
   have jl:=wC iP mo
   have ag:=wA mz z0 I
   refine aZ ?_
   refine an (by first|omega|(simp only [List.length_append,List.length_cons,List.length_nil];omega)) ?_
   refine fP (by omega) ?_
   refine ct (fun _=>Mi (aa s.held i) iP mo) rfl ?_
   refine an (by first|omega|(simp only [List.length_append,List.length_cons,List.length_nil];omega)) ?_
   refine an (by first|omega|(simp only [List.length_append,List.length_cons,List.length_nil];omega)) ?_
   refine an (by omega) ?_
   refine ⟨(((h7++([104,101,108,100,32]:List UInt8))++(fT (aa s.held i)))++([10]:List UInt8),i+1),⟨rfl,rfl⟩,?_,?_⟩
   · try dsimp only
     exact ⟨by omega,by omega,by rw [bp,ag];simp only [mz,List.append_assoc]⟩
   try dsimp only
   omega
 refine aZ ?_
 refine ev (σ:=(List UInt8)×Int) [] [1,3,5] 1 (fun ⟨cH,i1⟩=>([(1, .loc 0 0),(3,bf cH),(5,aw i1)],[.cells [aw s.cZ,bj (s.held.map ea),bj (s.ints.map fh),bj (s.outs.map bB)]],m)) (fun ⟨cH,i1⟩=>0≤i1∧i1≤s.ints.length∧hB s=cH++(gS lz (s.ints.drop i1.toNat)++gS kL s.outs)) (fun ⟨cH,i1⟩=>s.ints.length- i1.toNat) (h7,0) ⟨rfl,rfl⟩ ?_ ?_
 · try dsimp only
   exact ⟨by omega,by omega,by rw [bp,wB mz (by omega)];rfl⟩
 rintro ⟨cH,i1⟩ cg
 dsimp only at cg
 obtain ⟨kz,jB,ax⟩:=cg
 have yU:=congrArg List.length ax
 simp only [List.length_append,List.length_cons,List.length_nil] at yU
 refine aZ ?_
 refine dq ?_
 refine an (fun J=>?_) (fun J=>?_)
 · have ah:=ps.i _ (ch kz J)
   obtain ⟨iP,XF,XG,vW⟩:=ah
   have mo:=(b4.i _ (ch kz J)).1.2.2
   have jl:=wC iP mo
   have vC:=FT vW
   have qQ:=nF (n:=(aa s.ints i1).op) (by omega) (by omega)
   have ag:=wA lz kz J
   refine aZ ?_
   refine fP (by omega) ?_
   refine an (by first|omega|(simp only [List.length_append,List.length_cons,List.length_nil];omega)) ?_
   refine hx (fun _=>Bf ((aa s.ints i1).op) (by omega) (by omega)) ?_
   refine an (by first|omega|(simp only [List.length_append,List.length_cons,List.length_nil];omega)) ?_
   refine an (by first|omega|(simp only [List.length_append,List.length_cons,List.length_nil];omega)) ?_
   refine an (by first|omega|(simp only [List.length_append,List.length_cons,List.length_nil];omega)) ?_
   refine an (by first|omega|(simp only [List.length_append,List.length_cons,List.length_nil];omega)) ?_
   refine hx (fun _=>Mi ((aa s.ints i1).held) iP mo) ?_
   refine an (by first|omega|(simp only [List.length_append,List.length_cons,List.length_nil];omega)) ?_
   refine an (by first|omega|(simp only [List.length_append,List.length_cons,List.length_nil];omega)) ?_
   refine an (by omega) ?_
   refine ⟨(((((((cH++([105,110,116,101,110,116,32]:List UInt8))++(Lib.itoa ((aa s.ints i1).op)))++([32]:List UInt8))++((aa s.ints i1).tok))++([32]:List UInt8))++(fT ((aa s.ints i1).held)))++([10]:List UInt8),i1+1),⟨rfl,rfl⟩,?_,?_⟩
   · try dsimp only
     exact ⟨by omega,by omega,by rw [ax,ag];simp only [lz,List.append_assoc]⟩
   try dsimp only
   omega
 refine aZ ?_
 refine ev (σ:=(List UInt8)×Int) [] [1,3,7] 1 (fun ⟨dO,i2⟩=>([(1, .loc 0 0),(3,bf dO),(7,aw i2)],[.cells [aw s.cZ,bj (s.held.map ea),bj (s.ints.map fh),bj (s.outs.map bB)]],m)) (fun ⟨dO,i2⟩=>0≤i2∧i2≤s.outs.length∧hB s=dO++gS kL (s.outs.drop i2.toNat)) (fun ⟨dO,i2⟩=>s.outs.length- i2.toNat) (cH,0) ⟨rfl,rfl⟩ ?_ ?_
 · try dsimp only
   exact ⟨by omega,by omega,by rw [ax,wB lz (by omega)];rfl⟩
 rintro ⟨dO,i2⟩ jz
 dsimp only at jz
 obtain ⟨z2,gq,aI⟩:=jz
 have q0:=congrArg List.length aI
 simp only [List.length_append,List.length_cons,List.length_nil] at q0
 refine aZ ?_
 refine dq ?_
 refine an (fun ai=>?_) (fun ai=>?_)
 · have ah:=ps.o _ (ch z2 ai)
   have oG:=ah.2
   have rB:=rn oG
   have sD:=rB
   unfold eJ at sD
   have hq:=pb ah.1
   have ag:=wA kL z2 ai
   refine aZ ?_
   refine an (by first|omega|(simp only [List.length_append,List.length_cons,List.length_nil];omega)) ?_
   refine e0 gA fI (by omega) ?_
   refine an (by first|omega|(simp only [List.length_append,List.length_cons,List.length_nil];omega)) ?_
   refine an (by first|omega|(simp only [List.length_append,List.length_cons,List.length_nil];omega)) ?_
   refine e0 gA fI (by omega) ?_
   refine hx (fun _=>Fb (bq ((aa s.outs i2).2)+1) ((aa s.outs i2).2) (Nat.lt_succ_self _) (om oG).1 (by have:=rn oG;unfold eJ at this;omega)) ?_
   refine an (by first|omega|(simp only [List.length_append,List.length_cons,List.length_nil];omega)) ?_
   refine an (by first|omega|(simp only [List.length_append,List.length_cons,List.length_nil];omega)) ?_
   refine an (by omega) ?_
   refine ⟨(((((dO++([111,117,116,32]:List UInt8))++((aa s.outs i2).1))++([32]:List UInt8))++(eJ ((aa s.outs i2).2)))++([10]:List UInt8),i2+1),⟨rfl,rfl⟩,?_,?_⟩
   · try dsimp only
     exact ⟨by omega,by omega,by rw [aI,ag];simp only [kL,List.append_assoc]⟩
   try dsimp only
   omega
 have hw:hB s=dO:=by rw [aI,wB kL (by omega),List.append_nil]
 have FL:=y1 (na dO).1 (na dO).2
 refine an (by first|omega|(simp only [List.length_append,List.length_cons,List.length_nil];omega)) ?_
 refine ct (fun _=>Ux dO) rfl ?_
 refine ct (fun _=>XB (jt dO) (na _).1 (na _).2) rfl ?_
 refine an (by first|omega|(simp only [List.length_append,List.length_cons,List.length_nil];omega)) ?_
 refine an (by first|omega|(simp only [List.length_append,List.length_cons,List.length_nil];omega)) ?_
 refine bt rfl fun _=>?_
 show K (.str (((dO++([115,117,109,32]:List UInt8))++(Lib.itoa (jt dO)))++([10]:List UInt8))) m
 rw [dy,hw] at U
 exact U
end Go.Proofs
end
section
namespace Go.Proofs
open Go Go.bh Go.bS
set_option maxRecDepth 100000
def la (f:aD→aR×Bool):List aD→List aR→aR×Bool
 |[],cV=>(.mk 4 0 [] cV [],true)
 |x::r,cV=>if (f x).2=true then la f r (cV++[(f x).1]) else (cK,false)
def ki (f:aD→aR×Bool):List aD→List ak→List (ak×aR)→aR×Bool
 |[],_,cV=>(.mk 5 0 [] [] cV,true)
 |_::_,[],_=>(cK,false)
 |x::r,m::bV,cV=>if (f x).2=true then ki f r bV (cV++[(m,(f x).1)]) else (cK,false)
def dm:Nat→aD→aR×Bool
 |0,_=>(cK,false)
 |k+1,e=>if e.kind=1 then (e.v,true) else if e.kind=8 then la (dm k) e.a [] else if e.kind=9 then ki (dm k) e.a e.n [] else (cK,false)
theorem Mk {f:aD→aR×Bool} {l:List aD} {i:Int} {cV:List aR} (aq:0≤i) (ab:i<l.length):la f (l.drop i.toNat) cV=if (f (aa l i)).2=true then la f (l.drop (i+1).toNat) (cV++[(f (aa l i)).1]) else (cK,false):=by rw [lQ aq ab,la]
theorem XI {f:aD→aR×Bool} {l:List aD} {i:Int} {cV:List aR} (ab:(l.length:Int)≤i):la f (l.drop i.toNat) cV=(.mk 4 0 [] cV [],true):=by rw [List.drop_eq_nil_of_le (by omega),la]
theorem Ml {f:aD→aR×Bool} {l:List aD} {bV:List ak} {i:Int} {cV:List (ak×aR)} (aq:0≤i) (ab:i<l.length) (aL:i<bV.length):ki f (l.drop i.toNat) (bV.drop i.toNat) cV=if (f (aa l i)).2=true then ki f (l.drop (i+1).toNat) (bV.drop (i+1).toNat) (cV++[(aa bV i,(f (aa l i)).1)]) else (cK,false):=by rw [lQ aq ab,lQ aq aL,ki]
theorem XJ {f:aD→aR×Bool} {l:List aD} {bV:List ak} {i:Int} {cV:List (ak×aR)} (ab:(l.length:Int)≤i):ki f (l.drop i.toNat) bV cV=(.mk 5 0 [] [] cV,true):=by rw [List.drop_eq_nil_of_le (by omega),ki]
theorem XK {l:List Tok} {n a:Int} (h:(k9 l n a).f=0):h9 (k9 l n a).x=0:=by
 unfold k9 db.bind at h ⊢
 by_cases q:(cQ l n 6 a).f=0
 · rw [if_pos q] at h ⊢
   by_cases r:h9 (cQ l n 6 a).x=0
   · dsimp only;rw [if_pos r];exact r
   · dsimp only at h;rw [if_neg r] at h;exact absurd h r
 · rw [if_neg q] at h;exact absurd h q
theorem XL {s:ak} (h:(eA s).2.2=0):h9 (eA s).1=0:=by
 unfold eA at h ⊢
 split
 · rename_i fH
   rw [if_pos fH] at h
   split
   · rename_i c2
     rw [if_pos c2] at h
     split
     · rename_i c3;rw [if_pos c3] at h;cases h
     · exact XK c2
   · rename_i c2;rw [if_neg c2] at h;exact absurd h c2
 · rename_i c;rw [if_neg c] at h;exact absurd h c
theorem XM {e:aD} (aW:lx e) (h:e.kind=9):e.a.length=e.n.length:=by
 have q:=(Bx aW).1
 unfold ke at q
 simp only [h] at q
 omega
theorem XN {e:aD} (h:gM e≤60):e.a.length≤60:=by
 have I:=WK e.a
 have J:gM e=1+lV e.a:=by cases e with|mk k v s t a n=>simp only [gM,aD.a];omega
 omega
set_option maxHeartbeats 4000000 in
theorem XO (k:Nat) (e:aD) (aW:lx e) (aY:gM e≤60) (aQ:∀x:aD,gM x<gM e→lx x→∀(m:ad) (K:R→ad→Prop),K (.tuple [cG (dm k x).1, .bool (dm k x).2]) m→bn Tryz.prog 110 [e7 x] m K) (m:ad) (K:R→ad→Prop) (U:K (.tuple [cG (dm (k+1) e).1, .bool (dm (k+1) e).2]) m):bn Tryz.prog 110 [e7 e] m K:=by
 have aH:=XN aY
 refine enter (c:=cP [] [] [] [23999] [23] []) (vs:=[.aK (e7 e)]) (L:=[]) (m:=m) false cc Tryz.mixed Tryz.func110 rfl (k:=1) (by show cJ [23999] _ _ _=true;decide+kernel) rfl (Good.nil m) ?_
 refine aZ ?_
 refine an (fun I=>?_) (fun I=>?_)
 · refine bt rfl fun _=>?_
   show K (.tuple [.agg [.int .i64 e.v.kind, .int .i64 e.v.n, .str e.v.s, .slice false (e.v.l.map cm), .slice false (e.v.f.map bB)], .bool true]) m
   have bp:dm (k+1) e=(e.v,true):=by rw [dm,if_pos I]
   rw [bp] at U;exact U
 refine an (fun J=>?_) (fun J=>?_)
 · have XP:dm (k+1) e=la (dm k) e.a []:=by rw [dm,if_neg I,if_pos J]
   refine aZ ?_
   refine dq ?_
   refine ev (σ:=Int×List aR) [] [2,4,24,25,26] 3 (fun ⟨i,cV⟩=>([(2, .loc 1 0),(4, .loc 2 0),(24,bj (e.a.map dv)),(25,aw (e.a.length:Int)),(26,aw i)],[.cells [aw e.kind,aw e.v.kind,aw e.v.n,bf e.v.s,bj (e.v.l.map cm),bj (e.v.f.map bB),bf e.s,bf e.t,bj (e.a.map dv),bj (e.n.map cf)], .cells [aw 0,aw 0,bf ([]), .own [], .own []], .cells [aw 4,aw 0,bf ([]:ak), .own (cV.map cm), .own []]],m)) (fun ⟨i,cV⟩=>0≤i∧i≤e.a.length∧dm (k+1) e=la (dm k) (e.a.drop i.toNat) cV∧(cV.length:Int)=i) (fun ⟨i,cV⟩=>e.a.length- i.toNat) (0,[]) ⟨rfl,rfl⟩ ?_ ?_
   · try dsimp only
     exact ⟨by omega,by omega,XP,rfl⟩
   rintro ⟨i,cV⟩ aM
   dsimp only at aM
   refine aZ ?_
   refine an (fun ai=>?_) (fun ai=>?_)
   · refine aZ ?_
     refine e0 e7 hI (by omega) ?_
     refine ct (fun _=>aQ (aa e.a i) (sH (ch (by omega) (by omega))) ((Bx aW).2 _ (ch (by omega) (by omega)))) rfl ?_
     refine aZ ?_
     refine an (fun aC=>?_) (fun aC=>?_)
     · refine ap cm cV ([((dm k (aa e.a i)).1)]:List aR) rfl (by simp only [List.map_cons,List.map_nil,jN];try rfl) (fun a=>by rw [jN];exact ⟨rfl,rfl⟩) (by (have:=aM.2.2.2;simp only [List.length_append,List.length_cons,List.length_nil];omega)) ?_
       refine an (by omega) ?_
       refine ⟨(i+1,cV++([((dm k (aa e.a i)).1)]:List aR)),⟨rfl,rfl⟩,?_,?_⟩
       · try dsimp only
         exact ⟨by omega,by omega,by rw [aM.2.2.1,Mk aM.1 ai,if_pos aC],by rw [List.length_append];simp;omega⟩
       try dsimp only
       omega
     refine bt rfl fun _=>?_
     show K (.tuple [.agg [.int .i64 0, .int .i64 0, .str ([]), .slice false [], .slice false []], .bool false]) m
     have bp:dm (k+1) e=(cK,false):=by rw [aM.2.2.1,Mk aM.1 ai,if_neg (by simp [aC])]
     rw [bp] at U;exact U
   refine bt rfl fun _=>?_
   show K (.tuple [.agg [.int .i64 4, .int .i64 0, .str ([]:ak), .slice false (cV.map cm), .slice false []], .bool true]) m
   have bp:dm (k+1) e=(.mk 4 0 [] cV [],true):=by rw [aM.2.2.1,XI (by omega)]
   rw [bp] at U;exact U
 refine an (fun aN=>?_) (fun aN=>?_)
 · have eP:dm (k+1) e=ki (dm k) e.a e.n []:=by rw [dm,if_neg I,if_neg J,if_pos aN]
   have hq:=XM aW aN
   refine aZ ?_
   refine dq ?_
   refine ev (σ:=Int×List (ak×aR)) [] [1,2,9,50,51,52] 3 (fun ⟨i2,gk⟩=>([(1, .loc 0 0),(2, .loc 1 0),(9, .loc 2 0),(50,bj (e.a.map dv)),(51,aw (e.a.length:Int)),(52,aw i2)],[.cells [aw e.kind,aw e.v.kind,aw e.v.n,bf e.v.s,bj (e.v.l.map cm),bj (e.v.f.map bB),bf e.s,bf e.t,bj (e.a.map dv),bj (e.n.map cf)], .cells [aw 0,aw 0,bf ([]), .own [], .own []], .cells [aw 5,aw 0,bf ([]:ak), .own [], .own (gk.map bB)]],m)) (fun ⟨i2,gk⟩=>0≤i2∧i2≤e.a.length∧dm (k+1) e=ki (dm k) (e.a.drop i2.toNat) (e.n.drop i2.toNat) gk∧(gk.length:Int)=i2) (fun ⟨i2,gk⟩=>e.a.length- i2.toNat) (0,[]) ⟨rfl,rfl⟩ ?_ ?_
   · try dsimp only
     exact ⟨by omega,by omega,eP,rfl⟩
   rintro ⟨i2,gk⟩ aM
   dsimp only at aM
   refine aZ ?_
   refine an (fun bE=>?_) (fun bE=>?_)
   · refine aZ ?_
     refine e0 e7 hI (by omega) ?_
     refine ct (fun _=>aQ (aa e.a i2) (sH (ch (by omega) (by omega))) ((Bx aW).2 _ (ch (by omega) (by omega)))) rfl ?_
     refine aZ ?_
     refine an (fun dk=>?_) (fun dk=>?_)
     · refine lN cc Tryz.mixed (σ:=Unit) (.f 0 (.f 2 (.f 4 (.o 1 (.o 3 (.o 5 (.o 6 (.s 7 (.s 8 (.s 9 (.s 10 (.f 11 (.s 12 .d)))))) (.o 7 (.s 6 (.s 8 (.s 9 (.s 10 (.f 11 (.s 12 .d)))))) .z)) (.o 7 (.s 5 (.s 6 (.s 8 (.s 9 (.s 10 (.f 11 (.s 12 .d))))))) .z)) (.o 7 (.s 3 (.s 5 (.s 6 (.s 8 (.s 9 (.s 10 (.f 11 (.s 12 .d)))))))) .z)) (.o 3 (.o 1 (.o 5 (.o 6 (.s 7 (.s 8 (.s 9 (.s 10 (.f 11 (.s 12 .d)))))) (.o 7 (.s 6 (.s 8 (.s 9 (.s 10 (.f 11 (.s 12 .d)))))) .z)) (.o 7 (.s 5 (.s 6 (.s 8 (.s 9 (.s 10 (.f 11 (.s 12 .d))))))) .z)) (.o 5 (.o 1 (.o 6 (.s 7 (.s 8 (.s 9 (.s 10 (.f 11 (.s 12 .d)))))) (.o 7 (.s 6 (.s 8 (.s 9 (.s 10 (.f 11 (.s 12 .d)))))) .z)) (.o 6 (.o 1 (.s 7 (.s 8 (.s 9 (.s 10 (.f 11 (.s 12 .d)))))) (.o 7 (.o 1 (.s 8 (.s 9 (.s 10 (.f 11 (.s 12 .d))))) (.o 8 (.o 1 (.s 9 (.s 10 (.f 11 (.s 12 .d)))) (.o 9 (.s 1 (.s 10 (.f 11 (.s 12 .d)))) .z)) .z)) .z)) (.o 7 (.o 1 (.s 6 (.s 8 (.s 9 (.s 10 (.f 11 (.s 12 .d)))))) (.o 6 (.o 1 (.s 8 (.s 9 (.s 10 (.f 11 (.s 12 .d))))) (.o 8 (.o 1 (.s 9 (.s 10 (.f 11 (.s 12 .d)))) (.o 9 (.s 1 (.s 10 (.f 11 (.s 12 .d)))) .z)) .z)) .z)) .z))) (.o 7 (.o 1 (.s 5 (.s 6 (.s 8 (.s 9 (.s 10 (.f 11 (.s 12 .d))))))) (.o 5 (.o 1 (.s 6 (.s 8 (.s 9 (.s 10 (.f 11 (.s 12 .d)))))) (.o 6 (.o 1 (.s 8 (.s 9 (.s 10 (.f 11 (.s 12 .d))))) (.o 8 (.o 1 (.s 9 (.s 10 (.f 11 (.s 12 .d)))) (.o 9 (.s 1 (.s 10 (.f 11 (.s 12 .d)))) .z)) .z)) .z)) .z)) .z))) (.o 7 (.o 1 (.s 3 (.s 5 (.s 6 (.s 8 (.s 9 (.s 10 (.f 11 (.s 12 .d)))))))) (.o 3 (.o 1 (.s 5 (.s 6 (.s 8 (.s 9 (.s 10 (.f 11 (.s 12 .d))))))) (.o 5 (.o 1 (.s 6 (.s 8 (.s 9 (.s 10 (.f 11 (.s 12 .d)))))) (.o 6 (.o 1 (.s 8 (.s 9 (.s 10 (.f 11 (.s 12 .d))))) (.o 8 (.o 1 (.s 9 (.s 10 (.f 11 (.s 12 .d)))) (.o 9 (.s 1 (.s 10 (.f 11 (.s 12 .d)))) .z)) .z)) .z)) .z)) .z)) .z)))))) [] [1,2,9,50,51,52] 5 (fun _=>([(1, .loc 0 0),(2, .loc 1 0),(9, .loc 2 0),(50,bj (e.a.map dv)),(51,aw (e.a.length:Int)),(52,aw i2)],[.cells [aw e.kind,aw e.v.kind,aw e.v.n,bf e.v.s,bj (e.v.l.map cm),bj (e.v.f.map bB),bf e.s,bf e.t,bj (e.a.map dv),bj (e.n.map cf)], .cells [aw 0,aw 0,bf ([]), .own [], .own []], .cells [aw 5,aw 0,bf ([]:ak), .own [], .own ((gk++([(⟨aa e.n i2,((dm k (aa e.a i2)).1)⟩:(ak×aR))]:List (ak×aR))).map bB)], .cells [aw ((aa e.a i2).kind),aw (((aa e.a i2).v).kind),aw (((aa e.a i2).v).n),bf (((aa e.a i2).v).s),bj ((((aa e.a i2).v).l).map cm),bj ((((aa e.a i2).v).f).map bB),bf ((aa e.a i2).s),bf ((aa e.a i2).t),bj (((aa e.a i2).a).map dv),bj (((aa e.a i2).n).map cf)], .cells [aw (((dm k (aa e.a i2)).1).kind),aw (((dm k (aa e.a i2)).1).n),bf (((dm k (aa e.a i2)).1).s),bj ((((dm k (aa e.a i2)).1).l).map cm),bj ((((dm k (aa e.a i2)).1).f).map bB)]],m)) (fun _=>True) (by decide+kernel) ?_ ?_
       · rintro _ XQ
         try dsimp only at XQ
         refine an (by omega) ?_
         refine ⟨(i2+1,gk++([(⟨aa e.n i2,((dm k (aa e.a i2)).1)⟩:(ak×aR))]:List (ak×aR))),⟨rfl,rfl⟩,?_,?_⟩
         · try dsimp only
           exact ⟨by omega,by omega,by rw [aM.2.2.1,Ml aM.1 bE (by omega),if_pos dk],by rw [List.length_append];simp;omega⟩
         try dsimp only
         omega
       repeat' first
        |refine ⟨(),⟨rfl,rfl⟩,trivial⟩
        |refine ap bB gk ([(⟨aa e.n i2,((dm k (aa e.a i2)).1)⟩:(ak×aR))]:List (ak×aR)) rfl (by simp only [List.map_cons,List.map_nil,fI];try rfl) (fun a=>by rw [fI];exact ⟨rfl,rfl⟩) (by (have:=aM.2.2.2;simp only [List.length_append,List.length_cons,List.length_nil];omega)) ?_
        |refine fP (by omega) ?_
        |refine ⟨?_,?_,?_,trivial⟩
        |refine ⟨?_,?_,trivial⟩
     refine bt rfl fun _=>?_
     show K (.tuple [.agg [.int .i64 0, .int .i64 0, .str ([]), .slice false [], .slice false []], .bool false]) m
     have bp:dm (k+1) e=(cK,false):=by rw [aM.2.2.1,Ml aM.1 bE (by omega),if_neg (by simp [dk])]
     rw [bp] at U;exact U
   refine bt rfl fun _=>?_
   show K (.tuple [.agg [.int .i64 5, .int .i64 0, .str ([]:ak), .slice false [], .slice false (gk.map bB)], .bool true]) m
   have bp:dm (k+1) e=(.mk 5 0 [] [] gk,true):=by rw [aM.2.2.1,XJ (by omega)]
   rw [bp] at U;exact U
 refine bt rfl fun _=>?_
 show K (.tuple [.agg [.int .i64 0, .int .i64 0, .str ([]), .slice false [], .slice false []], .bool false]) m
 have bp:dm (k+1) e=(cK,false):=by rw [dm,if_neg I,if_neg J,if_neg aN]
 rw [bp] at U;exact U
theorem Mm:∀(k:Nat) (e:aD),gM e<k→lx e→gM e≤60→∀(m:ad) (K:R→ad→Prop),K (.tuple [cG (dm k e).1, .bool (dm k e).2]) m→bn Tryz.prog 110 [e7 e] m K
 |0,_,h,_,_=>absurd h (Nat.not_lt_zero _)
 |k+1,e,h,aW,aY=>fun m K U=>XO k e aW aY (fun x ah aE=>Mm k x (by omega) aE (by omega)) m K U
theorem XR (e:aD) (h:h9 e=0) (m:ad) (K:R→ad→Prop) (U:K (.tuple [cG (dm 61 e).1, .bool (dm 61 e).2]) m):bn Tryz.prog 110 [e7 e] m K:=Mm 61 e (by have:=Fw h;omega) (Fv h).1 (Fw h) m K U
noncomputable def eT (s:ak):aR×Int:=if (eA s).2.2≠0 then (cK,(eA s).2.2) else if (dm 61 (eA s).1).2=true then ((dm 61 (eA s).1).1,bF (dm 61 (eA s).1).1) else (cK,5)
set_option maxHeartbeats 4000000 in
theorem Mn (s:ak) (al:s.length≤16777216) (m:ad) (K:R→ad→Prop) (aJ:cY m) (U:K (.tuple [cG (eT s).1, .err 115 (eT s).2]) m):bn Tryz.prog 46 [.str s] m K:=by
 refine enter (c:=cP [] [] [] [7999] [7] []) (vs:=[.aK (.str s)]) (L:=[]) (m:=m) true cc Tryz.mixed Tryz.func46 rfl (k:=1) (by show cJ [7999] _ _ _=true;decide+kernel) rfl (Good.nil m) ?_
 refine fQ [] [] (.aK (.tuple [e7 ((eA s).1), .int .i64 ((eA s).2.1), .err 115 ((eA s).2.2)])) rfl (fun bs az gd ao=>fun K U=>WJ s al az (cY.up ao aJ) K U) ?_
 refine aZ ?_
 refine an (fun I=>?_) (fun I=>?_)
 · refine ct (fun _=>XR ((eA s).1) (XL (by assumption))) rfl ?_
   refine aZ ?_
   refine an (fun J=>?_) (fun J=>?_)
   · refine lN cc Tryz.mixed (σ:=Unit) (.o 0 (.o 1 (.o 2 (.s 3 (.s 4 .d)) (.o 3 (.s 2 (.s 4 .d)) .z)) (.o 3 (.s 1 (.s 2 (.s 4 .d))) .z)) (.o 1 (.o 0 (.o 2 (.s 3 (.s 4 .d)) (.o 3 (.s 2 (.s 4 .d)) .z)) (.o 2 (.s 0 (.s 3 (.s 4 .d))) .z)) .z)) [] [2,3] 3 (fun _=>([(2, .loc 0 0),(3, .aK (.err 115 (bF ((dm 61 ((eA s).1)).1))))],[.cells [aw (((dm 61 ((eA s).1)).1).kind),aw (((dm 61 ((eA s).1)).1).n),bf (((dm 61 ((eA s).1)).1).s),bj ((((dm 61 ((eA s).1)).1).l).map cm),bj ((((dm 61 ((eA s).1)).1).f).map bB)], .cells [aw (((eA s).1).kind),aw ((((eA s).1).v).kind),aw ((((eA s).1).v).n),bf ((((eA s).1).v).s),bj (((((eA s).1).v).l).map cm),bj (((((eA s).1).v).f).map bB),bf (((eA s).1).s),bf (((eA s).1).t),bj ((((eA s).1).a).map dv),bj ((((eA s).1).n).map cf)], .cells [aw (((dm 61 ((eA s).1)).1).kind),aw (((dm 61 ((eA s).1)).1).n),bf (((dm 61 ((eA s).1)).1).s),bj ((((dm 61 ((eA s).1)).1).l).map cm),bj ((((dm 61 ((eA s).1)).1).f).map bB)]],m)) (fun _=>True) (by decide+kernel) ?_ ?_
     · rintro _ XS
       try dsimp only at XS
       refine bt rfl fun _=>?_
       show K (.tuple [.agg [.int .i64 (((dm 61 ((eA s).1)).1).kind), .int .i64 (((dm 61 ((eA s).1)).1).n), .str (((dm 61 ((eA s).1)).1).s), .slice false ((((dm 61 ((eA s).1)).1).l).map cm), .slice false ((((dm 61 ((eA s).1)).1).f).map bB)], .err 115 (bF ((dm 61 ((eA s).1)).1))]) m
       have bp:eT s=((dm 61 (eA s).1).1,bF (dm 61 (eA s).1).1):=by rw [eT,if_neg (fun q=>q I),if_pos J]
       rw [bp] at U;exact U
     repeat' first
      |refine ⟨(),⟨rfl,rfl⟩,trivial⟩
      |refine ct (fun _=>yG ((dm 61 ((eA s).1)).1)) rfl ?_
      |refine ⟨?_,?_,trivial⟩
   refine bt rfl fun _=>?_
   show K (.tuple [.agg [.int .i64 0, .int .i64 0, .str ([]), .slice false [], .slice false []], .err 115 5]) m
   have bp:eT s=(cK,5):=by rw [eT,if_neg (fun q=>q I),if_neg (by simp [J])]
   rw [bp] at U;exact U
 refine bt rfl fun _=>?_
 show K (.tuple [.agg [.int .i64 0, .int .i64 0, .str ([]), .slice false [], .slice false []], .err 115 ((eA s).2.2)]) m
 have bp:eT s=(cK,(eA s).2.2):=by rw [eT,if_pos I]
 rw [bp] at U;exact U
end Go.Proofs
end
section
namespace Go.Proofs
open Go Go.bh Go.bS
set_option maxRecDepth 100000
def iH (m:ad):Prop:=cY m∧∃e z tp p,m 3=some (.lb e z #[.iface tp p])
theorem iH.up {m az:ad} (ao:∀b o,m b=some o→az b=some o):iH m→iH az:=fun ⟨h,e,z,tp,p,J⟩=>⟨cY.up ao h,e,z,tp,p,ao _ _ J⟩
theorem FW (s:ak) (m:ad) (c1:iH m) (K:R→ad→Prop) (U:K (.tuple [.int .i64 (j5 s), .opt (lO s)]) m):bn Tryz.prog 170 [.str s] m K:=
 have ⟨⟨_,_,_,_,_,_,_,J⟩,_,_,_,_,ai⟩:=c1
 S9 ⟨_,Tryz.func170,rfl,by kernel_rfl⟩ (fun s h v bc w=>Tryz.strconv_Atoi_ok s h v bc w)
  (fun s h bc fq w ag he=>(Tryz.strconv_Atoi_syntax s h bc fq w ag he).mono fun _ _ ⟨N,a,_,_,b⟩=>⟨N,a,b⟩)
  (fun s h bc fq w ag he=>(Tryz.strconv_Atoi_range s h bc fq w ag he).mono fun _ _ ⟨N,a,_,_,b⟩=>⟨N,a,b⟩) J ai U
def XT:gh:=⟨[],[],0,cK⟩
noncomputable def fi (s:ak):gh×Bool:=if (cD 32 4 s).length=4 then (⟨aa (cD 32 4 s) 1,aa (cD 32 4 s) 0,j5 (aa (cD 32 4 s) 2),(eT (aa (cD 32 4 s) 3)).1⟩,!(lO (aa (cD 32 4 s) 2))&&((eT (aa (cD 32 4 s) 3)).2==0)) else (XT,false)
theorem FX {c:UInt8}:∀(k:Nat) (s:ak),∀p∈Lib.splitK [c] 0 k s,p.length≤s.length
 |0,s,p,h=>by simp [Lib.splitK] at h;subst h;exact Nat.le_refl _
 |k+1,s,p,h=>by
  unfold Lib.splitK at h
  split at h
  · simp at h;subst h;exact Nat.le_refl _
  · rcases List.mem_cons.1 h with rfl|h
    · rw [List.length_take];omega
    · have:=FX k _ p h;rw [List.length_drop] at this;omega
theorem y2 {c:UInt8} {n:Nat} {s:ak} {i:Int} (aq:0≤i) (ab:i<(cD c n s).length):(aa (cD c n s) i).length≤s.length:=FX _ s _ (ch aq ab)
def XU (t:dr):ed:= .cells [.int .i64 t.cZ, .slice true (t.held.map ea), .slice true (t.ints.map fh), .slice true (t.outs.map bB)]
noncomputable def gF (t:dr) (l:ak):dr×Bool:=
 if l1 l 32=[115,101,114,105,97,108] then ({t with cZ:=j5 (bU l 32)},!(lO (bU l 32)))
 else if l1 l 32=[104,101,108,100] then ({t with held:=t.held++[(fi (bU l 32)).1]},(fi (bU l 32)).2)
 else if l1 l 32=[105,110,116,101,110,116] then
  (if (cD 32 3 (bU l 32)).length=3 then
    ({t with ints:=t.ints++[⟨j5 (aa (cD 32 3 (bU l 32)) 0),(fi (aa (cD 32 3 (bU l 32)) 2)).1,aa (cD 32 3 (bU l 32)) 1⟩]},(fi (aa (cD 32 3 (bU l 32)) 2)).2&&!(lO (aa (cD 32 3 (bU l 32)) 0)))
  else (t,false))
 else if l1 l 32=[111,117,116] then ({t with outs:=t.outs++[(l1 (bU l 32) 32,(eT (bU (bU l 32) 32)).1)]},(eT (bU (bU l 32) 32)).2==0)
 else (t,false)
noncomputable def hQ:dr→List ak→dr×Bool
 |t,[]=>(t,true)
 |t,l::r=>if (gF t l).2=true then hQ (gF t l).1 r else ((gF t l).1,false)
def gp:dr:=⟨0,[],[],[]⟩
noncomputable def kM (t:ak):dr×Int:=
 if 4000<(t.length:Int) then (gp,2)
 else if Lib.lastIndex t [115,117,109,32]<0 then (gp,11)
 else if t.drop (Lib.lastIndex t [115,117,109,32]).toNat=[115,117,109,32]++Lib.itoa (jt (t.take (Lib.lastIndex t [115,117,109,32]).toNat))++[10] then
  (if (hQ gp (mZ 10 (Lib.trimSuffix (t.take (Lib.lastIndex t [115,117,109,32]).toNat) [10]))).2=true then
    (if cp (hQ gp (mZ 10 (Lib.trimSuffix (t.take (Lib.lastIndex t [115,117,109,32]).toNat) [10]))).1=0∧dy (hQ gp (mZ 10 (Lib.trimSuffix (t.take (Lib.lastIndex t [115,117,109,32]).toNat) [10]))).1=t then ((hQ gp (mZ 10 (Lib.trimSuffix (t.take (Lib.lastIndex t [115,117,109,32]).toNat) [10]))).1,0) else (gp,5))
  else (gp,5))
 else (gp,11)
end Go.Proofs
end
section
namespace Go.Proofs
open Go Go.bh Go.bS
set_option maxRecDepth 100000
set_option maxHeartbeats 4000000 in
theorem Mo (s:ak) (al:s.length≤5000) (m:ad) (K:R→ad→Prop) (c1:iH m) (U:K (.tuple [ea (fi s).1, .bool (fi s).2]) m):bn Tryz.prog 171 [.str s] m K:=by
 have aJ:=c1.1
 refine enter (c:=cP [] [] [] [6999] [6] []) (vs:=[.aK (.str s)]) (L:=[]) (m:=m) false cc Tryz.mixed Tryz.func171 rfl (k:=1) (by show cJ [6999] _ _ _=true;decide+kernel) rfl (Good.nil m) ?_
 refine ct (fun _=>LX s _ 4 (by omega) (by decide) (by decide)) rfl ?_
 refine aZ ?_
 refine dq ?_
 refine an (fun I=>?_) (fun I=>?_)
 · have g2:=y2 (c:=32) (n:=4) (s:=s) (i:=2) (by decide) (by omega)
   have g3:=y2 (c:=32) (n:=4) (s:=s) (i:=3) (by decide) (by omega)
   refine fP (by omega) ?_
   refine fQ [] [] (.aK (.tuple [.int .i64 (j5 (aa (cD 32 4 s) 2)), .opt (lO (aa (cD 32 4 s) 2))])) rfl (fun bs az gd ao=>fun K U=>FW (aa (cD 32 4 s) 2) az (iH.up ao c1) K U) ?_
   refine fP (by omega) ?_
   refine fQ [] [] (.aK (.tuple [cG ((eT (aa (cD 32 4 s) 3)).1), .err 115 ((eT (aa (cD 32 4 s) 3)).2)])) rfl (fun bs az gd ao=>fun K U=>Mn (aa (cD 32 4 s) 3) (by omega) az K (cY.up ao aJ) U) ?_
   refine lN cc Tryz.mixed (σ:=Bool) (.f 0 (.f 3 (.f 6 (.f 9 (.f 10 (.f 11 (.f 12 (.f 13 (.f 14 (.o 1 (.o 2 (.o 4 (.o 5 (.s 7 (.s 8 (.s 15 (.s 16 .d)))) (.o 7 (.s 5 (.s 8 (.s 15 (.s 16 .d)))) .z)) (.o 7 (.s 4 (.s 5 (.s 8 (.s 15 (.s 16 .d))))) .z)) (.o 4 (.o 2 (.o 5 (.s 7 (.s 8 (.s 15 (.s 16 .d)))) (.o 7 (.s 5 (.s 8 (.s 15 (.s 16 .d)))) .z)) (.o 5 (.o 2 (.s 7 (.s 8 (.s 15 (.s 16 .d)))) (.o 7 (.s 2 (.s 8 (.s 15 (.s 16 .d)))) .z)) (.o 7 (.o 2 (.s 5 (.s 8 (.s 15 (.s 16 .d)))) (.o 5 (.s 2 (.s 8 (.s 15 (.s 16 .d)))) .z)) .z))) (.o 7 (.o 2 (.s 4 (.s 5 (.s 8 (.s 15 (.s 16 .d))))) (.o 4 (.o 2 (.s 5 (.s 8 (.s 15 (.s 16 .d)))) (.o 5 (.s 2 (.s 8 (.s 15 (.s 16 .d)))) .z)) .z)) .z))) (.o 4 (.o 1 (.o 2 (.o 5 (.s 7 (.s 8 (.s 15 (.s 16 .d)))) (.o 7 (.s 5 (.s 8 (.s 15 (.s 16 .d)))) .z)) (.o 5 (.o 2 (.s 7 (.s 8 (.s 15 (.s 16 .d)))) (.o 7 (.s 2 (.s 8 (.s 15 (.s 16 .d)))) .z)) (.o 7 (.o 2 (.s 5 (.s 8 (.s 15 (.s 16 .d)))) (.o 5 (.s 2 (.s 8 (.s 15 (.s 16 .d)))) .z)) .z))) (.o 5 (.o 1 (.o 2 (.s 7 (.s 8 (.s 15 (.s 16 .d)))) (.o 7 (.s 2 (.s 8 (.s 15 (.s 16 .d)))) .z)) (.o 7 (.s 1 (.s 2 (.s 8 (.s 15 (.s 16 .d))))) .z)) (.o 7 (.o 1 (.o 2 (.s 5 (.s 8 (.s 15 (.s 16 .d)))) (.o 5 (.s 2 (.s 8 (.s 15 (.s 16 .d)))) .z)) (.o 5 (.s 1 (.s 2 (.s 8 (.s 15 (.s 16 .d))))) .z)) .z))) (.o 7 (.o 1 (.o 2 (.s 4 (.s 5 (.s 8 (.s 15 (.s 16 .d))))) (.o 4 (.o 2 (.s 5 (.s 8 (.s 15 (.s 16 .d)))) (.o 5 (.s 2 (.s 8 (.s 15 (.s 16 .d)))) .z)) .z)) (.o 4 (.o 1 (.o 2 (.s 5 (.s 8 (.s 15 (.s 16 .d)))) (.o 5 (.s 2 (.s 8 (.s 15 (.s 16 .d)))) .z)) (.o 5 (.s 1 (.s 2 (.s 8 (.s 15 (.s 16 .d))))) .z)) .z)) .z)))))))))))) [(3,0)] [2,3] 2 (fun ok=>([(2, .loc 0 0),(3,e6 ok)],[.cells [bf (aa (cD 32 4 s) 1),bf (aa (cD 32 4 s) 0),aw (j5 (aa (cD 32 4 s) 2)),aw (((eT (aa (cD 32 4 s) 3)).1).kind),aw (((eT (aa (cD 32 4 s) 3)).1).n),bf (((eT (aa (cD 32 4 s) 3)).1).s),bj ((((eT (aa (cD 32 4 s) 3)).1).l).map cm),bj ((((eT (aa (cD 32 4 s) 3)).1).f).map bB)], .cells [aw (((eT (aa (cD 32 4 s) 3)).1).kind),aw (((eT (aa (cD 32 4 s) 3)).1).n),bf (((eT (aa (cD 32 4 s) 3)).1).s),bj ((((eT (aa (cD 32 4 s) 3)).1).l).map cm),bj ((((eT (aa (cD 32 4 s) 3)).1).f).map bB)]],m)) (fun ok=>ok=(!(lO (aa (cD 32 4 s) 2))&&((eT (aa (cD 32 4 s) 3)).2==0))) (by decide+kernel) ?_ ?_
   · rintro ok XV
     refine bt rfl fun _=>?_
     show K (.tuple [.agg [.str (aa (cD 32 4 s) 1), .str (aa (cD 32 4 s) 0), .int .i64 (j5 (aa (cD 32 4 s) 2)), .int .i64 (((eT (aa (cD 32 4 s) 3)).1).kind), .int .i64 (((eT (aa (cD 32 4 s) 3)).1).n), .str (((eT (aa (cD 32 4 s) 3)).1).s), .slice false ((((eT (aa (cD 32 4 s) 3)).1).l).map cm), .slice false ((((eT (aa (cD 32 4 s) 3)).1).f).map bB)], .bool ok]) m
     rw [fi,if_pos (by omega)] at U
     rw [XV]
     exact U
   repeat' first
    |(refine ⟨(false),⟨rfl,rfl⟩,?_⟩;first|(rw [J];rfl)|(rw [J,Bool.not_false,Bool.true_and]))
    |(refine ⟨((((eT (aa (cD 32 4 s) 3)).2)==0)),⟨rfl,rfl⟩,?_⟩;first|(rw [J];rfl)|(rw [J,Bool.not_false,Bool.true_and]))
    |refine fP (by omega) ?_
    |refine an (fun J=>?_) (fun J=>?_)
    |refine ⟨?_,?_,?_,?_,trivial⟩
    |refine ⟨?_,?_,?_,trivial⟩
    |refine ⟨?_,?_,trivial⟩
 refine bt rfl fun _=>?_
 show K (.tuple [.agg [.str ([]), .str ([]), .int .i64 0, .int .i64 0, .int .i64 0, .str ([]), .slice false [], .slice false []], .bool false]) m
 rw [fi,if_neg (by omega)] at U
 exact U
end Go.Proofs
end
section
namespace Go.Proofs
open Go Go.bh Go.bS
set_option maxRecDepth 100000
theorem FY (s:ak) (c:UInt8):(bU s c).length≤s.length:=by
 rw [bU];split
 · rw [List.length_drop];omega
 · simp
set_option maxHeartbeats 4000000 in
theorem XW (b:Nat) (t:dr) (s:ak) (al:s.length≤5000) (mo:t.held.length≤5000) (lL:t.ints.length≤5000) (aaT:t.outs.length≤5000) (m:ad) (gd:fx [b] m) (K:R→ad→Prop) (c1:iH m) (U:K (.bool (gF t s).2) (ad.aX m [(b,XU (gF t s).1)])):bn Tryz.prog 109 [.ptr ⟨b,0,none⟩, .str s] (ad.aX m [(b, .cells [.int .i64 t.cZ, .slice true (t.held.map ea), .slice true (t.ints.map fh), .slice true (t.outs.map bB)])]) K:=by
 have aJ:=c1.1
 have jh:=FY s 32
 have aaU:=FY (bU s 32) 32
 refine enter (c:=cP [] [] [25] [11999,19999,24999] [11,19,24,25] [b]) (vs:=[.loc 0 0, .aK (.str s)]) (L:=[.cells [aw t.cZ, .own (t.held.map ea), .own (t.ints.map fh), .own (t.outs.map bB)]]) (m:=m) false cc Tryz.mixed Tryz.func109 rfl (k:=2) (by show cJ [11999,19999,24999] _ _ _=true;decide+kernel) rfl (gd.jq rfl) ?_
 refine ct (fun _=>LW s _ (by omega)) rfl ?_
 refine aZ ?_
 refine an (fun I=>?_) (fun I=>?_)
 · refine fQ [] [] (.aK (.tuple [.int .i64 (j5 (bU s 32)), .opt (lO (bU s 32))])) rfl (fun bs az gd ao=>fun K U=>FW (bU s 32) az (iH.up ao c1) K U) ?_
   refine ED ?_
   refine cx [] 4 (!(lO (bU s 32))) ?_ ?_
   · repeat' first
      |exact ⟨⟨_,rfl,by grind [bM.val]⟩,rfl⟩
      |refine an (fun _=>?_) (fun _=>?_)
   refine rt rfl fun _=>?_
   show K (.bool (!(lO (bU s 32)))) (ad.aX m [(b, .cells [.int .i64 (j5 (bU s 32)), .slice true (t.held.map ea), .slice true (t.ints.map fh), .slice true (t.outs.map bB)])])
   rw [gF,if_pos I] at U
   exact U
 refine an (fun J=>?_) (fun J=>?_)
 · refine fQ [] [] (.aK (.tuple [ea ((fi (bU s 32)).1), .bool ((fi (bU s 32)).2)])) rfl (fun bs az gd ao=>fun K U=>Mo (bU s 32) (by omega) az K (iH.up ao c1) U) ?_
   refine lN cc Tryz.mixed (σ:=Unit) (.f 0 (.f 1 (.f 2 (.f 3 (.o 4 (.s 5 (.s 6 (.s 7 (.f 8 (.f 9 (.s 10 .d)))))) (.o 5 (.o 4 (.s 6 (.s 7 (.f 8 (.f 9 (.s 10 .d))))) (.o 6 (.s 4 (.s 7 (.f 8 (.f 9 (.s 10 .d))))) .z)) .z)))))) [] [8,9] 2 (fun _=>([(8, .aK (.nilIface)),(9,e6 ((fi (bU s 32)).2))],[.cells [aw t.cZ, .own ((t.held++([((fi (bU s 32)).1)]:List gh)).map ea), .own (t.ints.map fh), .own (t.outs.map bB)], .cells [bf (((fi (bU s 32)).1).name),bf (((fi (bU s 32)).1).kind),aw (((fi (bU s 32)).1).id),aw ((((fi (bU s 32)).1).attrs).kind),aw ((((fi (bU s 32)).1).attrs).n),bf ((((fi (bU s 32)).1).attrs).s),bj (((((fi (bU s 32)).1).attrs).l).map cm),bj (((((fi (bU s 32)).1).attrs).f).map bB)]],m)) (fun _=>True) (by decide+kernel) ?_ ?_
   · rintro _ eZ
     try dsimp only at eZ
     refine ED ?_
     refine cx [] 4 ((fi (bU s 32)).2) ?_ ?_
     · repeat' first
        |exact ⟨⟨_,rfl,by grind [bM.val]⟩,rfl⟩
        |refine an (fun _=>?_) (fun _=>?_)
     refine rt rfl fun _=>?_
     show K (.bool ((fi (bU s 32)).2)) (ad.aX m [(b, .cells [.int .i64 t.cZ, .slice true ((t.held++([((fi (bU s 32)).1)]:List gh)).map ea), .slice true (t.ints.map fh), .slice true (t.outs.map bB)])])
     rw [gF,if_neg I,if_pos J] at U
     exact U
   repeat' first
    |refine ⟨(),⟨rfl,rfl⟩,trivial⟩
    |refine ap ea t.held ([((fi (bU s 32)).1)]:List gh) rfl rfl (fun _=>⟨rfl,rfl⟩) (by (simp only [List.length_append,List.length_cons,List.length_nil];omega)) ?_
    |refine ⟨?_,?_,trivial⟩
 refine an (fun ai=>?_) (fun ai=>?_)
 · refine ct (fun _=>LX (bU s 32) _ 3 (by omega) (by decide) (by decide)) rfl ?_
   refine aZ ?_
   refine dq ?_
   refine an (fun aC=>?_) (fun aC=>?_)
   · have g0:=y2 (c:=32) (n:=3) (s:=bU s 32) (i:=0) (by decide) (by omega)
     have g2:=y2 (c:=32) (n:=3) (s:=bU s 32) (i:=2) (by decide) (by omega)
     refine fP (by omega) ?_
     refine fP (by omega) ?_
     refine fQ [] [] (.aK (.tuple [.int .i64 (j5 (aa (cD 32 3 (bU s 32)) 0)), .opt (lO (aa (cD 32 3 (bU s 32)) 0))])) rfl (fun bs az gd ao=>fun K U=>FW (aa (cD 32 3 (bU s 32)) 0) az (iH.up ao c1) K U) ?_
     refine fP (by omega) ?_
     refine fQ [] [] (.aK (.tuple [ea ((fi (aa (cD 32 3 (bU s 32)) 2)).1), .bool ((fi (aa (cD 32 3 (bU s 32)) 2)).2)])) rfl (fun bs az gd ao=>fun K U=>Mo (aa (cD 32 3 (bU s 32)) 2) (by omega) az K (iH.up ao c1) U) ?_
     refine lN cc Tryz.mixed (σ:=Unit) (.f 0 (.f 1 (.f 2 (.f 3 (.o 4 (.s 5 (.s 6 (.s 7 (.f 8 (.f 9 (.s 10 .d)))))) (.o 5 (.o 4 (.s 6 (.s 7 (.f 8 (.f 9 (.s 10 .d))))) (.o 6 (.s 4 (.s 7 (.f 8 (.f 9 (.s 10 .d))))) .z)) .z)))))) [] [8,9] 2 (fun _=>([(8, .aK (.opt (lO (aa (cD 32 3 (bU s 32)) 0)))),(9,e6 ((fi (aa (cD 32 3 (bU s 32)) 2)).2))],[.cells [aw t.cZ, .own (t.held.map ea), .own ((t.ints++([(⟨j5 (aa (cD 32 3 (bU s 32)) 0),((fi (aa (cD 32 3 (bU s 32)) 2)).1),aa (cD 32 3 (bU s 32)) 1⟩:jR)]:List jR)).map fh), .own (t.outs.map bB)], .cells [aw (j5 (aa (cD 32 3 (bU s 32)) 0)),bf (((fi (aa (cD 32 3 (bU s 32)) 2)).1).name),bf (((fi (aa (cD 32 3 (bU s 32)) 2)).1).kind),aw (((fi (aa (cD 32 3 (bU s 32)) 2)).1).id),aw ((((fi (aa (cD 32 3 (bU s 32)) 2)).1).attrs).kind),aw ((((fi (aa (cD 32 3 (bU s 32)) 2)).1).attrs).n),bf ((((fi (aa (cD 32 3 (bU s 32)) 2)).1).attrs).s),bj (((((fi (aa (cD 32 3 (bU s 32)) 2)).1).attrs).l).map cm),bj (((((fi (aa (cD 32 3 (bU s 32)) 2)).1).attrs).f).map bB),bf (aa (cD 32 3 (bU s 32)) 1)]],m)) (fun _=>True) (by decide+kernel) ?_ ?_
     · rintro _ XX
       try dsimp only at XX
       refine ED ?_
       refine cx [] 4 (((fi (aa (cD 32 3 (bU s 32)) 2)).2)&&(!(lO (aa (cD 32 3 (bU s 32)) 0)))) ?_ ?_
       · repeat' first
          |exact ⟨⟨_,rfl,by grind [bM.val]⟩,rfl⟩
          |refine an (fun _=>?_) (fun _=>?_)
       refine rt rfl fun _=>?_
       show K (.bool (((fi (aa (cD 32 3 (bU s 32)) 2)).2)&&(!(lO (aa (cD 32 3 (bU s 32)) 0))))) (ad.aX m [(b, .cells [.int .i64 t.cZ, .slice true (t.held.map ea), .slice true ((t.ints++([(⟨j5 (aa (cD 32 3 (bU s 32)) 0),((fi (aa (cD 32 3 (bU s 32)) 2)).1),aa (cD 32 3 (bU s 32)) 1⟩:jR)]:List jR)).map fh), .slice true (t.outs.map bB)])])
       rw [gF,if_neg I,if_neg J,if_pos ai,if_pos (by omega)] at U
       exact U
     repeat' first
      |refine ⟨(),⟨rfl,rfl⟩,trivial⟩
      |refine ap fh t.ints ([(⟨j5 (aa (cD 32 3 (bU s 32)) 0),((fi (aa (cD 32 3 (bU s 32)) 2)).1),aa (cD 32 3 (bU s 32)) 1⟩:jR)]:List jR) rfl rfl (fun _=>⟨rfl,rfl⟩) (by (simp only [List.length_append,List.length_cons,List.length_nil];omega)) ?_
      |refine ⟨?_,?_,trivial⟩
   refine rt rfl fun _=>?_
   show K (.bool false) (ad.aX m [(b, .cells [.int .i64 t.cZ, .slice true (t.held.map ea), .slice true (t.ints.map fh), .slice true (t.outs.map bB)])])
   rw [gF,if_neg I,if_neg J,if_pos ai,if_neg (by omega)] at U
   exact U
 refine an (fun aN=>?_) (fun aN=>?_)
 · refine ct (fun _=>LW (bU s 32) _ (by omega)) rfl ?_
   refine fQ [] [] (.aK (.tuple [cG ((eT (bU (bU s 32) 32)).1), .err 115 ((eT (bU (bU s 32) 32)).2)])) rfl (fun bs az gd ao=>fun K U=>Mn (bU (bU s 32) 32) (by omega) az K (cY.up ao aJ) U) ?_
   refine lN cc Tryz.mixed (σ:=Nat) (.f 0 (.f 1 (.f 2 (.o 3 (.o 4 (.o 5 (.s 6 (.s 7 (.f 8 (.f 10 (.f 11 (.o 9 (.s 12 .d) (.o 12 (.s 9 .d) .z))))))) (.o 6 (.s 5 (.s 7 (.f 8 (.f 10 (.f 11 (.o 9 (.s 12 .d) (.o 12 (.s 9 .d) .z))))))) .z)) (.o 5 (.o 4 (.s 6 (.s 7 (.f 8 (.f 10 (.f 11 (.o 9 (.s 12 .d) (.o 12 (.s 9 .d) .z))))))) (.o 6 (.s 4 (.s 7 (.f 8 (.f 10 (.f 11 (.o 9 (.s 12 .d) (.o 12 (.s 9 .d) .z))))))) .z)) (.o 6 (.o 4 (.s 5 (.s 7 (.f 8 (.f 10 (.f 11 (.o 9 (.s 12 .d) (.o 12 (.s 9 .d) .z))))))) (.o 5 (.s 4 (.s 7 (.f 8 (.f 10 (.f 11 (.o 9 (.s 12 .d) (.o 12 (.s 9 .d) .z))))))) .z)) .z))) (.o 4 (.o 3 (.o 5 (.s 6 (.s 7 (.f 8 (.f 10 (.f 11 (.o 9 (.s 12 .d) (.o 12 (.s 9 .d) .z))))))) (.o 6 (.s 5 (.s 7 (.f 8 (.f 10 (.f 11 (.o 9 (.s 12 .d) (.o 12 (.s 9 .d) .z))))))) .z)) (.o 6 (.s 3 (.s 5 (.s 7 (.f 8 (.f 10 (.f 11 (.o 9 (.s 12 .d) (.o 12 (.s 9 .d) .z)))))))) .z)) (.o 6 (.o 3 (.o 4 (.s 5 (.s 7 (.f 8 (.f 10 (.f 11 (.o 9 (.s 12 .d) (.o 12 (.s 9 .d) .z))))))) (.o 5 (.s 4 (.s 7 (.f 8 (.f 10 (.f 11 (.o 9 (.s 12 .d) (.o 12 (.s 9 .d) .z))))))) .z)) (.o 4 (.s 3 (.s 5 (.s 7 (.f 8 (.f 10 (.f 11 (.o 9 (.s 12 .d) (.o 12 (.s 9 .d) .z)))))))) .z)) .z)))))) [] [8,9] 3 (fun wD=>([(8, .aK (.err 115 ((eT (bU (bU s 32) 32)).2))),(9, .b (.lit true))],[.cells [aw t.cZ, .own (t.held.map ea), .own (t.ints.map fh), .ms 2 (t.outs.length+1) wD], .cells [bf (l1 (bU s 32) 32),aw (((eT (bU (bU s 32) 32)).1).kind),aw (((eT (bU (bU s 32) 32)).1).n),bf (((eT (bU (bU s 32) 32)).1).s),bj ((((eT (bU (bU s 32) 32)).1).l).map cm),bj ((((eT (bU (bU s 32) 32)).1).f).map bB)], .obj (.part 6 wD (t.outs.map bB) (bB (l1 (bU s 32) 32,(eT (bU (bU s 32) 32)).1)).cells)],m)) (fun wD=>True) (by decide+kernel) ?_ ?_
   · rintro wD aaV
     refine Tv (i:=2) (a:=0) (j:=3) bB t.outs (l1 (bU s 32) 32,(eT (bU (bU s 32) 32)).1) rfl rfl rfl rfl rfl rfl rfl ?_
     refine cx [] 4 (((eT (bU (bU s 32) 32)).2)==0) ?_ ?_
     · repeat' first
        |exact ⟨⟨_,rfl,by grind [bM.val]⟩,rfl⟩
        |refine an (fun _=>?_) (fun _=>?_)
     refine rt rfl fun _=>?_
     show K (.bool (((eT (bU (bU s 32) 32)).2)==0)) (ad.aX m [(b, .cells [.int .i64 t.cZ, .slice true (t.held.map ea), .slice true (t.ints.map fh), .slice true ((t.outs++[(l1 (bU s 32) 32,(eT (bU (bU s 32) 32)).1)]).map bB)])])
     rw [gF,if_neg I,if_neg J,if_neg ai,if_pos aN] at U
     exact U
   repeat' first
    |refine ⟨(wD),⟨rfl,rfl⟩,trivial⟩
    |refine dq ?_
    |(refine Tp cc bB t.outs (.agg [.str ([]), .int .i64 0, .int .i64 0, .str ([]), .slice true [], .slice true []]:R) rfl rfl rfl rfl ⟨rfl,⟨rfl,rfl,trivial,rfl⟩⟩ rfl (fun a=>by rw [fI];rfl) (by (dsimp only;omega)) rfl ?_;intro wD)
    |refine Ts cc (bB (⟨l1 (bU s 32) 32,((eT (bU (bU s 32) 32)).1)⟩:(ak×aR))).cells rfl rfl rfl rfl rfl rfl (fun _=>by rw [fI];rfl) (by first|rfl|simp) ?_
    |refine an (by omega) ?_
    |refine ⟨?_,?_,?_,trivial⟩
    |refine ⟨?_,?_,trivial⟩
 refine rt rfl fun _=>?_
 show K (.bool false) (ad.aX m [(b, .cells [.int .i64 t.cZ, .slice true (t.held.map ea), .slice true (t.ints.map fh), .slice true (t.outs.map bB)])])
 rw [gF,if_neg I,if_neg J,if_neg ai,if_neg aN] at U
 exact U
end Go.Proofs
end
section
namespace Go.Proofs
open Go Go.bh Go.bS
set_option maxRecDepth 100000
theorem Mp {s:ak} (h:(eT s).2=0):bF (eT s).1=0:=by
 unfold eT at h ⊢
 split
 · rename_i c;rw [if_pos c] at h;exact absurd h c
 · rename_i c
   rw [if_neg c] at h
   split
   · rename_i c2;rw [if_pos c2] at h;exact h
   · rename_i c2;rw [if_neg c2] at h;cases h
theorem Mq {s:ak} (h:(fi s).2=true):BK (fi s).1:=by
 unfold fi at h ⊢
 split
 · rename_i c
   rw [if_pos c] at h
   simp only [Bool.and_eq_true,beq_iff_eq] at h
   have I:=(om (Mp h.2)).2
   have J:=JK (aa (cD 32 4 s) 2)
   exact ⟨by show bq (eT (aa (cD 32 4 s) 3)).1≤_;omega,J.1,J.2⟩
 · rename_i c;rw [if_neg c] at h;cases h
theorem XY:p1 gp:=⟨fun x ah=>(by cases ah),fun x ah=>(by cases ah),fun x ah=>(by cases ah)⟩
theorem XZ {t:dr} {l:ak} (q:p1 t) (ar:l.length≤5000) (h:(gF t l).2=true):p1 (gF t l).1:=by
 unfold gF at h ⊢
 split
 · exact ⟨q.h,q.i,q.o⟩
 · rename_i fH
   rw [if_neg fH] at h
   split
   · rename_i c2
     rw [if_pos c2] at h
     refine ⟨fun x ah=>?_,q.i,q.o⟩
     rcases List.mem_append.1 ah with ah|ah
     · exact q.h x ah
     · rw [List.mem_singleton.1 ah];exact Mq h
   · rename_i c2
     rw [if_neg c2] at h
     split
     · rename_i c3
       rw [if_pos c3] at h
       split
       · rename_i c4
         rw [if_pos c4] at h
         simp only [Bool.and_eq_true] at h
         refine ⟨q.h,fun x ah=>?_,q.o⟩
         rcases List.mem_append.1 ah with ah|ah
         · exact q.i x ah
         · rw [List.mem_singleton.1 ah]
           refine ⟨Mq h.1,?_⟩
           have I:=y2 (c:=32) (n:=3) (s:=bU l 32) (i:=1) (by decide) (by omega)
           have J:=FY l 32
           show (aa (cD 32 3 (bU l 32)) 1).length≤_
           omega
       · exact q
     · rename_i c3
       rw [if_neg c3] at h
       split
       · rename_i c4
         rw [if_pos c4,beq_iff_eq] at h
         refine ⟨q.h,q.i,fun x ah=>?_⟩
         rcases List.mem_append.1 ah with ah|ah
         · exact q.o x ah
         · rw [List.mem_singleton.1 ah]
           have:=(om (Mp h)).2
           show bq (eT (bU (bU l 32) 32)).1≤_
           omega
       · exact q
theorem X0 (t:dr) (l:ak):(gF t l).1.held.length≤t.held.length+1∧(gF t l).1.ints.length≤t.ints.length+1∧(gF t l).1.outs.length≤t.outs.length+1:=by
 unfold gF
 split
 · simp
 · split
   · simp
   · split
     · split
       · simp
       · simp
     · split<;>simp
theorem X1 {c:UInt8} {s:ak} {i:Int} (aq:0≤i) (ab:i<(mZ c s).length):(aa (mZ c s) i).length≤s.length:=FX _ s _ (ch aq ab)
theorem Mr {c:UInt8}:∀(k:Nat) (s:ak),(Lib.splitK [c] 0 k s).length≤k+1
 |0,s=>by simp [Lib.splitK]
 |k+1,s=>by
  unfold Lib.splitK
  split
  · simp
  · rw [List.length_cons];have:=Mr (c:=c) k (s.drop ((Lib.index s [c]).toNat+([c]:ak).length));omega
theorem X2 (c:UInt8) (s:ak):(mZ c s).length≤s.length+1:=by
 have I:=Mr (c:=c) (Lib.count s [c]) s
 have J:=Lib.count_one c s
 have ai:=List.count_le_length (a:=c) (l:=s)
 rw [mZ];omega
theorem Ms {t:dr} {l:List ak} {i:Int} (aq:0≤i) (ab:i<l.length):hQ t (l.drop i.toNat)=if (gF t (aa l i)).2=true then hQ (gF t (aa l i)).1 (l.drop (i+1).toNat) else ((gF t (aa l i)).1,false):=by rw [lQ aq ab,hQ]
theorem X3 {t:dr} {l:List ak} {i:Int} (ab:(l.length:Int)≤i):hQ t (l.drop i.toNat)=(t,true):=by rw [List.drop_eq_nil_of_le (by omega),hQ]
theorem X4 (s p:ak):-1≤Lib.lastIndex s p∧Lib.lastIndex s p≤s.length:=by
 unfold Lib.lastIndex
 split
 · have:=LR s p (s.length- p.length+1);omega
 · omega
theorem FZ (s:ak) (a b:Int):(sub s a b).length≤s.length:=by rw [sub,List.length_take,List.length_drop];omega
theorem F0 (s:ak) {k:Int} (h:0≤k):sub s 0 k=s.take k.toNat:=by simp [sub]
theorem Mt (s:ak) {k:Int} (h:0≤k) (J:k≤s.length):sub s k s.length=s.drop k.toNat:=by
 rw [sub,List.take_of_length_le];rw [List.length_drop];omega
theorem X5 {s:ak} (h:4000<(s.length:Int)):kM s=(gp,2):=by rw [kM,if_pos h]
theorem X6 {s:ak} {A:Int} (ck:Lib.lastIndex s [115,117,109,32]=A) (I:(s.length:Int)≤4000) (ae:A≤s.length) (h:A<0∨sub s A s.length≠[115,117,109,32]++Lib.itoa (jt (sub s 0 A))++[10]):kM s=(gp,11):=by
 rw [kM,if_neg (by omega),ck]
 split
 · rfl
 · rename_i c
   rw [if_neg]
   intro e
   rcases h with h|h
   · exact c h
   · exact h (by rw [Mt s (by omega) ae,F0 s (by omega)];exact e)
theorem Mu {s:ak} {A:Int} {ja:List ak} (ck:Lib.lastIndex s [115,117,109,32]=A) (I:(s.length:Int)≤4000) (ae:A≤s.length) (h:0≤A∧sub s A s.length=[115,117,109,32]++Lib.itoa (jt (sub s 0 A))++[10]) (eh:mZ 10 (Lib.trimSuffix (sub s 0 A) [10])=ja):
 kM s=if (hQ gp ja).2=true then (if cp (hQ gp ja).1=0∧dy (hQ gp ja).1=s then ((hQ gp ja).1,0) else (gp,5)) else (gp,5):=by
 rw [kM,if_neg (by omega),ck,if_neg (by omega),if_pos (by rw [←Mt s h.1 ae,←F0 s h.1];exact h.2),←F0 s h.1,eh]
set_option maxHeartbeats 4000000 in
theorem Mv (s:ak) (al:s.length≤16777216) (m:ad) (K:R→ad→Prop) (c1:iH m) (U:K (.tuple [gR (kM s).1, .err 115 (kM s).2]) m):bn Tryz.prog 45 [.str s] m K:=by
 have aJ:=c1.1
 have ck:=X4 s [115,117,109,32]
 generalize BL:Lib.lastIndex s [115,117,109,32]=A at ck
 obtain ⟨ja,wE⟩:∃l,mZ 10 (Lib.trimSuffix (sub s 0 A) [10])=l:=⟨_,rfl⟩
 have n3:∀j:Int,0≤j→j<ja.length→(aa ja j).length≤s.length:=fun j aq ay=>by
  have I:=X1 (c:=10) (s:=Lib.trimSuffix (sub s 0 A) [10]) aq (by rw [wE];exact ay)
  have J:=Lib.trimSuffix_le (sub s 0 A) [10]
  have ai:=FZ s 0 A
  rw [wE] at I;omega
 have jl:ja.length≤s.length+1:=by
  have I:=X2 10 (Lib.trimSuffix (sub s 0 A) [10])
  have J:=Lib.trimSuffix_le (sub s 0 A) [10]
  have ai:=FZ s 0 A
  rw [wE] at I;omega
 have gH:=y1 (na (sub s 0 A)).1 (na (sub s 0 A)).2
 refine enter (c:=cP [] [] [4,14] [] [] []) (vs:=[.aK (.str s)]) (L:=[]) (m:=m) true cc Tryz.mixed Tryz.func45 rfl (k:=1) (by show cJ [] _ _ _=true;decide+kernel) rfl (Good.nil m) ?_
 refine aZ ?_
 refine an (fun I=>?_) (fun I=>?_)
 · refine bt rfl fun _=>?_
   show K (.tuple [.agg [.int .i64 0, .slice false [], .slice false [], .slice false []], .err 115 2]) m
   rw [X5 I] at U
   exact U
 refine ct (fun _=>fun m K U=>Xh s ([115,117,109,32]:List UInt8) m K (by rw [BL];exact U)) rfl ?_
 refine aZ ?_
 refine cx [0,2,4] 31 ((decide (A<0))||(!((sub s A (s.length:Int))==((([115,117,109,32]:List UInt8)++(Lib.itoa (jt (sub s 0 A))))++([10]:List UInt8))))) ?_ ?_
 · repeat' first
    |exact ⟨⟨_,rfl,by grind [bM.val]⟩,rfl⟩
    |refine an (fun _=>?_) (fun _=>?_)
    |refine an ⟨by (try dsimp only [Option.getD_some,Option.getD_none]);omega,by (try dsimp only [Option.getD_some,Option.getD_none]);omega⟩ ?_
    |refine an ⟨by (try dsimp only [Option.getD_some,Option.getD_none]);omega,by (try dsimp only [Option.getD_some,Option.getD_none]);omega,by (try dsimp only [Option.getD_some,Option.getD_none]);omega⟩ ?_
    |refine hx (fun _=>Kk (sub s 0 A)) ?_
    |refine A4 (x:= .str (Lib.itoa (jt (sub s 0 A)))) (fun bs az ao=>fun K U=>Mg (jt (sub s 0 A)) (na _).1 (na _).2 az (cY.up ao aJ) K U) ?_
    |refine an (by (first|omega|(simp only [List.length_append,List.length_cons,List.length_nil];omega))) ?_
 refine an (fun J=>?_) (fun J=>?_)
 · replace J:(A<0)∨(sub s A (s.length:Int)≠(([115,117,109,32]:List UInt8)++(Lib.itoa (jt (sub s 0 A))))++([10]:List UInt8)):=((da J).imp (fun q=>(of_decide_eq_true q)) (fun q=>(ne_of_beq_false (dD q))))
   refine bt rfl fun _=>?_
   show K (.tuple [.agg [.int .i64 0, .slice false [], .slice false [], .slice false []], .err 115 11]) m
   rw [X6 BL (by omega) (by omega) J] at U
   exact U
 replace J:(0≤A)∧(sub s A (s.length:Int)=(([115,117,109,32]:List UInt8)++(Lib.itoa (jt (sub s 0 A))))++([10]:List UInt8)):=⟨(Int.not_lt.1 (of_decide_eq_false (bZ J))),(eq_of_beq (dC (c8 J)))⟩
 refine aZ ?_
 refine an ⟨by (try dsimp only [Option.getD_some,Option.getD_none]);omega,by (try dsimp only [Option.getD_some,Option.getD_none]);omega,by (try dsimp only [Option.getD_some,Option.getD_none]);omega⟩ ?_
 refine ct (fun _=>Xi (sub s 0 A) ([10]:List UInt8)) rfl ?_
 refine ct (fun _=>fun m K U=>Xn (Lib.trimSuffix (sub s 0 A) ([10]:List UInt8)) 10 (by have:=Lib.trimSuffix_le (sub s 0 A) [10];have:=FZ s 0 A;omega) m K (by rw [wE];exact U)) rfl ?_
 refine dq ?_
 refine ev (σ:=Int×dr) [] [0,2,5,38,39,40] 2 (fun ⟨i,t⟩=>([(0,bf s),(2, .loc 0 0),(5, .loc 1 0),(38,bj (ja.map cf)),(39,aw (ja.length:Int)),(40,aw i)],[.cells [aw 0, .own [], .own [], .own []], .cells [aw t.cZ, .own (t.held.map ea), .own (t.ints.map fh), .own (t.outs.map bB)]],m)) (fun ⟨i,t⟩=>0≤i∧i≤ja.length∧hQ gp ja=hQ t (ja.drop i.toNat)∧p1 t∧(t.held.length≤i∧t.ints.length≤i∧t.outs.length≤i)) (fun ⟨i,t⟩=>ja.length- i.toNat) (0,gp) ⟨rfl,rfl⟩ ?_ ?_
 · try dsimp only
   exact ⟨by omega,by omega,rfl,XY,by simp [gp]⟩
 rintro ⟨i,t⟩ aM
 dsimp only at aM
 refine aZ ?_
 refine an (fun ai=>?_) (fun ai=>?_)
 · have a8:=n3 i (by omega) (by omega)
   refine aZ ?_
   refine fP ⟨by (try dsimp only [Option.getD_some,Option.getD_none]);omega,by omega⟩ ?_
   refine fQ [1] [.cells [aw ((gF t (aa ja i)).1.cZ), .own (((gF t (aa ja i)).1.held).map ea), .own (((gF t (aa ja i)).1.ints).map fh), .own (((gF t (aa ja i)).1.outs).map bB)]] (e6 ((gF t (aa ja i)).2)) rfl (fun bs az gd ao=>fun K U=>XW (bs.getD 1 0) t (aa ja i) (by omega) (by omega) (by omega) (by omega) az gd K (iH.up ao c1) U) ?_
   refine an (fun aC=>?_) (fun aC=>?_)
   · refine an (by omega) ?_
     refine ⟨(i+1,(gF t (aa ja i)).1),⟨rfl,rfl⟩,?_,?_⟩
     · try dsimp only
       exact ⟨by omega,by omega,by rw [aM.2.2.1,Ms aM.1 ai,if_pos aC],XZ aM.2.2.2.1 (by omega) aC,by have:=X0 t (aa ja i);omega⟩
     try dsimp only
     omega
   refine bt rfl fun _=>?_
   show K (.tuple [.agg [.int .i64 0, .slice false [], .slice false [], .slice false []], .err 115 5]) m
   rw [Mu BL (by omega) (by omega) J wE,if_neg (by rw [aM.2.2.1,Ms aM.1 ai,if_neg (by simp [aC])];simp)] at U
   exact U
 have X7:=aM.2.2.2.1
 have EO:hQ gp ja=(t,true):=by rw [aM.2.2.1];exact X3 (by omega)
 have ee:=Mu BL (by omega) (by omega) J wE
 rw [EO,if_pos rfl] at ee
 refine fQ [] [] (.aK (.tuple [.str (if cp t=0 then dy t else []), .err 115 (cp t)])) rfl (fun bs az gd ao=>fun K U=>FV t X7 az K (cY.up ao aJ) U) ?_
 refine aZ ?_
 refine cx [2,5] 61 ((!((cp t)==0))||(!((if cp t=0 then dy t else [])==s))) ?_ ?_
 · repeat' first
    |exact ⟨⟨_,rfl,by grind [bM.val]⟩,rfl⟩
    |refine an (fun _=>?_) (fun _=>?_)
 refine an (fun aN=>?_) (fun aN=>?_)
 · replace aN:(cp t≠0)∨((if cp t=0 then dy t else [])≠s):=((da aN).imp (fun q=>(ne_of_beq_false (dD q))) (fun q=>(ne_of_beq_false (dD q))))
   refine bt rfl fun _=>?_
   show K (.tuple [.agg [.int .i64 0, .slice false [], .slice false [], .slice false []], .err 115 5]) m
   rw [ee,if_neg (fun q=>by rcases aN with aN|aN;exact aN q.1;rw [if_pos q.1] at aN;exact aN q.2)] at U
   exact U
 replace aN:(cp t=0)∧((if cp t=0 then dy t else [])=s):=⟨(eq_of_beq (dC (bZ aN))),(eq_of_beq (dC (c8 aN)))⟩
 refine bt rfl fun _=>?_
 show K (.tuple [.agg [.int .i64 t.cZ, .slice false (t.held.map ea), .slice false (t.ints.map fh), .slice false (t.outs.map bB)], .err 115 0]) m
 rw [ee,if_pos ⟨aN.1,by rw [←aN.2,if_pos aN.1]⟩] at U
 exact U
end Go.Proofs
end
section
namespace Go.Proofs
open Go Go.bh Go.bS
set_option maxRecDepth 100000
def dH (n:ak):ak:=[115,116,97,116,101,46]++n
theorem Mw (n:ak):(dH n).length=n.length+6:=by simp [dH]
theorem Mx (s:cz) (c:e3):(gg s c).1.kept=s.kept:=by
 unfold gg;split
 · exact (pd s).1
 · exact (pd s).1
theorem X8 (s:cz) (n x:ak):(eG s n x).1.kept=s.kept:=by
 unfold eG;split
 · rfl
 · exact Mx _ _
theorem X9 (s:cz) (n x:ak):(dP s n x).1.kept=s.kept:=by
 unfold dP;split
 · rfl
 · split
   · rfl
   · split
     · exact (pd s).1
     · exact Mx _ _
theorem Ya (s:cz):(ej s).1.now=s.now:=by
 unfold ej;split
 · exact (pd s).2.1
 · exact (pd s).2.1
theorem hn.write {N:Nat} {s:cz} (h:hn N s) (n x:ak):hn (N+1) (eG s n x).1:=by
 unfold eG
 split
 · exact h.mono (by omega)
 · rename_i c
   have:=LN (Classical.not_not.1 c)
   exact h.do (by show x.length≤4000;omega)
theorem hn.move {N:Nat} {s:cz} (h:hn N s) (n x:ak):hn (N+1) (dP s n x).1:=by
 unfold dP
 split
 · exact h.mono (by omega)
 · split
   · exact h.mono (by omega)
   · split
     · exact h.step
     · exact h.do (by simp)
theorem My {m:ad} {a b c:Nat} {x y z:ed} (h:[a,b,c].Nodup):m.aX [(a,x),(b,y),(c,z)]=m.aX [(a,x),(c,z),(b,y)]:=by
 funext q
 simp only [List.nodup_cons,List.mem_cons,List.not_mem_nil,or_false,not_or] at h
 simp only [ad.aX,ad.bL]
 split
 · rfl
 · split
   · rename_i ax aI;subst aI;rw [if_neg h.2.1]
   · rfl
section
variable (d aT aG:Nat) {N:Nat} (s:cz)
theorem Yb (h:hn N s) (cd:[d,aG,aT].Nodup) (ly:N≤100000) (n x:ak) (aL:n.length≤1000) (ah:x.length≤1000000) (m:ad) (K:R→ad→Prop)
 (U:K (.err 115 (eG s n x).2) (ad.aX m [(d,bN aT aG (eG s n x).1),(aG,aS (eG s n x).1.now),(aT,aS (eG s n x).1.kept)])):bn Tryz.prog 100 [.ptr ⟨d,0,none⟩, .str n, .str x] (ad.aX m [(d,bN aT aG s),(aG,aS s.now),(aT,aS s.kept)]) K:=by
 refine W3 d aT aG s n x N (cd.sublist (by simp)) h ly (by omega) (by omega) (m.aX [(aT,aS s.kept)]) K ?_
 rw [X8] at U
 exact U
theorem Yc (h:hn N s) (cd:[d,aG,aT].Nodup) (ly:N≤100000) (n x:ak) (aL:n.length≤1000) (ah:x.length≤1000) (m:ad) (K:R→ad→Prop)
 (U:K (.err 115 (dP s n x).2) (ad.aX m [(d,bN aT aG (dP s n x).1),(aG,aS (dP s n x).1.now),(aT,aS (dP s n x).1.kept)])):bn Tryz.prog 103 [.ptr ⟨d,0,none⟩, .str n, .str x] (ad.aX m [(d,bN aT aG s),(aG,aS s.now),(aT,aS s.kept)]) K:=by
 refine Xb d aT aG s n x N (cd.sublist (by simp)) h ly (by omega) (by omega) (m.aX [(aT,aS s.kept)]) K ?_
 rw [X9] at U
 exact U
theorem Mz (h:hn N s) (cd:[d,aG,aT].Nodup) (ly:N≤100000) (m:ad) (K:R→ad→Prop)
 (U:K (.err 115 (ej s).2) (ad.aX m [(d,bN aT aG (ej s).1),(aG,aS (ej s).1.now),(aT,aS (ej s).1.kept)])):bn Tryz.prog 101 [.ptr ⟨d,0,none⟩] (ad.aX m [(d,bN aT aG s),(aG,aS s.now),(aT,aS s.kept)]) K:=by
 rw [My cd]
 refine W6 d aT aG s N (cd.sublist (by simp)) h ly (m.aX [(aG,aS s.now)]) K ?_
 rw [My cd,Ya] at U
 exact U
end
noncomputable def pg (s:cz) (n:ak):dr×Int:=if b1 n=false then (gp,3) else if (gE s (dH n)).2=7 then (gp,0) else if (gE s (dH n)).2≠0 then (gp,(gE s (dH n)).2) else kM (gE s (dH n)).1
def lA (n x:ak) (i:Int) (s:cz):cz×Int:=if i=0 then eG s [110,101,119] x else if i=2 then dP s [110,101,119] (dH n) else ej s
def kN (n x:ak):Nat→Int→cz→cz×Int
 |0,_,s=>(s,0)
 |k+1,i,s=>if (lA n x i s).2≠0 then lA n x i s else kN n x k (i+1) (lA n x i s).1
noncomputable def kO (s:cz) (n:ak) (a:dr):cz×Int:=if b1 n=false then (s,3) else if cp a≠0 then (s,cp a) else if 4000<((dy a).length:Int) then (s,2) else kN n (dy a) 4 0 s
theorem sL {n x:ak} {i:Int} {s:cz} (ab:i<4):kN n x (4- i).toNat i s=if (lA n x i s).2≠0 then lA n x i s else kN n x (4- (i+1)).toNat (i+1) (lA n x i s).1:=by
 rw [show (4- i).toNat=(4- (i+1)).toNat+1 by omega,kN]
theorem Yd {n x:ak} {i:Int} {s:cz} (ab:4≤i):kN n x (4- i).toNat i s=(s,0):=by rw [show (4- i).toNat=0 by omega,kN]
theorem Ye (n x:ak) (s:cz):lA n x 0 s=eG s [110,101,119] x:=rfl
theorem Yf (n x:ak) (s:cz):lA n x 1 s=ej s:=rfl
theorem Yg (n x:ak) (s:cz):lA n x 2 s=dP s [110,101,119] (dH n):=rfl
theorem Yh (n x:ak) (s:cz):lA n x 3 s=ej s:=rfl
theorem MA (s:ak) (al:s.length≤5000) (m:ad) (K:R→ad→Prop) (U:K (.str (dH s)) m):bn Tryz.prog 98 [.str s] m K:=by
 refine enter (c:=cP [] [] [] [] [] []) (vs:=[.aK (.str s)]) (L:=[]) (m:=m) false cc Tryz.mixed Tryz.func98 rfl (k:=1) (by show cJ [] _ _ _=true;decide+kernel) rfl (Good.nil m) ?_
 refine an (by (first|omega|(simp only [List.length_append,List.length_cons,List.length_nil];omega))) ?_
 exact bt rfl fun _=>U
set_option maxHeartbeats 4000000 in
theorem wF (d aG aT:Nat) (s:cz) (n:ak) (ae:(gE s (dH n)).1.length≤16777216) (m:ad) (gd:fx [d,aG,aT] m) (K:R→ad→Prop) (c1:iH m) (U:K (.tuple [gR (pg s n).1, .err 115 (pg s n).2]) (ad.aX m [(d,bN aT aG s),(aG,aS s.now),(aT,aS s.kept)])):bn Tryz.prog 42 [.ptr ⟨d,0,none⟩, .str n] (ad.aX m [(d,bN aT aG s),(aG,aS s.now),(aT,aS s.kept)]) K:=by
 refine enter (c:=cP [] [] [] [] [] [d,aG,aT]) (vs:=[.loc 0 0, .aK (.str n)]) (L:=[.cells [.mp 2, .mp 1, .own (s.wait.map di),aw s.cu,e6 s.down,aw s.steps], .obj (aS s.now), .obj (aS s.kept)]) (m:=m) true cc Tryz.mixed Tryz.func42 rfl (k:=2) (by show cJ [] _ _ _=true;decide+kernel) rfl (gd.jq rfl) ?_
 refine aZ ?_
 refine ct (fun _=>yZ n) rfl ?_
 refine an (fun I=>?_) (fun I=>?_)
 · refine ct (fun _=>MA n (by have:=pb (by assumption);omega)) rfl ?_
   refine fE [0,1] [.cells [.mp 2, .mp 1, .own (s.wait.map di),aw s.cu,e6 s.down,aw s.steps], .obj (aS s.now)] (.aK (.tuple [.str ((gE s (dH n)).1), .err 115 ((gE s (dH n)).2)])) rfl (fun bs az gd=>W4 (bs.getD 0 0) (bs.getD 2 0) (bs.getD 1 0) s (dH n) gd.iR az) ?_
   refine aZ ?_
   refine an (by decide) ?_
   refine an (fun J=>?_) (fun J=>?_)
   · refine rt rfl fun _=>?_
     show K (.tuple [.agg [.int .i64 0, .slice false [], .slice false [], .slice false []], .err 115 0]) (ad.aX m [(d,bN aT aG s),(aG,aS s.now),(aT,aS s.kept)])
     rw [pg,if_neg (by simp [I]),if_pos J] at U
     exact U
   refine aZ ?_
   refine an (fun ai=>?_) (fun ai=>?_)
   · refine fQ [] [] (.aK (.tuple [gR ((kM ((gE s (dH n)).1)).1), .err 115 ((kM ((gE s (dH n)).1)).2)])) rfl (fun bs az gd ao=>fun K U=>Mv ((gE s (dH n)).1) (by omega) az K (iH.up ao c1) U) ?_
     refine rt rfl fun _=>?_
     show K (.tuple [.agg [.int .i64 (((kM ((gE s (dH n)).1)).1).cZ), .slice false ((((kM ((gE s (dH n)).1)).1).held).map ea), .slice false ((((kM ((gE s (dH n)).1)).1).ints).map fh), .slice false ((((kM ((gE s (dH n)).1)).1).outs).map bB)], .err 115 ((kM ((gE s (dH n)).1)).2)]) (ad.aX m [(d,bN aT aG s),(aG,aS s.now),(aT,aS s.kept)])
     rw [pg,if_neg (by simp [I]),if_neg J,if_neg (fun q=>q ai)] at U
     exact U
   refine rt rfl fun _=>?_
   show K (.tuple [.agg [.int .i64 0, .slice false [], .slice false [], .slice false []], .err 115 ((gE s (dH n)).2)]) (ad.aX m [(d,bN aT aG s),(aG,aS s.now),(aT,aS s.kept)])
   rw [pg,if_neg (by simp [I]),if_neg J,if_pos ai] at U
   exact U
 refine rt rfl fun _=>?_
 show K (.tuple [.agg [.int .i64 0, .slice false [], .slice false [], .slice false []], .err 115 3]) (ad.aX m [(d,bN aT aG s),(aG,aS s.now),(aT,aS s.kept)])
 rw [pg,if_pos I] at U
 exact U
end Go.Proofs
end
section
namespace Go.Proofs
open Go Go.bh Go.bS
set_option maxRecDepth 100000
theorem Yi (c0 fH d aG aT:Nat) (s:cz) (x:ak) (N:Nat) (gD:hn N s) (ly:N≤100000) (ah:x.length≤1000000) (m:ad) (gd:fx [c0,fH,d,aG,aT] m) (K:R→ad→Prop) (U:K (.err 115 (eG s [110,101,119] x).2) (ad.aX m [(c0, .cells [.ptr ⟨d,0,none⟩]),(fH, .cells [.str x]),(d,bN aT aG (eG s [110,101,119] x).1),(aG,aS (eG s [110,101,119] x).1.now),(aT,aS (eG s [110,101,119] x).1.kept)])):bn Tryz.prog 99 [.ptr ⟨c0,0,none⟩, .ptr ⟨fH,0,none⟩] (ad.aX m [(c0, .cells [.ptr ⟨d,0,none⟩]),(fH, .cells [.str x]),(d,bN aT aG s),(aG,aS s.now),(aT,aS s.kept)]) K:=by
 refine enter (c:=cP [] [] [] [] [] [c0,fH,d,aG,aT]) (vs:=[.loc 0 0, .loc 1 0]) (L:=[.cells [.loc 2 0], .cells [bf x], .cells [.mp 4, .mp 3, .own (s.wait.map di),aw s.cu,e6 s.down,aw s.steps], .obj (aS s.now), .obj (aS s.kept)]) (m:=m) true cc Tryz.mixed Tryz.func99 rfl (k:=2) (by show cJ [] _ _ _=true;decide+kernel) rfl (gd.jq rfl) ?_
 refine fE [2,3,4] [.cells [.mp 4, .mp 3, .own (((eG s [110,101,119] x).1.wait).map di),aw ((eG s [110,101,119] x).1.cu),e6 ((eG s [110,101,119] x).1.down),aw ((eG s [110,101,119] x).1.steps)], .obj (aS ((eG s [110,101,119] x).1.now)), .obj (aS ((eG s [110,101,119] x).1.kept))] (.aK (.err 115 ((eG s [110,101,119] x).2))) rfl (fun bs az gd=>Yb (bs.getD 2 0) (bs.getD 4 0) (bs.getD 3 0) s gD gd.iR ly _ _ (by decide) ah az) ?_
 exact rt rfl fun _=>U
theorem Yj (c0 fH d aG aT:Nat) (s:cz) (x:ak) (N:Nat) (gD:hn N s) (ly:N≤100000) (ah:x.length≤900) (m:ad) (gd:fx [c0,fH,d,aG,aT] m) (K:R→ad→Prop) (U:K (.err 115 (dP s [110,101,119] (dH x)).2) (ad.aX m [(c0, .cells [.ptr ⟨d,0,none⟩]),(fH, .cells [.str x]),(d,bN aT aG (dP s [110,101,119] (dH x)).1),(aG,aS (dP s [110,101,119] (dH x)).1.now),(aT,aS (dP s [110,101,119] (dH x)).1.kept)])):bn Tryz.prog 102 [.ptr ⟨c0,0,none⟩, .ptr ⟨fH,0,none⟩] (ad.aX m [(c0, .cells [.ptr ⟨d,0,none⟩]),(fH, .cells [.str x]),(d,bN aT aG s),(aG,aS s.now),(aT,aS s.kept)]) K:=by
 refine enter (c:=cP [] [] [] [1003] [] [c0,fH,d,aG,aT]) (vs:=[.loc 0 0, .loc 1 0]) (L:=[.cells [.loc 2 0], .cells [bf x], .cells [.mp 4, .mp 3, .own (s.wait.map di),aw s.cu,e6 s.down,aw s.steps], .obj (aS s.now), .obj (aS s.kept)]) (m:=m) true cc Tryz.mixed Tryz.func102 rfl (k:=2) (by show cJ [1003] _ _ _=true;decide+kernel) rfl (gd.jq rfl) ?_
 refine hx (fun _=>MA x (by omega)) ?_
 refine fE [2,3,4] [.cells [.mp 4, .mp 3, .own (((dP s [110,101,119] (dH x)).1.wait).map di),aw ((dP s [110,101,119] (dH x)).1.cu),e6 ((dP s [110,101,119] (dH x)).1.down),aw ((dP s [110,101,119] (dH x)).1.steps)], .obj (aS ((dP s [110,101,119] (dH x)).1.now)), .obj (aS ((dP s [110,101,119] (dH x)).1.kept))] (.aK (.err 115 ((dP s [110,101,119] (dH x)).2))) rfl (fun bs az gd=>Yc (bs.getD 2 0) (bs.getD 4 0) (bs.getD 3 0) s gD gd.iR ly _ _ (by decide) (by rw [Mw];omega) az) ?_
 exact rt rfl fun _=>U
set_option maxHeartbeats 4000000 in
theorem y3 (d aG aT:Nat) (s:cz) (n:ak) (a:dr) (N:Nat) (b4:p1 a) (gD:hn N s) (ly:N≤1000) (m:ad) (gd:fx [d,aG,aT] m) (K:R→ad→Prop) (aJ:cY m) (U:K (.err 115 (kO s n a).2) (ad.aX m [(d,bN aT aG (kO s n a).1),(aG,aS (kO s n a).1.now),(aT,aS (kO s n a).1.kept)])):bn Tryz.prog 43 [.ptr ⟨d,0,none⟩, .str n,gR a] (ad.aX m [(d,bN aT aG s),(aG,aS s.now),(aT,aS s.kept)]) K:=by
 obtain ⟨ec,wG⟩:∃t,(if cp a=0 then dy a else [])=t:=⟨_,rfl⟩
 refine enter (c:=cP [1000038] [] [] [] [8] [d,aG,aT]) (vs:=[.loc 0 0, .aK (.str n), .aK (gR a)]) (L:=[.cells [.mp 2, .mp 1, .own (s.wait.map di),aw s.cu,e6 s.down,aw s.steps], .obj (aS s.now), .obj (aS s.kept)]) (m:=m) true cc Tryz.mixed Tryz.func43 rfl (k:=3) (by show cJ [] _ _ _=true;decide+kernel) rfl (gd.jq rfl) ?_
 refine aZ ?_
 refine ct (fun _=>yZ n) rfl ?_
 refine an (fun I=>?_) (fun I=>?_)
 · have hq:n.length≤900:=by have:=pb I;omega
   refine fQ [] [] (.aK (.tuple [.str ec, .err 115 (cp a)])) rfl (fun bs az gd ao=>fun K U=>FV a b4 az K (cY.up ao aJ) (by rw [wG];exact U)) ?_
   refine aZ ?_
   refine an (fun J=>?_) (fun J=>?_)
   · have ah:ec=dy a:=by rw [←wG,if_pos J]
     refine aZ ?_
     refine an (fun ai=>?_) (fun ai=>?_)
     · refine rt rfl fun _=>?_
       show K (.err 115 2) (ad.aX m [(d,bN aT aG s),(aG,aS s.now),(aT,aS s.kept)])
       rw [kO,if_neg (by simp [I]),if_neg (fun q=>q J),if_pos (by rw [←ah];exact ai)] at U
       exact U
     refine aZ ?_
     refine TK cc [33] (by decide+kernel) ?_
     refine TE cc rfl rfl (by decide+kernel) ⟨rfl,rfl⟩ rfl rfl rfl rfl ?_
     refine an (by omega) ?_
     refine ev (σ:=Int×cz) [] [33,34,35] 8 (fun ⟨i,z⟩=>([(33, .ms 7 4 4),(34,aw ((4:Nat):Int)),(35,aw i)],[.cells [.mp 2, .mp 1, .own (z.wait.map di),aw z.cu,e6 z.down,aw z.steps], .obj (aS z.now), .obj (aS z.kept), .cells [.loc 0 0], .cells [bf n], .cells [aw a.cZ,bj (a.held.map ea),bj (a.ints.map fh),bj (a.outs.map bB)], .cells [bf ec], .cells [.fn 99 [] [.loc 3 0, .loc 6 0], .fn 101 [.loc 0 0] [], .fn 102 [] [.loc 3 0, .loc 4 0], .fn 101 [.loc 0 0] []]],m)) (fun ⟨i,z⟩=>0≤i∧i≤4∧kO s n a=kN n ec (4- i).toNat i z∧hn (N+i.toNat) z) (fun ⟨i,z⟩=>(4- i).toNat) (0,s) ⟨rfl,rfl⟩ ?_ ?_
     · try dsimp only
       exact ⟨by omega,by omega,by rw [kO,if_neg (by simp [I]),if_neg (fun q=>q J),if_neg (by rw [←ah];omega),←ah];rfl,by simpa using gD⟩
     rintro ⟨i,z⟩ aM
     dsimp only at aM
     refine aZ ?_
     refine an (fun aC=>?_) (fun aC=>?_)
     · refine aZ ?_
       refine an (by omega) ?_
       refine TJ cc rfl rfl rfl (by first|omega|(simp;omega)) rfl ⟨fun aN=>?_,fun aN=>?_,fun aN=>?_,fun aN=>?_,trivial⟩
       · replace aN:i=0:=aN
         refine fE [3,6,0,1,2] [.cells [.loc 0 0], .cells [bf ec], .cells [.mp 2, .mp 1, .own (((eG z [110,101,119] ec).1.wait).map di),aw ((eG z [110,101,119] ec).1.cu),e6 ((eG z [110,101,119] ec).1.down),aw ((eG z [110,101,119] ec).1.steps)], .obj (aS ((eG z [110,101,119] ec).1.now)), .obj (aS ((eG z [110,101,119] ec).1.kept))] (.aK (.err 115 ((eG z [110,101,119] ec).2))) rfl (fun bs az gd=>Yi (bs.getD 3 0) (bs.getD 6 0) (bs.getD 0 0) (bs.getD 1 0) (bs.getD 2 0) z ec _ aM.2.2.2 (by omega) (by omega) az gd) ?_
         refine an (fun bE=>?_) (fun bE=>?_)
         · refine an (by omega) ?_
           refine ⟨(i+1,(eG z [110,101,119] ec).1),⟨rfl,rfl⟩,?_,?_⟩
           · try dsimp only
             have e:=sL (n:=n) (x:=ec) (i:=i) (s:=z) (by omega);rw [show lA n ec i z=eG z [110,101,119] ec from by rw [aN];rfl,if_neg (fun q=>q (by assumption))] at e;exact ⟨by omega,by omega,aM.2.2.1.trans e,by rw [show N+(i+1).toNat=N+i.toNat+1 by omega];exact aM.2.2.2.write _ _⟩
           try dsimp only
           omega
         refine rt rfl fun _=>?_
         show K (.err 115 ((eG z [110,101,119] ec).2)) (ad.aX m [(d,bN aT aG ((eG z [110,101,119] ec).1)),(aG,aS ((eG z [110,101,119] ec).1.now)),(aT,aS ((eG z [110,101,119] ec).1.kept))])
         have e:=sL (n:=n) (x:=ec) (i:=i) (s:=z) (by omega)
         rw [show lA n ec i z=eG z [110,101,119] ec from by rw [aN];rfl,if_pos (by assumption)] at e
         rw [aM.2.2.1.trans e] at U
         exact U
       · replace aN:i=1:=aN
         refine fE [0,1,2] [.cells [.mp 2, .mp 1, .own (((ej z).1.wait).map di),aw ((ej z).1.cu),e6 ((ej z).1.down),aw ((ej z).1.steps)], .obj (aS ((ej z).1.now)), .obj (aS ((ej z).1.kept))] (.aK (.err 115 ((ej z).2))) rfl (fun bs az gd=>Mz (bs.getD 0 0) (bs.getD 2 0) (bs.getD 1 0) z aM.2.2.2 gd.iR (by omega) az) ?_
         refine an (fun dk=>?_) (fun dk=>?_)
         · refine an (by omega) ?_
           refine ⟨(i+1,(ej z).1),⟨rfl,rfl⟩,?_,?_⟩
           · try dsimp only
             have e:=sL (n:=n) (x:=ec) (i:=i) (s:=z) (by omega);rw [show lA n ec i z=ej z from by rw [aN];rfl,if_neg (fun q=>q (by assumption))] at e;exact ⟨by omega,by omega,aM.2.2.1.trans e,by rw [show N+(i+1).toNat=N+i.toNat+1 by omega];exact aM.2.2.2.sync⟩
           try dsimp only
           omega
         refine rt rfl fun _=>?_
         show K (.err 115 ((ej z).2)) (ad.aX m [(d,bN aT aG ((ej z).1)),(aG,aS ((ej z).1.now)),(aT,aS ((ej z).1.kept))])
         have e:=sL (n:=n) (x:=ec) (i:=i) (s:=z) (by omega)
         rw [show lA n ec i z=ej z from by rw [aN];rfl,if_pos (by assumption)] at e
         rw [aM.2.2.1.trans e] at U
         exact U
       · replace aN:i=2:=aN
         refine fE [3,4,0,1,2] [.cells [.loc 0 0], .cells [bf n], .cells [.mp 2, .mp 1, .own (((dP z [110,101,119] (dH n)).1.wait).map di),aw ((dP z [110,101,119] (dH n)).1.cu),e6 ((dP z [110,101,119] (dH n)).1.down),aw ((dP z [110,101,119] (dH n)).1.steps)], .obj (aS ((dP z [110,101,119] (dH n)).1.now)), .obj (aS ((dP z [110,101,119] (dH n)).1.kept))] (.aK (.err 115 ((dP z [110,101,119] (dH n)).2))) rfl (fun bs az gd=>Yj (bs.getD 3 0) (bs.getD 4 0) (bs.getD 0 0) (bs.getD 1 0) (bs.getD 2 0) z n _ aM.2.2.2 (by omega) hq az gd) ?_
         refine an (fun cW=>?_) (fun cW=>?_)
         · refine an (by omega) ?_
           refine ⟨(i+1,(dP z [110,101,119] (dH n)).1),⟨rfl,rfl⟩,?_,?_⟩
           · try dsimp only
             have e:=sL (n:=n) (x:=ec) (i:=i) (s:=z) (by omega);rw [show lA n ec i z=dP z [110,101,119] (dH n) from by rw [aN];rfl,if_neg (fun q=>q (by assumption))] at e;exact ⟨by omega,by omega,aM.2.2.1.trans e,by rw [show N+(i+1).toNat=N+i.toNat+1 by omega];exact aM.2.2.2.move _ _⟩
           try dsimp only
           omega
         refine rt rfl fun _=>?_
         show K (.err 115 ((dP z [110,101,119] (dH n)).2)) (ad.aX m [(d,bN aT aG ((dP z [110,101,119] (dH n)).1)),(aG,aS ((dP z [110,101,119] (dH n)).1.now)),(aT,aS ((dP z [110,101,119] (dH n)).1.kept))])
         have e:=sL (n:=n) (x:=ec) (i:=i) (s:=z) (by omega)
         rw [show lA n ec i z=dP z [110,101,119] (dH n) from by rw [aN];rfl,if_pos (by assumption)] at e
         rw [aM.2.2.1.trans e] at U
         exact U
       replace aN:i=3:=aN
       refine fE [0,1,2] [.cells [.mp 2, .mp 1, .own (((ej z).1.wait).map di),aw ((ej z).1.cu),e6 ((ej z).1.down),aw ((ej z).1.steps)], .obj (aS ((ej z).1.now)), .obj (aS ((ej z).1.kept))] (.aK (.err 115 ((ej z).2))) rfl (fun bs az gd=>Mz (bs.getD 0 0) (bs.getD 2 0) (bs.getD 1 0) z aM.2.2.2 gd.iR (by omega) az) ?_
       refine an (fun dB=>?_) (fun dB=>?_)
       · refine an (by omega) ?_
         refine ⟨(i+1,(ej z).1),⟨rfl,rfl⟩,?_,?_⟩
         · try dsimp only
           have e:=sL (n:=n) (x:=ec) (i:=i) (s:=z) (by omega);rw [show lA n ec i z=ej z from by rw [aN];rfl,if_neg (fun q=>q (by assumption))] at e;exact ⟨by omega,by omega,aM.2.2.1.trans e,by rw [show N+(i+1).toNat=N+i.toNat+1 by omega];exact aM.2.2.2.sync⟩
         try dsimp only
         omega
       refine rt rfl fun _=>?_
       show K (.err 115 ((ej z).2)) (ad.aX m [(d,bN aT aG ((ej z).1)),(aG,aS ((ej z).1.now)),(aT,aS ((ej z).1.kept))])
       have e:=sL (n:=n) (x:=ec) (i:=i) (s:=z) (by omega)
       rw [show lA n ec i z=ej z from by rw [aN];rfl,if_pos (by assumption)] at e
       rw [aM.2.2.1.trans e] at U
       exact U
     refine rt rfl fun _=>?_
     show K (.err 115 0) (ad.aX m [(d,bN aT aG z),(aG,aS z.now),(aT,aS z.kept)])
     rw [aM.2.2.1,Yd (by omega)] at U
     exact U
   refine rt rfl fun _=>?_
   show K (.err 115 (cp a)) (ad.aX m [(d,bN aT aG s),(aG,aS s.now),(aT,aS s.kept)])
   rw [kO,if_neg (by simp [I]),if_pos J] at U
   exact U
 refine rt rfl fun _=>?_
 show K (.err 115 3) (ad.aX m [(d,bN aT aG s),(aG,aS s.now),(aT,aS s.kept)])
 rw [kO,if_pos I] at U
 exact U
end Go.Proofs
end
section
namespace Go.Proofs
open Go Go.bh Go.bS
set_option maxRecDepth 100000
noncomputable def wH (a b:gh):Bool:=(((a.name==b.name)&&(a.kind==b.kind))&&(a.id==b.id))&&hd a.attrs b.attrs
theorem BM {a b:gh}:wH a b=true↔a=b:=by
 obtain ⟨n,k,i,v⟩:=a
 obtain ⟨gq,jX,i2,v2⟩:=b
 simp only [wH,Bool.and_eq_true,beq_iff_eq,gh.mk.injEq,hd,decide_eq_true_eq,and_assoc]
open Classical in
noncomputable def sM (a b:List (ak×aR)):Bool:=decide (a=b)
open Classical in
noncomputable def uk (a b:dr):Bool:=decide (a=b)
theorem Yk {a b:List (ak×aR)} (h:a=b):sM a b=true:=by simp [sM,h]
theorem MB {a b:List (ak×aR)} (h:a≠b):sM a b=false:=by simp [sM,h]
theorem Yl {a b:dr} (h:a=b):uk a b=true:=by simp [uk,h]
theorem F1 {a b:dr} (h:a≠b):uk a b=false:=by simp [uk,h]
theorem F2 {α:Type} {a b:List α} {i:Int} (h:(a.length:Int)=b.length) (ab:(a.length:Int)≤i) (aB:a.take i.toNat=b.take i.toNat):a=b:=by
 rwa [jM (by omega),jM (by omega)] at aB
theorem F3 {α:Type} [Inhabited α] {a b:List α} {i:Int} (aq:0≤i) (aH:i<a.length) (ae:i<b.length) (h:aa a i=aa b i) (aB:a.take i.toNat=b.take i.toNat):a.take (i+1).toNat=b.take (i+1).toNat:=by
 rw [lP aq aH,lP aq ae,h,aB]
theorem Ym {x y:jR} (I:x.held=y.held) (J:x.op=y.op) (ai:x.tok=y.tok):x=y:=by
 obtain ⟨a,b,c⟩:=x
 obtain ⟨d,e,f⟩:=y
 simp_all
theorem Yn {a b:dr} (I:a.cZ=b.cZ) (J:a.held=b.held) (ai:a.ints=b.ints):uk a b=sM a.outs b.outs:=by
 obtain ⟨s,h,i,o⟩:=a
 obtain ⟨s2,cb,i2,o5⟩:=b
 simp only at I J ai
 subst I J ai
 simp [uk,sM]
theorem Yo {a b:aR} (h:hd a b=true):a=b:=by simpa [hd] using h
set_option maxHeartbeats 1000000 in
theorem MC (a b:gh) (m:ad) (K:R→ad→Prop) (U:K (.bool (wH a b)) m):bn Tryz.prog 104 [ea a,ea b] m K:=by
 refine enter (c:=cP [] [] [2] [] [] []) (vs:=[.aK (ea a), .aK (ea b)]) (L:=[]) (m:=m) false cc Tryz.mixed Tryz.func104 rfl (k:=2) (by show cJ [] _ _ _=true;decide+kernel) rfl (Good.nil m) ?_
 refine ct (fun _=>Ki a.attrs b.attrs) rfl ?_
 refine cx [] 4 ((((a.name==b.name)&&(a.kind==b.kind))&&(a.id==b.id))&&(hd a.attrs b.attrs)) ?_ ?_
 · repeat' first
    |exact ⟨⟨_,rfl,by grind [bM.val]⟩,rfl⟩
    |refine an (fun _=>?_) (fun _=>?_)
 exact bt rfl fun _=>U
set_option maxHeartbeats 1000000 in
theorem Yp (a b:List (ak×aR)) (m:ad) (K:R→ad→Prop) (U:K (.bool (sM a b)) m):bn Tryz.prog 105 [.slice false (a.map bB), .slice false (b.map bB)] m K:=by
 refine enter (c:=cP [] [0] [7] [] [] []) (vs:=[.aK (.slice false (a.map bB)), .aK (.slice false (b.map bB))]) (L:=[]) (m:=m) false cc Tryz.mixed Tryz.func105 rfl (k:=2) (by show cJ [] _ _ _=true;decide+kernel) rfl (Good.nil m) ?_
 refine ⟨fun c6=>?_⟩
 have yJ:a.length≤140737488355328:=gj (o:=false) (c6 0).1
 refine aZ ?_
 refine dq ?_
 refine dq ?_
 refine an (fun I=>?_) (fun I=>?_)
 · refine aZ ?_
   refine ev (σ:=Int) [] [0,1,5] 0 (fun i=>([(0,bj (a.map bB)),(1,bj (b.map bB)),(5,aw i)],[],m)) (fun i=>0≤i∧i≤a.length∧(a.length:Int)=b.length∧a.take i.toNat=b.take i.toNat) (fun i=>a.length- i.toNat) (0) ⟨rfl,rfl⟩ ?_ ?_
   · try dsimp only
     exact ⟨by omega,by omega,I,rfl⟩
   rintro i aM
   refine aZ ?_
   refine dq ?_
   refine an (fun J=>?_) (fun J=>?_)
   · refine aZ ?_
     refine e0 gA fI (by omega) ?_
     refine e0 gA fI (by omega) ?_
     refine hx (fun _=>Ki ((aa a i).2) ((aa b i).2)) ?_
     refine cx [0,1,5] 43 ((!(((aa a i).1)==((aa b i).1)))||(!(hd ((aa a i).2) ((aa b i).2)))) ?_ ?_
     · repeat' first
        |exact ⟨⟨_,rfl,by grind [bM.val]⟩,rfl⟩
        |refine an (fun _=>?_) (fun _=>?_)
        |refine e0 gA fI (by omega) ?_
     refine an (fun ai=>?_) (fun ai=>?_)
     · replace ai:((aa a i).1≠(aa b i).1)∨(hd ((aa a i).2) ((aa b i).2)=false):=((da ai).imp (fun q=>(ne_of_beq_false (dD q))) (fun q=>(dD q)))
       refine bt rfl fun _=>?_
       show K (.bool false) m
       rw [MB (fun e=>by rw [e] at ai;rcases ai with h|h;(· exact h rfl);(· rw [tS rfl] at h;cases h))] at U
       exact U
     replace ai:((aa a i).1=(aa b i).1)∧(hd ((aa a i).2) ((aa b i).2)=true):=⟨(eq_of_beq (dC (bZ ai))),(dC (c8 ai))⟩
     refine an (by omega) ?_
     refine ⟨(i+1),⟨rfl,rfl⟩,?_,?_⟩
     · try dsimp only
       exact ⟨by omega,by omega,aM.2.2.1,F3 aM.1 J (by omega) (Prod.ext ai.1 (Yo ai.2)) aM.2.2.2⟩
     try dsimp only
     omega
   refine bt rfl fun _=>?_
   show K (.bool true) m
   rw [Yk (F2 aM.2.2.1 (by omega) aM.2.2.2)] at U
   exact U
 refine bt rfl fun _=>?_
 show K (.bool false) m
 rw [MB (fun e=>I (by rw [e]))] at U
 exact U
set_option maxHeartbeats 2000000 in
theorem Yq (a b:dr) (m:ad) (K:R→ad→Prop) (U:K (.bool (uk a b)) m):bn Tryz.prog 44 [gR a,gR b] m K:=by
 refine enter (c:=cP [] [0] [1,13] [] [] []) (vs:=[.aK (gR a), .aK (gR b)]) (L:=[]) (m:=m) false cc Tryz.mixed Tryz.func44 rfl (k:=2) (by show cJ [] _ _ _=true;decide+kernel) rfl (Good.nil m) ?_
 refine ⟨fun c6=>?_⟩
 have Yr:a.held.length≤140737488355328:=gj (c6 0 1 (Nat.le_of_ble_eq_true rfl))
 have rj:a.ints.length≤140737488355328:=gj (c6 0 2 (Nat.le_of_ble_eq_true rfl))
 have pY:a.outs.length≤140737488355328:=gj (c6 0 3 (Nat.le_of_ble_eq_true rfl))
 refine aZ ?_
 refine cx [2,3] 40 ((((!(a.cZ==b.cZ))||(!((a.held.length:Int)==(b.held.length:Int))))||(!((a.ints.length:Int)==(b.ints.length:Int))))||(!((a.outs.length:Int)==(b.outs.length:Int)))) ?_ ?_
 · repeat' first
    |exact ⟨⟨_,rfl,by grind [bM.val]⟩,rfl⟩
    |refine an (fun _=>?_) (fun _=>?_)
    |refine dq ?_
 refine an (fun I=>?_) (fun I=>?_)
 · replace I:(((a.cZ≠b.cZ)∨((a.held.length:Int)≠(b.held.length:Int)))∨((a.ints.length:Int)≠(b.ints.length:Int)))∨((a.outs.length:Int)≠(b.outs.length:Int)):=((da I).imp (fun q=>((da q).imp (fun q=>((da q).imp (fun q=>(ne_of_beq_false (dD q))) (fun q=>(ne_of_beq_false (dD q))))) (fun q=>(ne_of_beq_false (dD q))))) (fun q=>(ne_of_beq_false (dD q))))
   refine bt rfl fun _=>?_
   show K (.bool false) m
   rw [F1 (fun e=>by subst e;simp at I)] at U
   exact U
 replace I:(((a.cZ=b.cZ)∧((a.held.length:Int)=(b.held.length:Int)))∧((a.ints.length:Int)=(b.ints.length:Int)))∧((a.outs.length:Int)=(b.outs.length:Int)):=⟨⟨⟨(eq_of_beq (dC (bZ (bZ (bZ I))))),(eq_of_beq (dC (c8 (bZ (bZ I)))))⟩,(eq_of_beq (dC (c8 (bZ I))))⟩,(eq_of_beq (dC (c8 I)))⟩
 refine aZ ?_
 refine ev (σ:=Int) [] [2,3,5] 2 (fun i=>([(2, .loc 0 0),(3, .loc 1 0),(5,aw i)],[.cells [aw a.cZ,bj (a.held.map ea),bj (a.ints.map fh),bj (a.outs.map bB)], .cells [aw b.cZ,bj (b.held.map ea),bj (b.ints.map fh),bj (b.outs.map bB)]],m)) (fun i=>0≤i∧i≤a.held.length∧a.held.take i.toNat=b.held.take i.toNat) (fun i=>a.held.length- i.toNat) (0) ⟨rfl,rfl⟩ ?_ ?_
 · try dsimp only
   exact ⟨by omega,by omega,rfl⟩
 rintro i aM
 refine aZ ?_
 refine dq ?_
 refine an (fun J=>?_) (fun J=>?_)
 · refine aZ ?_
   refine fP (by omega) ?_
   refine fP (by omega) ?_
   refine hx (fun _=>MC (aa a.held i) (aa b.held i)) ?_
   refine an (fun ai=>?_) (fun ai=>?_)
   · refine an (by omega) ?_
     refine ⟨(i+1),⟨rfl,rfl⟩,?_,?_⟩
     · try dsimp only
       exact ⟨by omega,by omega,F3 aM.1 J (by omega) (BM.1 ai) aM.2.2⟩
     try dsimp only
     omega
   refine bt rfl fun _=>?_
   show K (.bool false) m
   rw [F1 (fun e=>by rw [e,BM.2 rfl] at ai;cases ai)] at U
   exact U
 refine aZ ?_
 refine ev (σ:=Int) [] [2,3,7] 2 (fun k=>([(2, .loc 0 0),(3, .loc 1 0),(7,aw k)],[.cells [aw a.cZ,bj (a.held.map ea),bj (a.ints.map fh),bj (a.outs.map bB)], .cells [aw b.cZ,bj (b.held.map ea),bj (b.ints.map fh),bj (b.outs.map bB)]],m)) (fun k=>0≤k∧k≤a.ints.length∧a.ints.take k.toNat=b.ints.take k.toNat) (fun k=>a.ints.length- k.toNat) (0) ⟨rfl,rfl⟩ ?_ ?_
 · try dsimp only
   exact ⟨by omega,by omega,rfl⟩
 rintro k cg
 refine aZ ?_
 refine dq ?_
 refine an (fun aC=>?_) (fun aC=>?_)
 · refine aZ ?_
   refine fP (by omega) ?_
   refine fP (by omega) ?_
   refine hx (fun _=>MC ((aa a.ints k).held) ((aa b.ints k).held)) ?_
   refine cx [2,3,7] 112 (((!(wH ((aa a.ints k).held) ((aa b.ints k).held)))||(!(((aa a.ints k).op)==((aa b.ints k).op))))||(!(((aa a.ints k).tok)==((aa b.ints k).tok)))) ?_ ?_
   · repeat' first
      |exact ⟨⟨_,rfl,by grind [bM.val]⟩,rfl⟩
      |refine an (fun _=>?_) (fun _=>?_)
      |refine fP (by omega) ?_
   refine an (fun aN=>?_) (fun aN=>?_)
   · replace aN:((wH ((aa a.ints k).held) ((aa b.ints k).held)=false)∨((aa a.ints k).op≠(aa b.ints k).op))∨((aa a.ints k).tok≠(aa b.ints k).tok):=((da aN).imp (fun q=>((da q).imp (fun q=>(dD q)) (fun q=>(ne_of_beq_false (dD q))))) (fun q=>(ne_of_beq_false (dD q))))
     refine bt rfl fun _=>?_
     show K (.bool false) m
     rw [F1 (fun e=>by subst e;rcases aN with (h|h)|h;(· rw [BM.2 rfl] at h;cases h);(· exact h rfl);(· exact h rfl))] at U
     exact U
   replace aN:((wH ((aa a.ints k).held) ((aa b.ints k).held)=true)∧((aa a.ints k).op=(aa b.ints k).op))∧((aa a.ints k).tok=(aa b.ints k).tok):=⟨⟨(dC (bZ (bZ aN))),(eq_of_beq (dC (c8 (bZ aN))))⟩,(eq_of_beq (dC (c8 aN)))⟩
   refine an (by omega) ?_
   refine ⟨(k+1),⟨rfl,rfl⟩,?_,?_⟩
   · try dsimp only
     exact ⟨by omega,by omega,F3 cg.1 aC (by omega) (Ym (BM.1 aN.1.1) aN.1.2 aN.2) cg.2.2⟩
   try dsimp only
   omega
 refine ct (fun _=>Yp a.outs b.outs) rfl ?_
 refine bt rfl fun _=>?_
 show K (.bool (sM a.outs b.outs)) m
 rw [Yn I.1.1.1 (F2 I.1.1.2 (by omega) aM.2.2) (F2 I.1.2 (by omega) cg.2.2)] at U
 exact U
end Go.Proofs
end
section
namespace Go.Proofs
open Go Go.bh Go.bS
set_option maxRecDepth 100000
set_option maxHeartbeats 2000000 in
theorem Ys (s:dr) (m:ad) (K:R→ad→Prop) (U:∀b:Bool,K (.bool b) m):bn Tryz.prog 35 [gR s] m K:=by
 refine enter (c:=cP [38,46,54,72,81,90,99,117,125] [0] [1] [] [] []) (vs:=[.aK (gR s)]) (L:=[]) (m:=m) false cc Tryz.mixed Tryz.func35 rfl (k:=1) (by show cJ [] _ _ _=true;decide+kernel) rfl (Good.nil m) ?_
 refine ⟨fun c6=>?_⟩
 have Yr:s.held.length≤140737488355328:=gj (c6 0 1 (Nat.le_of_ble_eq_true rfl))
 have rj:s.ints.length≤140737488355328:=gj (c6 0 2 (Nat.le_of_ble_eq_true rfl))
 have pY:s.outs.length≤140737488355328:=gj (c6 0 3 (Nat.le_of_ble_eq_true rfl))
 refine aZ ?_
 refine cx [1] 22 (((decide (20<(s.held.length:Int)))||(decide (12<(s.ints.length:Int))))||(decide (12<(s.outs.length:Int)))) ?_ ?_
 · repeat' first
    |exact ⟨⟨_,rfl,by grind [bM.val]⟩,rfl⟩
    |refine an (fun _=>?_) (fun _=>?_)
    |refine dq ?_
 refine an (fun I=>?_) (fun I=>?_)
 · replace I:((20<(s.held.length:Int))∨(12<(s.ints.length:Int)))∨(12<(s.outs.length:Int)):=((da I).imp (fun q=>((da q).imp (fun q=>(of_decide_eq_true q)) (fun q=>(of_decide_eq_true q)))) (fun q=>(of_decide_eq_true q)))
   refine bt rfl fun _=>?_
   show K (.bool false) m
   exact U _
 replace I:(((s.held.length:Int)≤20)∧((s.ints.length:Int)≤12))∧((s.outs.length:Int)≤12):=⟨⟨(Int.not_lt.1 (of_decide_eq_false (bZ (bZ I)))),(Int.not_lt.1 (of_decide_eq_false (c8 (bZ I))))⟩,(Int.not_lt.1 (of_decide_eq_false (c8 I)))⟩
 refine aZ ?_
 refine ev (σ:=Int×Int) [] [1,3,4] 1 (fun ⟨n,i⟩=>([(1, .loc 0 0),(3,aw n),(4,aw i)],[.cells [aw s.cZ,bj (s.held.map ea),bj (s.ints.map fh),bj (s.outs.map bB)]],m)) (fun ⟨n,i⟩=>0≤i∧i≤s.held.length) (fun ⟨n,i⟩=>s.held.length- i.toNat) (0,0) ⟨rfl,rfl⟩ ?_ ?_
 · try dsimp only
   first|omega|(refine ⟨?_,?_⟩<;>first|omega|simp)|simp
 rintro ⟨n,i⟩ aM
 dsimp only at aM
 refine aZ ?_
 refine dq ?_
 refine an (fun J=>?_) (fun J=>?_)
 · refine aZ ?_
   refine fP (by omega) ?_
   refine fP (by omega) ?_
   refine fP (by omega) ?_
   refine hx (fun _=>A8 9000 (bq ((aa s.held i).attrs)+1) ((aa s.held i).attrs) (Nat.lt_succ_self _)) ?_
   refine an (fun ai=>?_) (fun ai=>?_)
   · refine bt rfl fun _=>?_
     show K (.bool false) m
     exact U _
   refine an (by omega) ?_
   refine ⟨(IntKind.i64.wrap ((IntKind.i64.wrap ((IntKind.i64.wrap (n+(((aa s.held i).name).length:Int)))+(((aa s.held i).kind).length:Int)))+(mU 9000 ((aa s.held i).attrs))),i+1),⟨rfl,rfl⟩,?_,?_⟩
   · try dsimp only
     (first|omega|(simp_all;done)|(simp_all;omega))
   try dsimp only
   omega
 refine aZ ?_
 refine ev (σ:=Int×Int) [] [1,3,5] 1 (fun ⟨jB,j⟩=>([(1, .loc 0 0),(3,aw jB),(5,aw j)],[.cells [aw s.cZ,bj (s.held.map ea),bj (s.ints.map fh),bj (s.outs.map bB)]],m)) (fun ⟨jB,j⟩=>0≤j∧j≤s.ints.length) (fun ⟨jB,j⟩=>s.ints.length- j.toNat) (n,0) ⟨rfl,rfl⟩ ?_ ?_
 · try dsimp only
   first|omega|(refine ⟨?_,?_⟩<;>first|omega|simp)|simp
 rintro ⟨jB,j⟩ cg
 dsimp only at cg
 refine aZ ?_
 refine dq ?_
 refine an (fun aC=>?_) (fun aC=>?_)
 · refine aZ ?_
   refine fP (by omega) ?_
   refine fP (by omega) ?_
   refine fP (by omega) ?_
   refine fP (by omega) ?_
   refine hx (fun _=>A8 9000 (bq (((aa s.ints j).held).attrs)+1) (((aa s.ints j).held).attrs) (Nat.lt_succ_self _)) ?_
   refine an (fun aN=>?_) (fun aN=>?_)
   · refine bt rfl fun _=>?_
     show K (.bool false) m
     exact U _
   refine an (by omega) ?_
   refine ⟨(IntKind.i64.wrap ((IntKind.i64.wrap ((IntKind.i64.wrap ((IntKind.i64.wrap (jB+(((aa s.ints j).tok).length:Int)))+((((aa s.ints j).held).name).length:Int)))+((((aa s.ints j).held).kind).length:Int)))+(mU 9000 (((aa s.ints j).held).attrs))),j+1),⟨rfl,rfl⟩,?_,?_⟩
   · try dsimp only
     (first|omega|(simp_all;done)|(simp_all;omega))
   try dsimp only
   omega
 refine aZ ?_
 refine ev (σ:=Int×Int) [] [1,3,6] 1 (fun ⟨gq,k⟩=>([(1, .loc 0 0),(3,aw gq),(6,aw k)],[.cells [aw s.cZ,bj (s.held.map ea),bj (s.ints.map fh),bj (s.outs.map bB)]],m)) (fun ⟨gq,k⟩=>0≤k∧k≤s.outs.length) (fun ⟨gq,k⟩=>s.outs.length- k.toNat) (jB,0) ⟨rfl,rfl⟩ ?_ ?_
 · try dsimp only
   first|omega|(refine ⟨?_,?_⟩<;>first|omega|simp)|simp
 rintro ⟨gq,k⟩ jz
 dsimp only at jz
 refine aZ ?_
 refine dq ?_
 refine an (fun bE=>?_) (fun bE=>?_)
 · refine aZ ?_
   refine e0 gA fI (by omega) ?_
   refine e0 gA fI (by omega) ?_
   refine hx (fun _=>A8 9000 (bq ((aa s.outs k).2)+1) ((aa s.outs k).2) (Nat.lt_succ_self _)) ?_
   refine an (fun dk=>?_) (fun dk=>?_)
   · refine bt rfl fun _=>?_
     show K (.bool false) m
     exact U _
   refine an (by omega) ?_
   refine ⟨(IntKind.i64.wrap ((IntKind.i64.wrap (gq+(((aa s.outs k).1).length:Int)))+(mU 9000 ((aa s.outs k).2))),k+1),⟨rfl,rfl⟩,?_,?_⟩
   · try dsimp only
     (first|omega|(simp_all;done)|(simp_all;omega))
   try dsimp only
   omega
 refine bt rfl fun _=>?_
 show K (.bool true) m
 exact U _
end Go.Proofs
end
section
namespace Go.Proofs
open Go Go.bh Go.bS
set_option maxRecDepth 100000
theorem F4 {c:UInt8}:∀(a b:ak),c∉a→Lib.indexByte (a++c::b) c=a.length
 |[],b,_=>by rw [List.nil_append,Lib.indexByte,if_pos (by simp)];rfl
 |x::a,b,h=>by
  have I:x≠c:=fun e=>h (by rw [e];exact List.mem_cons_self ..)
  have J:=F4 a b fun hm=>h (List.mem_cons_of_mem _ hm)
  rw [List.cons_append,Lib.indexByte,if_neg (by simpa using I),J]
  simp
theorem MD {c:UInt8}:∀(a:ak),c∉a→Lib.indexByte a c=-1
 |[],_=>rfl
 |x::a,h=>by
  have I:x≠c:=fun e=>h (by rw [e];exact List.mem_cons_self ..)
  have J:=MD a fun hm=>h (List.mem_cons_of_mem _ hm)
  rw [Lib.indexByte,if_neg (by simpa using I),J]
  rfl
theorem y4 {c:UInt8} {a b:ak} (h:c∉a):l1 (a++c::b) c=a∧bU (a++c::b) c=b:=by
 have e:=F4 a b h
 rw [l1,bU,e,if_pos (by omega),if_pos (by omega)]
 simp
theorem wI {c:UInt8} {a b:ak} (h:c∉a) (k:Nat):Lib.splitK [c] 0 (k+1) (a++c::b)=a::Lib.splitK [c] 0 k b:=by
 rw [Lib.splitK,Lib.index_one,F4 a b h,if_neg (by simp)]
 simp
theorem Yt {c:UInt8} {a:ak} (h:c∉a) (k:Nat):Lib.splitK [c] 0 k a=[a]:=by
 cases k with
 |zero=>rfl
 |succ k=>rw [Lib.splitK,Lib.index_one,MD a h,if_pos (by simp)]
theorem Yu {a b d e:ak} (aH:(32:UInt8)∉a) (ae:(32:UInt8)∉b) (aY:(32:UInt8)∉d):cD 32 4 (a++32::(b++32::(d++32::e)))=[a,b,d,e]:=by
 have hm:min 4 ((a++32::(b++32::(d++32::e))).length+1)- 1=3:=by simp;omega
 rw [cD,hm,wI aH,wI ae,wI aY,Lib.splitK]
theorem Yv {a b e:ak} (aH:(32:UInt8)∉a) (ae:(32:UInt8)∉b):cD 32 3 (a++32::(b++32::e))=[a,b,e]:=by
 have hm:min 3 ((a++32::(b++32::e)).length+1)- 1=2:=by simp;omega
 rw [cD,hm,wI aH,wI ae,Lib.splitK]
def oH:List ak→ak
 |[]=>[]
 |[a]=>a
 |a::r=>a++10::oH r
theorem ME:∀(l:List ak) (k:Nat),l≠[]→(∀a∈l,(10:UInt8)∉a)→l.length≤k+1→Lib.splitK [10] 0 k (oH l)=l
 |[],_,h,_,_=>absurd rfl h
 |[a],k,_,h,_=>by rw [oH,Yt (h a (by simp))]
 |a::b::r,k,_,h,aj=>by
  match k,aj with
  |k+1,aj=>
   rw [oH,wI (h a (by simp)),ME (b::r) k (by simp) (fun x ah=>h x (List.mem_cons_of_mem _ ah)) (by simp at aj ⊢;omega)]
   simp
theorem MF:∀(l:List ak),l≠[]→(∀a∈l,(10:UInt8)∉a)→(oH l).count 10+1=l.length
 |[],h,_=>absurd rfl h
 |[a],_,h=>by rw [oH,List.count_eq_zero_of_not_mem (h a (by simp))];rfl
 |a::b::r,_,h=>by
  have:=MF (b::r) (by simp) fun x ah=>h x (List.mem_cons_of_mem _ ah)
  rw [oH,List.count_append,List.count_cons_self,List.count_eq_zero_of_not_mem (h a (by simp))]
  simp at this ⊢
  omega
  simp
theorem Yw {l:List ak} (aq:l≠[]) (h:∀a∈l,(10:UInt8)∉a):mZ 10 (oH l)=l:=by
 have:=MF l aq h
 rw [mZ,Lib.count_one]
 exact ME l _ aq h (by omega)
end Go.Proofs
end
section
namespace Go.Proofs
open Go Go.bh Go.bS
set_option maxRecDepth 100000
def toE:Nat→aR→aD
 |0,v=>hJ v
 |k+1,v=>if v.kind=4 then .mk 8 cK [] [] (v.l.map (toE k)) [] else if v.kind=5 then .mk 9 cK [] [] (v.f.map fun p=>toE k p.2) (v.f.map Prod.fst) else hJ v
theorem MG {f:aD→aR×Bool} {g:aR→aD}:∀(l cV:List aR),(∀x∈l,f (g x)=(x,true))→la f (l.map g) cV=(.mk 4 0 [] (cV++l) [],true)
 |[],cV,_=>by rw [List.map_nil,la,List.append_nil]
 |x::r,cV,h=>by
  have e:=h x (List.mem_cons_self ..)
  rw [List.map_cons,la,e,if_pos rfl,MG r _ fun y aE=>h y (List.mem_cons_of_mem _ aE),List.append_assoc]
  rfl
theorem MH {f:aD→aR×Bool} {g:aR→aD}:∀(l cV:List (ak×aR)),(∀p∈l,f (g p.2)=(p.2,true))→ki f (l.map fun p=>g p.2) (l.map Prod.fst) cV=(.mk 5 0 [] [] (cV++l),true)
 |[],cV,_=>by rw [List.map_nil,List.map_nil,ki,List.append_nil]
 |x::r,cV,h=>by
  have e:=h x (List.mem_cons_self ..)
  rw [List.map_cons,List.map_cons,ki,e,if_pos rfl,MH r _ fun y aE=>h y (List.mem_cons_of_mem _ aE),List.append_assoc]
  rfl
theorem MI {v:aR} (h:eD v=true) (c:v.kind=4):v= .mk 4 0 [] v.l []:=by
 obtain ⟨k,n,s,l,f⟩:=v
 simp only [aR.kind] at c
 subst c
 simp [eD,aR.kind,aR.n,aR.s,aR.f] at h
 simp only [aR.l,h.1.1,h.1.2,h.2]
theorem BN {v:aR} (h:eD v=true) (c:v.kind=5):v= .mk 5 0 [] [] v.f∧kF none v.f=true:=by
 obtain ⟨k,n,s,l,f⟩:=v
 simp only [aR.kind] at c
 subst c
 simp [eD,aR.kind,aR.n,aR.s,aR.f,aR.l] at h
 exact ⟨by simp only [aR.f,h.1.1.1,h.1.1.2,h.1.2],h.2⟩
theorem F5:∀(k j:Nat) (v:aR),bq v≤k→cL j v=true→dm (k+1) (toE k v)=(v,true)
 |0,_,v,h,_=>by have:=fR v;omega
 |k+1,0,v,_,h=>by cases h
 |k+1,j+1,v,h,al=>by
  have aY:=fR v
  rw [cL,Bool.and_eq_true,Bool.and_eq_true,List.all_eq_true,List.all_eq_true] at al
  obtain ⟨⟨I,J⟩,ai⟩:=al
  rw [toE]
  by_cases c4:v.kind=4
  · rw [if_pos c4,dm,if_neg (by simp [aD.kind]),if_pos (by simp [aD.kind])]
    show la (dm (k+1)) (v.l.map (toE k)) []=_
    rw [MG v.l [] fun x ah=>F5 k j x (by have:=gP ah;omega) (J x ah)]
    rw [List.nil_append,←MI I c4]
  · rw [if_neg c4]
    by_cases c5:v.kind=5
    · rw [if_pos c5,dm,if_neg (by simp [aD.kind]),if_neg (by simp [aD.kind]),if_pos (by simp [aD.kind])]
      show ki (dm (k+1)) (v.f.map fun p=>toE k p.2) (v.f.map Prod.fst) []=_
      rw [MH (g:=toE k) v.f [] fun p aB=>F5 k j p.2 (by have:=gQ aB;omega) (ai p aB)]
      rw [List.nil_append,←(BN I c5).1]
    · rw [if_neg c5,dm,if_pos (by rfl)]
      rfl
end Go.Proofs
end
section
namespace Go.Proofs
open Go Go.bh Go.bS
set_option maxRecDepth 100000
theorem F6 {α:Type} {g h:α→ak}:∀(l:List α) (b:Bool),(∀x∈l,g x=h x)→dG g l b=dG h l b
 |[],_,_=>by rw [dG,dG]
 |x::r,b,e=>by rw [dG,dG,e x (List.mem_cons_self ..),F6 r false fun y aE=>e y (List.mem_cons_of_mem _ aE)]
theorem F7:∀(k:Nat) (v:aR),bq v≤k→∀j i:Nat,bq v≤j→bq v≤i→hA (j+1) (toE k v)=cC (i+1) v
 |0,v,h=>by have:=fR v;omega
 |k+1,v,h=>fun j i ay ab=>by
  have aY:=fR v
  rw [toE]
  by_cases c4:v.kind=4
  · obtain ⟨j,rfl⟩:∃q,j=q+1:=⟨j- 1,by omega⟩
    obtain ⟨i,rfl⟩:∃q,i=q+1:=⟨i- 1,by omega⟩
    rw [if_pos c4,hA,if_neg (by simp [aD.kind]),if_neg (by simp [aD.kind]),if_neg (by simp [aD.kind]),if_neg (by simp [aD.kind]),if_neg (by simp [aD.kind]),if_neg (by simp [aD.kind]),if_pos (by simp [aD.kind])]
    rw [cC,if_neg (by omega),if_neg (by omega),if_neg (by omega),if_neg (by omega),if_pos c4]
    show [91]++dG (hA (j+1)) (v.l.map (toE k)) true++[93]=_
    rw [FA,F6 v.l true fun x ah=>F7 k x (by have:=gP ah;omega) j i (by have:=gP ah;omega) (by have:=gP ah;omega)]
  · rw [if_neg c4]
    by_cases c5:v.kind=5
    · obtain ⟨j,rfl⟩:∃q,j=q+1:=⟨j- 1,by omega⟩
      obtain ⟨i,rfl⟩:∃q,i=q+1:=⟨i- 1,by omega⟩
      rw [if_pos c5,hA,if_neg (by simp [aD.kind]),if_neg (by simp [aD.kind]),if_neg (by simp [aD.kind]),if_neg (by simp [aD.kind]),if_neg (by simp [aD.kind]),if_neg (by simp [aD.kind]),if_neg (by simp [aD.kind]),if_pos (by simp [aD.kind])]
      rw [cC,if_neg (by omega),if_neg (by omega),if_neg (by omega),if_neg (by omega),if_neg (by omega),if_pos c5]
      show [123]++dG (fun p:ak×aD=>p.1++[58,32]++hA (j+1) p.2) ((v.f.map Prod.fst).zip (v.f.map fun p=>toE k p.2)) true++[125]=_
      rw [List.zip_map',FA,F6 v.f true fun p aB=>by
       show p.1++[58,32]++hA (j+1) (toE k p.2)=p.1++[58,32]++cC (i+1) p.2
       rw [F7 k p.2 (by have:=gQ aB;omega) j i (by have:=gQ aB;omega) (by have:=gQ aB;omega)]]
    · rw [if_neg c5,hA,if_pos (by rfl)]
      show eJ v=_
      rw [eJ,cC,cC]
      simp only [if_neg c4,if_neg c5]
end Go.Proofs
end
section
namespace Go.Proofs
open Go Go.bh Go.bS
set_option maxRecDepth 100000
theorem MJ {g:aR→aD}:∀l:List aR,(∀x∈l,gf (g x)=bq x)→h6 (l.map g)=k4 l
 |[],_=>by simp [h6,k4]
 |x::r,h=>by
  rw [List.map_cons,h6,k4,h x (List.mem_cons_self ..),MJ r fun y aE=>h y (List.mem_cons_of_mem _ aE)];omega
theorem Yx (p:ak×aR) (r:List (ak×aR)):kD (p::r)=bq p.2+kD r:=by
 obtain ⟨s,k,n,t,l,f⟩:=p
 simp only [kD,bq]
theorem MK {g:aR→aD}:∀l:List (ak×aR),(∀p∈l,gf (g p.2)=bq p.2)→h6 (l.map fun p=>g p.2)=kD l
 |[],_=>by simp [h6,kD]
 |x::r,h=>by
  rw [List.map_cons,h6,Yx,h x (List.mem_cons_self ..),MK r fun y aE=>h y (List.mem_cons_of_mem _ aE)];omega
theorem ML {l:List aD} {B:Int} (aq:0≤B) (h:∀e∈l,hL e≤B):kd l≤B:=by
 induction l with
 |nil=>rw [kd];exact aq
 |cons e r aQ=>
  rw [kd]
  have I:=h e (List.mem_cons_self ..)
  have J:=aQ fun y aE=>h y (List.mem_cons_of_mem _ aE)
  omega
theorem F8:∀{l:List aD},(∀e∈l,lx e)→jy l
 |[],_=>by simp only [jy]
 |e::r,h=>by rw [jy];exact ⟨h e (List.mem_cons_self ..),F8 fun y aE=>h y (List.mem_cons_of_mem _ aE)⟩
theorem F9 {v:aR} (h:eD v=true) (c4:v.kind≠4) (c5:v.kind≠5):v.l=[]∧v.f=[]∧v.kind≤3:=by
 have e:(v.l.length:Int)+v.f.length=0∧v.kind≤3:=by
  unfold eD at h
  split at h
  · simp at h;omega
  · split at h
    · simp at h;omega
    · split at h
      · simp at h;omega
      · split at h
        · simp at h;omega
        · simp [c4,c5] at h
 exact ⟨List.length_eq_zero_iff.1 (by omega),List.length_eq_zero_iff.1 (by omega),e.2⟩
theorem y5:∀(k j:Nat) (v:aR),bq v≤k→cL j v=true→gf (toE k v)=bq v
 |0,_,v,h,_=>by have:=fR v;omega
 |k+1,0,v,_,h=>by cases h
 |k+1,j+1,v,h,al=>by
  have aY:=fR v
  rw [cL,Bool.and_eq_true,Bool.and_eq_true,List.all_eq_true,List.all_eq_true] at al
  obtain ⟨⟨I,J⟩,ai⟩:=al
  rw [toE]
  by_cases c4:v.kind=4
  · rw [if_pos c4,gf,MJ v.l fun x ah=>y5 k j x (by have:=gP ah;omega) (J x ah)]
    have e:=MI I c4
    have:v.f=[]:=by rw [e];rfl
    rw [this] at aY;simp [kD] at aY;omega
  · rw [if_neg c4]
    by_cases c5:v.kind=5
    · rw [if_pos c5,gf,MK (g:=toE k) v.f fun p aB=>y5 k j p.2 (by have:=gQ aB;omega) (ai p aB)]
      have e:=(BN I c5).1
      have:v.l=[]:=by rw [e];rfl
      rw [this] at aY;simp [k4] at aY;omega
    · have e:=F9 I c4 c5
      rw [if_neg c5,hJ,gf,h6]
      rw [e.1,e.2.1] at aY;simp [k4,kD] at aY;omega
theorem Ga:∀(k i:Nat) (v:aR),bq v≤k→bq v<i→hL (toE k v)≤eS i v
 |0,_,v,h,_=>by have:=fR v;omega
 |k+1,0,v,_,h=>by omega
 |k+1,i+1,v,h,ab=>by
  have aY:=fR v
  have hm:=(tT (fun p:ak×aR=>eS i p.2) _ v.f (hO (eS i) v.l 0)).1 (Int.le_refl _)
  have qu:=(tT (eS i) _ v.l 0).1 (Int.le_refl _)
  rw [toE,eS]
  by_cases c4:v.kind=4
  · rw [if_pos c4,hL]
    have:=ML (l:=v.l.map (toE k)) (B:=hO (eS i) v.l 0) qu.1 fun e he=>by
     obtain ⟨x,ah,rfl⟩:=List.mem_map.1 he
     exact Int.le_trans (Ga k i x (by have:=gP ah;omega) (by have:=gP ah;omega)) (qu.2 x ah)
    have:=hm.1
    omega
  · rw [if_neg c4]
    by_cases c5:v.kind=5
    · rw [if_pos c5,hL]
      have:=ML (l:=v.f.map fun p=>toE k p.2) (B:=hO (fun p:ak×aR=>eS i p.2) v.f (hO (eS i) v.l 0)) (Int.le_trans qu.1 hm.1) fun e he=>by
       obtain ⟨x,ah,rfl⟩:=List.mem_map.1 he
       exact Int.le_trans (Ga k i x.2 (by have:=gQ ah;omega) (by have:=gQ ah;omega)) (hm.2 x ah)
      omega
    · rw [if_neg c5,hJ,hL,kd]
      have:=Int.le_trans qu.1 hm.1
      omega
end Go.Proofs
end
section
namespace Go.Proofs
open Go Go.bh Go.bS
set_option maxRecDepth 100000
theorem MM {l:List (ak×aR)} (h:kF none l=true):∀n:Nat,n≤l.length→kF (rl l (n:Int)) (l.drop n)=true
 |0,_=>by rw [rl,if_pos (by rfl)];exact h
 |n+1,aL=>by
  have I:=MM h n (by omega)
  have J:=vR (l:=l) (i:=(n:Int)) (by omega) (by omega)
  rw [show ((n:Int)).toNat=n from rfl] at J
  rw [I] at J
  have ai:=J.symm
  simp only [Bool.and_eq_true] at ai
  exact ai.2
theorem MN {l:List (ak×aR)} (h:kF none l=true):sJ (l.map Prod.fst):=fun i aq ab=>by
 rw [List.length_map] at ab
 have I:=MM h i.toNat (by omega)
 rw [show ((i.toNat:Nat):Int)=i by omega,vR aq ab] at I
 simp only [Bool.and_eq_true,Bool.or_eq_true,beq_iff_eq] at I
 rw [Fz aq ab]
 refine ⟨I.1.1,fun aB=>?_⟩
 rw [Fz (by omega) (by omega)]
 exact I.1.2.resolve_left (by omega)
theorem Yy {v:aR} (h:eD v=true) (c4:v.kind≠4) (c5:v.kind≠5):bF v=0:=by
 have e:=F9 h c4 c5
 have aY:=fR v
 rw [e.1,e.2.1] at aY
 simp [k4,kD] at aY
 have al:cL 2 v=true:=by rw [cL,h,e.1,e.2.1];rfl
 have ag:(ei 2 1 v 60).1=true:=(yI 2 1 v 60 (by omega) (by omega) (by omega)).2 ⟨by omega,by rw [eS,e.1,e.2.1];simp [hO]⟩
 rw [bF,aY,ag,al];rfl
theorem Gb:∀(k j:Nat) (v:aR),bq v≤k→cL j v=true→lx (toE k v)
 |0,_,v,h,_=>by have:=fR v;omega
 |k+1,0,v,_,h=>by cases h
 |k+1,j+1,v,h,al=>by
  have aY:=fR v
  rw [cL,Bool.and_eq_true,Bool.and_eq_true,List.all_eq_true,List.all_eq_true] at al
  obtain ⟨⟨I,J⟩,ai⟩:=al
  rw [toE,wk]
  by_cases c4:v.kind=4
  · rw [if_pos c4]
    refine ⟨.inr ⟨rfl,?_⟩,F8 fun e he=>?_⟩
    · simp [aD.kind,aD.s,aD.t,aD.n]
    · obtain ⟨x,ah,rfl⟩:=List.mem_map.1 he
      exact Gb k j x (by have:=gP ah;omega) (J x ah)
  · rw [if_neg c4]
    by_cases c5:v.kind=5
    · rw [if_pos c5]
      refine ⟨.inr ⟨rfl,?_⟩,F8 fun e he=>?_⟩
      · simp [aD.kind,aD.s,aD.t,aD.n,aD.a,MN (BN I c5).2]
      · obtain ⟨x,ah,rfl⟩:=List.mem_map.1 he
        exact Gb k j x.2 (by have:=gQ ah;omega) (ai x ah)
    · rw [if_neg c5]
      refine ⟨.inl ⟨rfl,rfl,rfl,⟨(F9 I c4 c5).2.2,Yy I c4 c5⟩,rfl,rfl⟩,?_⟩
      show jy []
      simp only [jy]
theorem Yz {v:aR} (h:bF v=0):h9 (toE (bq v) v)=0:=by
 have ag:(ei (bq v+1) 1 v 60).1=true:=by
  unfold bF at h
  split at h
  · assumption
  · cases h
 have q:=(yI (bq v+1) 1 v 60 (by omega) (by omega) (by omega)).1 ag
 have al:=(om h).1
 have I:=y5 (bq v) _ v (Nat.le_refl _) al
 have J:=Ga (bq v) (bq v+1) v (Nat.le_refl _) (by omega)
 rw [h9,if_neg (by omega)]
 exact Lp (Gb (bq v) _ v (Nat.le_refl _) al)
end Go.Proofs
end
