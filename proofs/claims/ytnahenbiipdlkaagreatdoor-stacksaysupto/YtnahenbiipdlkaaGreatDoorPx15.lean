import Derived.Test.YtnahenbiipdlkaaGreatDoorPx8
section
namespace Go.Proofs
open Go Go.bg Go.cz
set_option maxRecDepth 100000
set_option maxHeartbeats 8000000 in
theorem TV (l:List Tok) (n a e q:Int) (k:Nat) (d:Int) (r:Nat) (aO:∀a e q d:Int,d=7- (k:Int)→0≤a→a≤l.length→0≤e→∀(r:Nat) (m:ae),eC [r] m→∀(K:ab→ae→Prop),(∀bH bZ bR cj,aX l (cr l n k a) bH a e q bZ bR cj→K (bU bH) (ae.aS m [(r, .cells [.slice false (l.map bm), .int .i64 bZ, .int .i64 n, .int .i64 bR, .int .i64 cj])]))→bh Tryz.prog 130 [.ptr ⟨r,0,none⟩, .int .i64 d] (ae.aS m [(r, .cells [.slice false (l.map bm), .int .i64 a, .int .i64 n, .int .i64 e, .int .i64 q])]) K) (av:l.length≤5000) (aJ:0≤a) (aT:a≤l.length) (he:0≤e) (hw:lx l) (al:k≤7) (aY:d+1=7- (k:Int)) (ak:e=0) (m:ae) (gd:eC [r] m) (K:ab→ae→Prop) (U:∀bH bZ bR cj,aX l (cr l n (k+1) a) bH a e q bZ bR cj→K (bU bH) (ae.aS m [(r, .cells [.slice false (l.map bm), .int .i64 bZ, .int .i64 n, .int .i64 bR, .int .i64 cj])])):bh Tryz.prog 130 [.ptr ⟨r,0,none⟩, .int .i64 d] (ae.aS m [(r, .cells [.slice false (l.map bm), .int .i64 a, .int .i64 n, .int .i64 e, .int .i64 q])]) K:=by
 refine enter (c:=cT [] [] [14,17,39,51,61] [8999] [8] [r]) (vs:=[.loc 0 0, .aI (.int .i64 d)]) (L:=[b5 l n a e q]) (m:=m) false b2 Tryz.mixed Tryz.func130 rfl (k:=2) (by show cO [8999] _ _ _=true;decide+kernel) rfl (gd.gZ rfl) ?_
 refine aB ?_
 refine ag (fun J=>?_) (fun J=>?_)
 · omega
 refine aB ?_
 refine ag (fun aa=>?_) (fun aa=>?_)
 · omega
 refine aB ?_
 refine bN ?_
 refine ag (fun aj=>?_) (fun aj=>?_)
 · refine bx 115 [0] (σ:=Int×Int) (fun ⟨bb,bo⟩=>(e=0→bb=5∧bo=cp l n a)∧(e≠0→bb=e∧bo=q)∧0<bb) (fun ⟨bb,bo⟩=> .da []) (fun ⟨bb,bo⟩=>[b5 l n a bb bo]) rfl (fun _=>rfl) (fun bs ai gd aq K U=>mO l n a e q 5 (bs.getD 0 0) (by decide) av (by omega) (by omega) (by omega) ai gd K (fun z=>U (5,cp l n a) ⟨fun _=>⟨rfl,rfl⟩,fun y=>absurd z y,by decide⟩) (fun z=>U (e,q) ⟨fun y=>absurd y z,fun _=>⟨rfl,rfl⟩,by omega⟩)) ?_
   rintro ⟨bb,bo⟩ bp
   dsimp only at bp
   obtain ⟨ly,ku,mP⟩:=bp
   refine rt rfl fun _=>?_
   show K (.agg [.int .i64 0, .int .i64 0, .int .i64 0, .str ([]), .slice false [], .slice false [], .str ([]), .str ([]), .slice false [], .slice false []]) (ae.aS m [(r, .cells [.slice false (l.map bm), .int .i64 a, .int .i64 n, .int .i64 bb, .int .i64 bo])])
   refine cL (U (gA) _ _ _ ?_) ?_
   · rw [cr,if_neg (by grind [bq]),if_neg (by grind [bq]),if_neg (by grind [bq]),if_neg (by grind [bq]),if_neg (by grind [bq]),if_neg (by grind [bq])]
     rw [iD,if_neg (by grind [bq]),if_neg (by grind [bq]),if_neg (by grind [bq]),if_neg (by grind [bq]),if_neg (by grind [bq]),if_neg (by grind [bq]),if_neg (by grind [bq])]
     exact aX.bad _ aT ly ku mP
   · simp only [bU,au.a,au.n,List.map_cons,List.map_nil,List.map_append,List.cons_append,List.nil_append,cy];rfl
 refine hS b2 Tryz.mixed (σ:=Unit) (.f 0 (.f 1 (.f 2 (.f 4 (.f 5 (.f 6 (.o 3 (.o 7 (.o 8 (.o 9 (.s 10 (.s 11 .d)) (.o 10 (.s 9 (.s 11 .d)) .z)) (.o 10 (.s 8 (.s 9 (.s 11 .d))) .z)) (.o 10 (.s 7 (.s 8 (.s 9 (.s 11 .d)))) .z)) (.o 7 (.o 3 (.o 8 (.o 9 (.s 10 (.s 11 .d)) (.o 10 (.s 9 (.s 11 .d)) .z)) (.o 10 (.s 8 (.s 9 (.s 11 .d))) .z)) (.o 10 (.s 3 (.s 8 (.s 9 (.s 11 .d)))) .z)) (.o 10 (.o 3 (.s 7 (.s 8 (.s 9 (.s 11 .d)))) (.o 7 (.s 3 (.s 8 (.s 9 (.s 11 .d)))) .z)) .z))))))))) [] [0,1,4,5] 3 (fun _=>([(0, .loc 0 0),(1,ax d),(4, .loc 1 0),(5, .loc 2 0)],[b5 l n a e q, .cells [ax 0,ax 0,ax 0,ay ([]), .own [], .own [],ay ([]),ay ([]), .own [], .own []], .cells [ax ((I l a).1),ax ((I l a).2.1),ay ((I l a).2.2)]],m)) (fun _=>True) (by decide+kernel) ?_ ?_
 · rintro _ TW
   try dsimp only at TW
   refine aB ?_
   refine ag (fun aG=>?_) (fun aG=>?_)
   · refine bx 115 [0] (σ:=au×Int×Int×Int) (fun ⟨eZ,dj,b3,cg⟩=>aX l (kU l n 1 a) eZ a e q dj b3 cg) (fun ⟨eZ,dj,b3,cg⟩=>fR eZ) (fun ⟨eZ,dj,b3,cg⟩=>[b5 l n dj b3 cg]) rfl (fun _=>rfl) (fun bs ai gd aq K U=>Kr l n a e q 1 (bs.getD 0 0) av (by omega) (by omega) (by omega) hw (by omega) ak ai gd K (fun c1 a8 a1 a6 aC=>U (c1,a8,a1,a6) aC)) ?_
     rintro ⟨eZ,dj,b3,cg⟩ cx
     dsimp only at cx
     have qV:=cx.ba
     have ig:=cx.ad
     have qW:=cx.bB
     refine rt rfl fun _=>?_
     show K (.agg [.int .i64 eZ.kind, .int .i64 eZ.v.kind, .int .i64 eZ.v.n, .str eZ.v.s, .slice false (eZ.v.l.map cn), .slice false (eZ.v.f.map cB), .str eZ.s, .str eZ.t, .slice false (eZ.a.map bY), .slice false (eZ.n.map cm)]) (ae.aS m [(r, .cells [.slice false (l.map bm), .int .i64 dj, .int .i64 n, .int .i64 b3, .int .i64 cg])])
     refine U eZ _ _ _ ?_
     rw [cr,if_neg (by grind [bq]),if_neg (by grind [bq]),if_neg (by grind [bq]),if_neg (by grind [bq]),if_pos (by grind [bq])]
     exact cx
   refine ag (fun aR=>?_) (fun aR=>?_)
   · refine ag (by omega) ?_
     refine rt rfl fun _=>?_
     show K (.agg [.int .i64 1, .int .i64 2, .int .i64 0, .str ((I l a).2.2), .slice false [], .slice false [], .str ([]), .str ([]), .slice false [], .slice false []]) (ae.aS m [(r, .cells [.slice false (l.map bm), .int .i64 (a+1), .int .i64 n, .int .i64 e, .int .i64 q])])
     refine cL (U (jA (.mk 2 0 (I l a).2.2 [] [])) _ _ _ ?_) ?_
     · rw [cr,if_neg (by grind [bq]),if_neg (by grind [bq]),if_neg (by grind [bq]),if_neg (by grind [bq]),if_neg (by grind [bq]),if_pos (by grind [bq])]
       exact aX.one (by omega) ak
     · simp only [bU,au.a,au.n,List.map_cons,List.map_nil,List.map_append,List.cons_append,List.nil_append,cy];rfl
   refine cf [0,1,4,5] 74 ((((I l a).1)==4)&&(((I l a).2.2)==([45]:List UInt8))) ?_ ?_
   · repeat' first
      |exact ⟨⟨_,rfl,by grind [bD.val]⟩,rfl⟩
      |refine ag (fun _=>?_) (fun _=>?_)
   refine ag (fun bu=>?_) (fun bu=>?_)
   · replace bu:((I l a).1=4)∧((I l a).2.2=([45]:List UInt8)):=⟨(eq_of_beq (dH bu)),(eq_of_beq (eA bu))⟩
     refine ag (by omega) ?_
     refine bx 115 [0] (σ:=au×Int×Int×Int) (fun ⟨iO,fs,dX,er⟩=>aX l (kU l n (-1) (a+1)) iO (a+1) e q fs dX er) (fun ⟨iO,fs,dX,er⟩=>fR iO) (fun ⟨iO,fs,dX,er⟩=>[b5 l n fs dX er]) rfl (fun _=>rfl) (fun bs ai gd aq K U=>Kr l n (a+1) e q (-1) (bs.getD 0 0) av (by omega) (by omega) (by omega) hw (by omega) ak ai gd K (fun c1 a8 a1 a6 aC=>U (c1,a8,a1,a6) aC)) ?_
     rintro ⟨iO,fs,dX,er⟩ cP
     dsimp only at cP
     have yu:=cP.ba
     have yv:=cP.ad
     have tx:=cP.bB
     refine rt rfl fun _=>?_
     show K (.agg [.int .i64 iO.kind, .int .i64 iO.v.kind, .int .i64 iO.v.n, .str iO.v.s, .slice false (iO.v.l.map cn), .slice false (iO.v.f.map cB), .str iO.s, .str iO.t, .slice false (iO.a.map bY), .slice false (iO.n.map cm)]) (ae.aS m [(r, .cells [.slice false (l.map bm), .int .i64 fs, .int .i64 n, .int .i64 dX, .int .i64 er])])
     refine U iO _ _ _ ?_
     rw [cr,if_neg (by grind [bq]),if_neg (by grind [bq]),if_neg (by grind [bq]),if_pos (by grind [bq])]
     exact aX.from ak (by omega) cP
   replace bu:((I l a).1≠4)∨((I l a).2.2≠([45]:List UInt8)):=((eB bu).imp (fun q=>(ne_of_beq_false q)) (fun q=>(ne_of_beq_false q)))
   refine cf [0,1,4,5] 92 ((((I l a).1)==4)&&(((I l a).2.2)==([40]:List UInt8))) ?_ ?_
   · repeat' first
      |exact ⟨⟨_,rfl,by grind [bD.val]⟩,rfl⟩
      |refine ag (fun _=>?_) (fun _=>?_)
   refine ag (fun cD=>?_) (fun cD=>?_)
   · replace cD:((I l a).1=4)∧((I l a).2.2=([40]:List UInt8)):=⟨(eq_of_beq (dH cD)),(eq_of_beq (eA cD))⟩
     refine ag (by omega) ?_
     refine ag (by omega) ?_
     refine bx 115 [0] (σ:=au×Int×Int×Int) (fun ⟨hi,c8,de,dM⟩=>aX l (cr l n k (a+1)) hi (a+1) e q c8 de dM) (fun ⟨hi,c8,de,dM⟩=>fR hi) (fun ⟨hi,c8,de,dM⟩=>[b5 l n c8 de dM]) rfl (fun _=>rfl) (fun bs ai gd aq K U=>aO (a+1) e q (d+1) (by omega) (by omega) (by omega) (by omega) (bs.getD 0 0) ai gd K (fun c1 a8 a1 a6 aC=>U (c1,a8,a1,a6) aC)) ?_
     rintro ⟨hi,c8,de,dM⟩ dd
     dsimp only at dd
     have vD:=dd.ba
     have vE:=dd.ad
     have vF:=dd.bB
     refine bx 115 [0] (σ:=(Unit) ⊕ (Unit)) (Sum.elim (fun _=>de=0∧bq l 4 ([43]:List UInt8) c8=true) (fun _=>de=0→bq l 4 ([43]:List UInt8) c8=false)) (Sum.elim (fun _=> .b (.lit true)) (fun _=> .b (.lit false))) (Sum.elim (fun _=>[b5 l n (c8+1) de dM]) (fun _=>[b5 l n c8 de dM])) rfl (fun x=>by rcases x with _|_<;>rfl) (fun bs ai gd aq K U=>tw l n c8 de dM 4 ([43]:List UInt8) (bs.getD 0 0) av (by omega) (by omega) (by omega) ai gd K (fun z w=>U (.inl ()) ⟨z,w⟩) (fun z=>U (.inr ()) z)) ?_
     rintro (_|_) dE
     · try dsimp only [Sum.elim_inl,Sum.elim_inr] at dE
       dsimp only [Sum.elim_inl,Sum.elim_inr]
       have TG:=gm dE.2
       refine ap bY ([]) ([hi]:List au) (by simp only [List.map_cons,List.map_nil,cy];try rfl) (by simp only [List.map_cons,List.map_nil,cy];try rfl) (fun a=>by rw [cy];exact ⟨rfl,rfl⟩) (by (simp only [List.length_append,List.length_cons,List.length_nil];omega)) ?_
       refine aB ?_
       refine ag (by omega) ?_
       refine bx 115 [0] (σ:=au×Int×Int×Int) (fun ⟨eY,dy,dt,dQ⟩=>aX l (cr l n k (c8+1)) eY (c8+1) de dM dy dt dQ) (fun ⟨eY,dy,dt,dQ⟩=>fR eY) (fun ⟨eY,dy,dt,dQ⟩=>[b5 l n dy dt dQ]) rfl (fun _=>rfl) (fun bs ai gd aq K U=>aO (c8+1) de dM (d+1) (by omega) (by omega) (by omega) (by omega) (bs.getD 0 0) ai gd K (fun c1 a8 a1 a6 aC=>U (c1,a8,a1,a6) aC)) ?_
       rintro ⟨eY,dy,dt,dQ⟩ ej
       dsimp only at ej
       have rY:=ej.ba
       have rZ:=ej.ad
       have r0:=ej.bB
       refine ap bY ([hi]:List au) ([eY]:List au) rfl (by simp only [List.map_cons,List.map_nil,cy];try rfl) (fun a=>by rw [cy];exact ⟨rfl,rfl⟩) (by (simp only [List.length_append,List.length_cons,List.length_nil];omega)) ?_
       refine bx 115 [0] (σ:=ar×Int×Int×Int) (fun ⟨jR,hO,ev,eS⟩=>(aX l (b8 l n 4 ([41]:List UInt8) dy) jR dy dt dQ hO ev eS)∧(ev≠0→jR=[])) (fun ⟨jR,hO,ev,eS⟩=>ay jR) (fun ⟨jR,hO,ev,eS⟩=>[b5 l n hO ev eS]) rfl (fun _=>rfl) (fun bs ai gd aq K U=>gO l n dy dt dQ 4 ([41]:List UInt8) (bs.getD 0 0) av (by omega) (by omega) (by omega) ai gd K (fun bQ a8 a1 a6 aC ak=>U (bQ,a8,a1,a6) ⟨aC,ak⟩)) ?_
       rintro ⟨jR,hO,ev,eS⟩ dR
       dsimp only at dR
       obtain ⟨dR,Kw⟩:=dR
       have EU:=dR.ba
       have EV:=dR.ad
       have yy:=dR.bB
       refine rt rfl fun _=>?_
       show K (.agg [.int .i64 5, .int .i64 0, .int .i64 0, .str ([]), .slice false [], .slice false [], .str ([]), .str ([]), .slice false ((([hi]:List au)++([eY]:List au)).map bY), .slice false []]) (ae.aS m [(r, .cells [.slice false (l.map bm), .int .i64 hO, .int .i64 n, .int .i64 ev, .int .i64 eS])])
       refine cL (U (.mk 5 dB [] [] [hi,eY] []) _ _ _ ?_) ?_
       · rw [cr,if_pos (by grind [bq])]
         rw [nJ]
         refine aX.from ak (by omega) (dd.bind ?_)
         rw [if_pos dE.2]
         exact aX.from dE.1 (by omega) (ej.bind (dR.map fun _=>au.mk 5 dB [] [] [hi,eY] []))
       · simp only [bU,au.a,au.n,List.map_cons,List.map_nil,List.map_append,List.cons_append,List.nil_append,cy];rfl
     try dsimp only [Sum.elim_inl,Sum.elim_inr] at dE
     dsimp only [Sum.elim_inl,Sum.elim_inr]
     refine bx 115 [0] (σ:=(Unit) ⊕ (Unit)) (Sum.elim (fun _=>de=0∧bq l 4 ([61,61]:List UInt8) c8=true) (fun _=>de=0→bq l 4 ([61,61]:List UInt8) c8=false)) (Sum.elim (fun _=> .b (.lit true)) (fun _=> .b (.lit false))) (Sum.elim (fun _=>[b5 l n (c8+1) de dM]) (fun _=>[b5 l n c8 de dM])) rfl (fun x=>by rcases x with _|_<;>rfl) (fun bs ai gd aq K U=>tw l n c8 de dM 4 ([61,61]:List UInt8) (bs.getD 0 0) av (by omega) (by omega) (by omega) ai gd K (fun z w=>U (.inl ()) ⟨z,w⟩) (fun z=>U (.inr ()) z)) ?_
     rintro (_|_) ed
     · try dsimp only [Sum.elim_inl,Sum.elim_inr] at ed
       dsimp only [Sum.elim_inl,Sum.elim_inr]
       have Kx:=gm ed.2
       refine ap bY ([]) ([hi]:List au) (by simp only [List.map_cons,List.map_nil,cy];try rfl) (by simp only [List.map_cons,List.map_nil,cy];try rfl) (fun a=>by rw [cy];exact ⟨rfl,rfl⟩) (by (simp only [List.length_append,List.length_cons,List.length_nil];omega)) ?_
       refine aB ?_
       refine ag (by omega) ?_
       refine bx 115 [0] (σ:=au×Int×Int×Int) (fun ⟨fZ,fA,e5,ff⟩=>aX l (cr l n k (c8+1)) fZ (c8+1) de dM fA e5 ff) (fun ⟨fZ,fA,e5,ff⟩=>fR fZ) (fun ⟨fZ,fA,e5,ff⟩=>[b5 l n fA e5 ff]) rfl (fun _=>rfl) (fun bs ai gd aq K U=>aO (c8+1) de dM (d+1) (by omega) (by omega) (by omega) (by omega) (bs.getD 0 0) ai gd K (fun c1 a8 a1 a6 aC=>U (c1,a8,a1,a6) aC)) ?_
       rintro ⟨fZ,fA,e5,ff⟩ fi
       dsimp only at fi
       have yz:=fi.ba
       have yA:=fi.ad
       have vN:=fi.bB
       refine ap bY ([hi]:List au) ([fZ]:List au) rfl (by simp only [List.map_cons,List.map_nil,cy];try rfl) (fun a=>by rw [cy];exact ⟨rfl,rfl⟩) (by (simp only [List.length_append,List.length_cons,List.length_nil];omega)) ?_
       refine bx 115 [0] (σ:=ar×Int×Int×Int) (fun ⟨e4,eJ,eK,fa⟩=>(aX l (b8 l n 4 ([41]:List UInt8) fA) e4 fA e5 ff eJ eK fa)∧(eK≠0→e4=[])) (fun ⟨e4,eJ,eK,fa⟩=>ay e4) (fun ⟨e4,eJ,eK,fa⟩=>[b5 l n eJ eK fa]) rfl (fun _=>rfl) (fun bs ai gd aq K U=>gO l n fA e5 ff 4 ([41]:List UInt8) (bs.getD 0 0) av (by omega) (by omega) (by omega) ai gd K (fun bQ a8 a1 a6 aC ak=>U (bQ,a8,a1,a6) ⟨aC,ak⟩)) ?_
       rintro ⟨e4,eJ,eK,fa⟩ et
       dsimp only at et
       obtain ⟨et,Ba⟩:=et
       have vG:=et.ba
       have vH:=et.ad
       have vI:=et.bB
       refine rt rfl fun _=>?_
       show K (.agg [.int .i64 6, .int .i64 0, .int .i64 0, .str ([]), .slice false [], .slice false [], .str ([]), .str ([]), .slice false ((([hi]:List au)++([fZ]:List au)).map bY), .slice false []]) (ae.aS m [(r, .cells [.slice false (l.map bm), .int .i64 eJ, .int .i64 n, .int .i64 eK, .int .i64 fa])])
       refine cL (U (.mk 6 dB [] [] [hi,fZ] []) _ _ _ ?_) ?_
       · rw [cr,if_pos (by grind [bq])]
         rw [nJ]
         refine aX.from ak (by omega) (dd.bind ?_)
         rw [if_neg (cJ (dE ed.1)),if_pos ed.2]
         exact aX.from ed.1 (by omega) (fi.bind (et.map fun _=>au.mk 6 dB [] [] [hi,fZ] []))
       · simp only [bU,au.a,au.n,List.map_cons,List.map_nil,List.map_append,List.cons_append,List.nil_append,cy];rfl
     try dsimp only [Sum.elim_inl,Sum.elim_inr] at ed
     dsimp only [Sum.elim_inl,Sum.elim_inr]
     refine bx 115 [0] (σ:=(Unit) ⊕ (Unit)) (Sum.elim (fun _=>de=0∧bq l 4 ([63]:List UInt8) c8=true) (fun _=>de=0→bq l 4 ([63]:List UInt8) c8=false)) (Sum.elim (fun _=> .b (.lit true)) (fun _=> .b (.lit false))) (Sum.elim (fun _=>[b5 l n (c8+1) de dM]) (fun _=>[b5 l n c8 de dM])) rfl (fun x=>by rcases x with _|_<;>rfl) (fun bs ai gd aq K U=>tw l n c8 de dM 4 ([63]:List UInt8) (bs.getD 0 0) av (by omega) (by omega) (by omega) ai gd K (fun z w=>U (.inl ()) ⟨z,w⟩) (fun z=>U (.inr ()) z)) ?_
     rintro (_|_) fb
     · try dsimp only [Sum.elim_inl,Sum.elim_inr] at fb
       dsimp only [Sum.elim_inl,Sum.elim_inr]
       have EP:=gm fb.2
       refine ap bY ([]) ([hi]:List au) (by simp only [List.map_cons,List.map_nil,cy];try rfl) (by simp only [List.map_cons,List.map_nil,cy];try rfl) (fun a=>by rw [cy];exact ⟨rfl,rfl⟩) (by (simp only [List.length_append,List.length_cons,List.length_nil];omega)) ?_
       refine aB ?_
       refine ag (by omega) ?_
       refine bx 115 [0] (σ:=au×Int×Int×Int) (fun ⟨dF,dN,dO,eu⟩=>aX l (cr l n k (c8+1)) dF (c8+1) de dM dN dO eu) (fun ⟨dF,dN,dO,eu⟩=>fR dF) (fun ⟨dF,dN,dO,eu⟩=>[b5 l n dN dO eu]) rfl (fun _=>rfl) (fun bs ai gd aq K U=>aO (c8+1) de dM (d+1) (by omega) (by omega) (by omega) (by omega) (bs.getD 0 0) ai gd K (fun c1 a8 a1 a6 aC=>U (c1,a8,a1,a6) aC)) ?_
       rintro ⟨dF,dN,dO,eu⟩ eR
       dsimp only at eR
       have tC:=eR.ba
       have tD:=eR.ad
       have tE:=eR.bB
       refine ap bY ([hi]:List au) ([dF]:List au) rfl (by simp only [List.map_cons,List.map_nil,cy];try rfl) (fun a=>by rw [cy];exact ⟨rfl,rfl⟩) (by (simp only [List.length_append,List.length_cons,List.length_nil];omega)) ?_
       refine bx 115 [0] (σ:=ar×Int×Int×Int) (fun ⟨hU,hz,fe,fz⟩=>(aX l (b8 l n 4 ([58]:List UInt8) dN) hU dN dO eu hz fe fz)∧(fe≠0→hU=[])) (fun ⟨hU,hz,fe,fz⟩=>ay hU) (fun ⟨hU,hz,fe,fz⟩=>[b5 l n hz fe fz]) rfl (fun _=>rfl) (fun bs ai gd aq K U=>gO l n dN dO eu 4 ([58]:List UInt8) (bs.getD 0 0) av (by omega) (by omega) (by omega) ai gd K (fun bQ a8 a1 a6 aC ak=>U (bQ,a8,a1,a6) ⟨aC,ak⟩)) ?_
       rintro ⟨hU,hz,fe,fz⟩ gP
       dsimp only at gP
       obtain ⟨gP,KD⟩:=gP
       have ER:=gP.ba
       have ES:=gP.ad
       have ET:=gP.bB
       refine ag (by omega) ?_
       refine bx 115 [0] (σ:=au×Int×Int×Int) (fun ⟨ga,hP,gH,gQ⟩=>aX l (cr l n k hz) ga hz fe fz hP gH gQ) (fun ⟨ga,hP,gH,gQ⟩=>fR ga) (fun ⟨ga,hP,gH,gQ⟩=>[b5 l n hP gH gQ]) rfl (fun _=>rfl) (fun bs ai gd aq K U=>aO hz fe fz (d+1) (by omega) (by omega) (by omega) (by omega) (bs.getD 0 0) ai gd K (fun c1 a8 a1 a6 aC=>U (c1,a8,a1,a6) aC)) ?_
       rintro ⟨ga,hP,gH,gQ⟩ hN
       dsimp only at hN
       have EZ:=hN.ba
       have E0:=hN.ad
       have E1:=hN.bB
       refine ap bY (([hi]:List au)++([dF]:List au)) ([ga]:List au) rfl (by simp only [List.map_cons,List.map_nil,cy];try rfl) (fun a=>by rw [cy];exact ⟨rfl,rfl⟩) (by (simp only [List.length_append,List.length_cons,List.length_nil];omega)) ?_
       refine bx 115 [0] (σ:=ar×Int×Int×Int) (fun ⟨nL,nM,iP,jB⟩=>(aX l (b8 l n 4 ([41]:List UInt8) hP) nL hP gH gQ nM iP jB)∧(iP≠0→nL=[])) (fun ⟨nL,nM,iP,jB⟩=>ay nL) (fun ⟨nL,nM,iP,jB⟩=>[b5 l n nM iP jB]) rfl (fun _=>rfl) (fun bs ai gd aq K U=>gO l n hP gH gQ 4 ([41]:List UInt8) (bs.getD 0 0) av (by omega) (by omega) (by omega) ai gd K (fun bQ a8 a1 a6 aC ak=>U (bQ,a8,a1,a6) ⟨aC,ak⟩)) ?_
       rintro ⟨nL,nM,iP,jB⟩ kv
       dsimp only at kv
       obtain ⟨kv,TH⟩:=kv
       have TI:=kv.ba
       have TJ:=kv.ad
       have TK:=kv.bB
       refine rt rfl fun _=>?_
       show K (.agg [.int .i64 7, .int .i64 0, .int .i64 0, .str ([]), .slice false [], .slice false [], .str ([]), .str ([]), .slice false (((([hi]:List au)++([dF]:List au))++([ga]:List au)).map bY), .slice false []]) (ae.aS m [(r, .cells [.slice false (l.map bm), .int .i64 nM, .int .i64 n, .int .i64 iP, .int .i64 jB])])
       refine cL (U (.mk 7 dB [] [] [hi,dF,ga] []) _ _ _ ?_) ?_
       · rw [cr,if_pos (by grind [bq])]
         rw [nJ]
         refine aX.from ak (by omega) (dd.bind ?_)
         rw [if_neg (cJ (dE fb.1)),if_neg (cJ (ed fb.1)),if_pos fb.2]
         exact aX.from fb.1 (by omega) (eR.bind (gP.bind (hN.bind (kv.map fun _=>au.mk 7 dB [] [] [hi,dF,ga] []))))
       · simp only [bU,au.a,au.n,List.map_cons,List.map_nil,List.map_append,List.cons_append,List.nil_append,cy];rfl
     try dsimp only [Sum.elim_inl,Sum.elim_inr] at fb
     dsimp only [Sum.elim_inl,Sum.elim_inr]
     refine ap bY ([]) ([hi]:List au) (by simp only [List.map_cons,List.map_nil,cy];try rfl) (by simp only [List.map_cons,List.map_nil,cy];try rfl) (fun a=>by rw [cy];exact ⟨rfl,rfl⟩) (by (simp only [List.length_append,List.length_cons,List.length_nil];omega)) ?_
     refine aB ?_
     refine bx 115 [0] (σ:=Int×Int) (fun ⟨kz,lA⟩=>(de=0→kz=5∧lA=cp l n c8)∧(de≠0→kz=de∧lA=dM)∧0<kz) (fun ⟨kz,lA⟩=> .da []) (fun ⟨kz,lA⟩=>[b5 l n c8 kz lA]) rfl (fun _=>rfl) (fun bs ai gd aq K U=>mO l n c8 de dM 5 (bs.getD 0 0) (by decide) av (by omega) (by omega) (by omega) ai gd K (fun z=>U (5,cp l n c8) ⟨fun _=>⟨rfl,rfl⟩,fun y=>absurd z y,by decide⟩) (fun z=>U (de,dM) ⟨fun y=>absurd y z,fun _=>⟨rfl,rfl⟩,by omega⟩)) ?_
     rintro ⟨kz,lA⟩ yD
     dsimp only at yD
     obtain ⟨E7,Bg,KG⟩:=yD
     refine ag (by omega) ?_
     refine bx 115 [0] (σ:=au×Int×Int×Int) (fun ⟨r1,l0,l1,mQ⟩=>aX l (cr l n k c8) r1 c8 kz lA l0 l1 mQ) (fun ⟨r1,l0,l1,mQ⟩=>fR r1) (fun ⟨r1,l0,l1,mQ⟩=>[b5 l n l0 l1 mQ]) rfl (fun _=>rfl) (fun bs ai gd aq K U=>aO c8 kz lA (d+1) (by omega) (by omega) (by omega) (by omega) (bs.getD 0 0) ai gd K (fun c1 a8 a1 a6 aC=>U (c1,a8,a1,a6) aC)) ?_
     rintro ⟨r1,l0,l1,mQ⟩ nN
     dsimp only at nN
     have TX:=nN.ba
     have TY:=nN.ad
     have TZ:=nN.bB
     refine ap bY ([hi]:List au) ([r1]:List au) rfl (by simp only [List.map_cons,List.map_nil,cy];try rfl) (fun a=>by rw [cy];exact ⟨rfl,rfl⟩) (by (simp only [List.length_append,List.length_cons,List.length_nil];omega)) ?_
     refine bx 115 [0] (σ:=ar×Int×Int×Int) (fun ⟨vP,vQ,l2,mR⟩=>(aX l (b8 l n 4 ([41]:List UInt8) l0) vP l0 l1 mQ vQ l2 mR)∧(l2≠0→vP=[])) (fun ⟨vP,vQ,l2,mR⟩=>ay vP) (fun ⟨vP,vQ,l2,mR⟩=>[b5 l n vQ l2 mR]) rfl (fun _=>rfl) (fun bs ai gd aq K U=>gO l n l0 l1 mQ 4 ([41]:List UInt8) (bs.getD 0 0) av (by omega) (by omega) (by omega) ai gd K (fun bQ a8 a1 a6 aC ak=>U (bQ,a8,a1,a6) ⟨aC,ak⟩)) ?_
     rintro ⟨vP,vQ,l2,mR⟩ jC
     dsimp only at jC
     obtain ⟨jC,Xk⟩:=jC
     have Xl:=jC.ba
     have Xm:=jC.ad
     have T0:=jC.bB
     refine rt rfl fun _=>?_
     show K (.agg [.int .i64 0, .int .i64 0, .int .i64 0, .str ([]), .slice false [], .slice false [], .str ([]), .str ([]), .slice false ((([hi]:List au)++([r1]:List au)).map bY), .slice false []]) (ae.aS m [(r, .cells [.slice false (l.map bm), .int .i64 vQ, .int .i64 n, .int .i64 l2, .int .i64 mR])])
     refine cL (U (.mk 0 dB [] [] [hi,r1] []) _ _ _ ?_) ?_
     · rw [cr,if_pos (by grind [bq])]
       obtain ⟨rfl,rfl,rfl⟩:=nN.st (by omega)
       obtain ⟨rfl,rfl,rfl⟩:=jC.st (by omega)
       rw [nJ]
       refine aX.from ak (by omega) (dd.bind ?_)
       by_cases aK:de=0
       · rw [if_neg (cJ (dE aK)),if_neg (cJ (ed aK)),if_neg (cJ (fb aK))]
         exact aX.bad _ (by omega) E7 Bg KG
       · obtain ⟨rfl,rfl⟩:=Bg aK
         exact aX.stuck aK (by omega) (by omega)
     · simp only [bU,au.a,au.n,List.map_cons,List.map_nil,List.map_append,List.cons_append,List.nil_append,cy];rfl
   replace cD:((I l a).1≠4)∨((I l a).2.2≠([40]:List UInt8)):=((eB cD).imp (fun q=>(ne_of_beq_false q)) (fun q=>(ne_of_beq_false q)))
   refine cf [0,1,4,5] 173 ((((I l a).1)==4)&&(((I l a).2.2)==([91]:List UInt8))) ?_ ?_
   · repeat' first
      |exact ⟨⟨_,rfl,by grind [bD.val]⟩,rfl⟩
      |refine ag (fun _=>?_) (fun _=>?_)
   refine ag (fun cK=>?_) (fun cK=>?_)
   · replace cK:((I l a).1=4)∧((I l a).2.2=([91]:List UInt8)):=⟨(eq_of_beq (dH cK)),(eq_of_beq (eA cK))⟩
     refine ag (by omega) ?_
     refine aB ?_
     refine cH (σ:=Int×Int×Int×List au) [] [0,1,4,13] 4 (fun ⟨a2,az,bl,xs⟩=>([(0, .loc 0 0),(1,ax d),(4, .loc 1 0),(13, .loc 3 0)],[b5 l n a2 az bl, .cells [ax 0,ax 0,ax 0,ay ([]), .own [], .own [],ay ([]),ay ([]), .own [], .own []], .cells [ax ((I l a).1),ax ((I l a).2.1),ay ((I l a).2.2)], .cells [ax 8,ax 0,ax 0,ay ([]:ar), .own [], .own [],ay ([]:ar),ay ([]:ar), .own (xs.map bY), .own []]],m)) (fun ⟨a2,az,bl,xs⟩=>0≤a2∧a+1≤a2∧a2≤l.length∧0≤az∧(az=0→(xs.length:Int)≤a2)∧xs.length≤5001∧∃bV:Nat,(az=0→l.length- a2<bV)∧dV (lY (cr l n k) l n (l.length+1) (a+1) []) az bl (lY (cr l n k) l n bV a2 xs)) (fun ⟨a2,az,bl,xs⟩=>if az=0 then l.length- a2.toNat+1 else 0) (a+1,e,q,[]) ⟨rfl,rfl⟩ ?_ ?_
     · try dsimp only
       exact ⟨by omega,by omega,by omega,by omega,fun _=>by simp;omega,by simp,l.length+1,fun _=>by omega,⟨fun _=>rfl,fun h=>absurd ak h⟩⟩
     rintro ⟨a2,az,bl,xs⟩ aE
     dsimp only at aE
     obtain ⟨i1,i2,i3,i4,i5,i6,bV,i8,i9⟩:=aE
     refine aB ?_
     refine ag (fun cC=>?_) (fun cC=>?_)
     · obtain ⟨bV,rfl⟩:∃k,bV=k+1:=⟨bV- 1,by have:=i8 cC;omega⟩
       have i10:=i8 cC
       have i11:=i5 cC
       refine bx 115 [0] (σ:=(Unit) ⊕ (Unit)) (Sum.elim (fun _=>az=0∧bq l 4 ([93]:List UInt8) a2=true) (fun _=>az=0→bq l 4 ([93]:List UInt8) a2=false)) (Sum.elim (fun _=> .b (.lit true)) (fun _=> .b (.lit false))) (Sum.elim (fun _=>[b5 l n (a2+1) az bl]) (fun _=>[b5 l n a2 az bl])) rfl (fun x=>by rcases x with _|_<;>rfl) (fun bs ai gd aq K U=>tw l n a2 az bl 4 ([93]:List UInt8) (bs.getD 0 0) av (by omega) (by omega) (by omega) ai gd K (fun z w=>U (.inl ()) ⟨z,w⟩) (fun z=>U (.inr ()) z)) ?_
       rintro (_|_) kW
       · try dsimp only [Sum.elim_inl,Sum.elim_inr] at kW
         dsimp only [Sum.elim_inl,Sum.elim_inr]
         have Xn:=gm kW.2
         refine aB ?_
         refine rt rfl fun _=>?_
         show K (.agg [.int .i64 8, .int .i64 0, .int .i64 0, .str ([]:ar), .slice false [], .slice false [], .str ([]:ar), .str ([]:ar), .slice false (xs.map bY), .slice false []]) (ae.aS m [(r, .cells [.slice false (l.map bm), .int .i64 (a2+1), .int .i64 n, .int .i64 az, .int .i64 bl])])
         refine cL (U (.mk 8 dB [] [] xs []) _ _ _ ?_) ?_
         · rw [cr,if_neg (by grind [bq]),if_pos (by grind [bq])]
           exact aX.from ak (by omega) (dV.done (a:=a+1) (e:=e) (q:=q) (i9.to fun _=>KC kW.2) kW.1 ak (by omega) (gm kW.2))
         · simp only [bU,au.a,au.n,List.map_cons,List.map_nil,List.map_append,List.cons_append,List.nil_append,cy];rfl
       try dsimp only [Sum.elim_inl,Sum.elim_inr] at kW
       dsimp only [Sum.elim_inl,Sum.elim_inr]
       refine aB ?_
       refine aB ?_
       refine bN ?_
       refine ag (fun eg=>?_) (fun eg=>?_)
       · refine bx 115 [0] (σ:=ar×Int×Int×Int) (fun ⟨mS,kX,kY,l3⟩=>(aX l (b8 l n 4 ([44]:List UInt8) a2) mS a2 az bl kX kY l3)∧(kY≠0→mS=[])) (fun ⟨mS,kX,kY,l3⟩=>ay mS) (fun ⟨mS,kX,kY,l3⟩=>[b5 l n kX kY l3]) rfl (fun _=>rfl) (fun bs ai gd aq K U=>gO l n a2 az bl 4 ([44]:List UInt8) (bs.getD 0 0) av (by omega) (by omega) (by omega) ai gd K (fun bQ a8 a1 a6 aC ak=>U (bQ,a8,a1,a6) ⟨aC,ak⟩)) ?_
         rintro ⟨mS,kX,kY,l3⟩ lB
         dsimp only at lB
         obtain ⟨lB,T1⟩:=lB
         have T2:=lB.ba
         have T3:=lB.ad
         have T4:=lB.bB
         refine ag (by omega) ?_
         refine bx 115 [0] (σ:=au×Int×Int×Int) (fun ⟨l4,nO,nP,nQ⟩=>aX l (cr l n k kX) l4 kX kY l3 nO nP nQ) (fun ⟨l4,nO,nP,nQ⟩=>fR l4) (fun ⟨l4,nO,nP,nQ⟩=>[b5 l n nO nP nQ]) rfl (fun _=>rfl) (fun bs ai gd aq K U=>aO kX kY l3 (d+1) (by omega) (by omega) (by omega) (by omega) (bs.getD 0 0) ai gd K (fun c1 a8 a1 a6 aC=>U (c1,a8,a1,a6) aC)) ?_
         rintro ⟨l4,nO,nP,nQ⟩ mT
         dsimp only at mT
         have T5:=mT.ba
         have T6:=mT.ad
         have T7:=mT.bB
         refine ap bY xs ([l4]:List au) rfl (by simp only [List.map_cons,List.map_nil,cy];try rfl) (fun a=>by rw [cy];exact ⟨rfl,rfl⟩) (by (simp only [List.length_append,List.length_cons,List.length_nil];omega)) ?_
         refine ⟨(nO,nP,nQ,xs++([l4]:List au)),⟨rfl,rfl⟩,?_,?_⟩
         · try dsimp only
           have bc:=mT.gt
           have c:=dV.step (dV.step (p:=b8 l n 4 [44] a2) (x:=mS) (g:=fun _ a=>(cr l n k a).bind fun x a=>lY (cr l n k) l n bV a (xs++[x])) (i9.to fun _=>(E5 (kW cC)).trans (tF eg)) lB) mT
           simp only [List.length_append,List.length_cons,List.length_nil]
           exact ⟨by omega,by omega,by omega,by omega,fun aU=>by have:=bc aU;omega,by omega,bV,fun aU=>by have:=bc aU;omega,c⟩
         try dsimp only
         rw [if_pos cC]
         have bc:=mT.gt
         split<;>omega
       refine ag (by omega) ?_
       refine bx 115 [0] (σ:=au×Int×Int×Int) (fun ⟨tJ,vR,vS,vT⟩=>aX l (cr l n k a2) tJ a2 az bl vR vS vT) (fun ⟨tJ,vR,vS,vT⟩=>fR tJ) (fun ⟨tJ,vR,vS,vT⟩=>[b5 l n vR vS vT]) rfl (fun _=>rfl) (fun bs ai gd aq K U=>aO a2 az bl (d+1) (by omega) (by omega) (by omega) (by omega) (bs.getD 0 0) ai gd K (fun c1 a8 a1 a6 aC=>U (c1,a8,a1,a6) aC)) ?_
       rintro ⟨tJ,vR,vS,vT⟩ tK
       dsimp only at tK
       have Xo:=tK.ba
       have Xp:=tK.ad
       have Xq:=tK.bB
       refine ap bY xs ([tJ]:List au) rfl (by simp only [List.map_cons,List.map_nil,cy];try rfl) (fun a=>by rw [cy];exact ⟨rfl,rfl⟩) (by (simp only [List.length_append,List.length_cons,List.length_nil];omega)) ?_
       refine ⟨(vR,vS,vT,xs++([tJ]:List au)),⟨rfl,rfl⟩,?_,?_⟩
       · try dsimp only
         have bc:=tK.gt
         have c:=dV.step (i9.to fun _=>(E5 (kW cC)).trans (tG eg)) tK
         simp only [List.length_append,List.length_cons,List.length_nil]
         exact ⟨by omega,by omega,by omega,by omega,fun aU=>by have:=bc aU;omega,by omega,bV,fun aU=>by have:=bc aU;omega,c⟩
       try dsimp only
       rw [if_pos cC]
       have bc:=tK.gt
       split<;>omega
     refine rt rfl fun _=>?_
     show K (.agg [.int .i64 8, .int .i64 0, .int .i64 0, .str ([]:ar), .slice false [], .slice false [], .str ([]:ar), .str ([]:ar), .slice false (xs.map bY), .slice false []]) (ae.aS m [(r, .cells [.slice false (l.map bm), .int .i64 a2, .int .i64 n, .int .i64 az, .int .i64 bl])])
     refine cL (U (.mk 8 dB [] [] xs []) _ _ _ ?_) ?_
     · rw [cr,if_neg (by grind [bq]),if_pos (by grind [bq])]
       exact aX.from ak (by omega) (dV.bad (a:=a+1) (e:=e) (q:=q) i9 cC ak (by omega) (by omega) (by omega))
     · simp only [bU,au.a,au.n,List.map_cons,List.map_nil,List.map_append,List.cons_append,List.nil_append,cy];rfl
   replace cK:((I l a).1≠4)∨((I l a).2.2≠([91]:List UInt8)):=((eB cK).imp (fun q=>(ne_of_beq_false q)) (fun q=>(ne_of_beq_false q)))
   refine cf [0,1,4,5] 216 ((((I l a).1)==4)&&(((I l a).2.2)==([123]:List UInt8))) ?_ ?_
   · repeat' first
      |exact ⟨⟨_,rfl,by grind [bD.val]⟩,rfl⟩
      |refine ag (fun _=>?_) (fun _=>?_)
   refine ag (fun fJ=>?_) (fun fJ=>?_)
   · replace fJ:((I l a).1=4)∧((I l a).2.2=([123]:List UInt8)):=⟨(eq_of_beq (dH fJ)),(eq_of_beq (eA fJ))⟩
     refine ag (by omega) ?_
     refine aB ?_
     refine cH (σ:=Int×Int×Int×List au×List ar) [] [0,1,4,16] 4 (fun ⟨a2,az,bl,xs,cw⟩=>([(0, .loc 0 0),(1,ax d),(4, .loc 1 0),(16, .loc 3 0)],[b5 l n a2 az bl, .cells [ax 0,ax 0,ax 0,ay ([]), .own [], .own [],ay ([]),ay ([]), .own [], .own []], .cells [ax ((I l a).1),ax ((I l a).2.1),ay ((I l a).2.2)], .cells [ax 9,ax 0,ax 0,ay ([]:ar), .own [], .own [],ay ([]:ar),ay ([]:ar), .own (xs.map bY), .own (cw.map cm)]],m)) (fun ⟨a2,az,bl,xs,cw⟩=>0≤a2∧a+1≤a2∧a2≤l.length∧0≤az∧(az=0→(xs.length:Int)≤a2∧(cw.length:Int)≤a2)∧xs.length≤5001∧cw.length≤5001∧∃bV:Nat,(az=0→l.length- a2<bV)∧dV (kV (cr l n k) l n (l.length+1) (a+1) [] []) az bl (kV (cr l n k) l n bV a2 cw xs)) (fun ⟨a2,az,bl,xs,cw⟩=>if az=0 then l.length- a2.toNat+1 else 0) (a+1,e,q,[],[]) ⟨rfl,rfl⟩ ?_ ?_
     · try dsimp only
       exact ⟨by omega,by omega,by omega,by omega,fun _=>⟨by simp;omega,by simp;omega⟩,by simp,by simp,l.length+1,fun _=>by omega,⟨fun _=>rfl,fun h=>absurd ak h⟩⟩
     rintro ⟨a2,az,bl,xs,cw⟩ aE
     dsimp only at aE
     obtain ⟨i1,i2,i3,i4,i5,i6,i7,bV,i8,i9⟩:=aE
     refine aB ?_
     refine ag (fun fL=>?_) (fun fL=>?_)
     · obtain ⟨bV,rfl⟩:∃k,bV=k+1:=⟨bV- 1,by have:=i8 fL;omega⟩
       have i10:=i8 fL
       have i11:=i5 fL
       refine bx 115 [0] (σ:=(Unit) ⊕ (Unit)) (Sum.elim (fun _=>az=0∧bq l 4 ([125]:List UInt8) a2=true) (fun _=>az=0→bq l 4 ([125]:List UInt8) a2=false)) (Sum.elim (fun _=> .b (.lit true)) (fun _=> .b (.lit false))) (Sum.elim (fun _=>[b5 l n (a2+1) az bl]) (fun _=>[b5 l n a2 az bl])) rfl (fun x=>by rcases x with _|_<;>rfl) (fun bs ai gd aq K U=>tw l n a2 az bl 4 ([125]:List UInt8) (bs.getD 0 0) av (by omega) (by omega) (by omega) ai gd K (fun z w=>U (.inl ()) ⟨z,w⟩) (fun z=>U (.inr ()) z)) ?_
       rintro (_|_) pY
       · try dsimp only [Sum.elim_inl,Sum.elim_inr] at pY
         dsimp only [Sum.elim_inl,Sum.elim_inr]
         have Xr:=gm pY.2
         refine aB ?_
         refine rt rfl fun _=>?_
         show K (.agg [.int .i64 9, .int .i64 0, .int .i64 0, .str ([]:ar), .slice false [], .slice false [], .str ([]:ar), .str ([]:ar), .slice false (xs.map bY), .slice false (cw.map cm)]) (ae.aS m [(r, .cells [.slice false (l.map bm), .int .i64 (a2+1), .int .i64 n, .int .i64 az, .int .i64 bl])])
         refine cL (U (.mk 9 dB [] [] xs cw) _ _ _ ?_) ?_
         · rw [cr,if_neg (by grind [bq]),if_neg (by grind [bq]),if_pos (by grind [bq])]
           exact aX.from ak (by omega) (dV.done (a:=a+1) (e:=e) (q:=q) (i9.to fun _=>KB pY.2) pY.1 ak (by omega) (gm pY.2))
         · simp only [bU,au.a,au.n,List.map_cons,List.map_nil,List.map_append,List.cons_append,List.nil_append,cy];rfl
       try dsimp only [Sum.elim_inl,Sum.elim_inr] at pY
       dsimp only [Sum.elim_inl,Sum.elim_inr]
       refine aB ?_
       refine aB ?_
       refine bN ?_
       refine ag (fun hs=>?_) (fun hs=>?_)
       · refine bx 115 [0] (σ:=ar×Int×Int×Int) (fun ⟨r2,r3,r4,tL⟩=>(aX l (b8 l n 4 ([44]:List UInt8) a2) r2 a2 az bl r3 r4 tL)∧(r4≠0→r2=[])) (fun ⟨r2,r3,r4,tL⟩=>ay r2) (fun ⟨r2,r3,r4,tL⟩=>[b5 l n r3 r4 tL]) rfl (fun _=>rfl) (fun bs ai gd aq K U=>gO l n a2 az bl 4 ([44]:List UInt8) (bs.getD 0 0) av (by omega) (by omega) (by omega) ai gd K (fun bQ a8 a1 a6 aC ak=>U (bQ,a8,a1,a6) ⟨aC,ak⟩)) ?_
         rintro ⟨r2,r3,r4,tL⟩ r5
         dsimp only at r5
         obtain ⟨r5,Xs⟩:=r5
         have Xt:=r5.ba
         have Xu:=r5.ad
         have Xv:=r5.bB
         refine bx 115 [0] (σ:=ar×Int×Int×Int) (fun ⟨mU,lC,nR,pZ⟩=>(aX l (b8 l n 1 ([]) r3) mU r3 r4 tL lC nR pZ)∧(nR≠0→mU=[])) (fun ⟨mU,lC,nR,pZ⟩=>ay mU) (fun ⟨mU,lC,nR,pZ⟩=>[b5 l n lC nR pZ]) rfl (fun _=>rfl) (fun bs ai gd aq K U=>gO l n r3 r4 tL 1 ([]) (bs.getD 0 0) av (by omega) (by omega) (by omega) ai gd K (fun bQ a8 a1 a6 aC ak=>U (bQ,a8,a1,a6) ⟨aC,ak⟩)) ?_
         rintro ⟨mU,lC,nR,pZ⟩ r6
         dsimp only at r6
         obtain ⟨r6,Xw⟩:=r6
         have Xx:=r6.ba
         have Xy:=r6.ad
         have Xz:=r6.bB
         refine aB ?_
         refine cf [0,1,4,16,18] 265 ((decide (0<(cw.length:Int)))&&(!(Op.bytesLess (I cw ((cw.length:Int)- 1)) mU))) ?_ ?_
         · repeat' first
            |exact ⟨⟨_,rfl,by grind [bD.val]⟩,rfl⟩
            |refine ag (fun _=>?_) (fun _=>?_)
            |refine bN ?_
            |refine ag (by omega) ?_
            |refine cX (by omega) ?_
         refine ag (fun ky=>?_) (fun ky=>?_)
         · replace ky:(0<(cw.length:Int))∧(Op.bytesLess (I cw ((cw.length:Int)- 1)) mU=false):=⟨(of_decide_eq_true (dH ky)),(dz (eA ky))⟩
           refine bx 115 [0] (σ:=Int×Int) (fun ⟨qY,r7⟩=>(nR=0→qY=3∧r7=cp l n lC)∧(nR≠0→qY=nR∧r7=pZ)∧0<qY) (fun ⟨qY,r7⟩=> .da []) (fun ⟨qY,r7⟩=>[b5 l n lC qY r7]) rfl (fun _=>rfl) (fun bs ai gd aq K U=>mO l n lC nR pZ 3 (bs.getD 0 0) (by decide) av (by omega) (by omega) (by omega) ai gd K (fun z=>U (3,cp l n lC) ⟨fun _=>⟨rfl,rfl⟩,fun y=>absurd z y,by decide⟩) (fun z=>U (nR,pZ) ⟨fun y=>absurd y z,fun _=>⟨rfl,rfl⟩,by omega⟩)) ?_
           rintro ⟨qY,r7⟩ KH
           dsimp only at KH
           obtain ⟨T8,T9,Ua⟩:=KH
           refine bx 115 [0] (σ:=ar×Int×Int×Int) (fun ⟨vU,r8,r9,tM⟩=>(aX l (b8 l n 4 ([58]:List UInt8) lC) vU lC qY r7 r8 r9 tM)∧(r9≠0→vU=[])) (fun ⟨vU,r8,r9,tM⟩=>ay vU) (fun ⟨vU,r8,r9,tM⟩=>[b5 l n r8 r9 tM]) rfl (fun _=>rfl) (fun bs ai gd aq K U=>gO l n lC qY r7 4 ([58]:List UInt8) (bs.getD 0 0) av (by omega) (by omega) (by omega) ai gd K (fun bQ a8 a1 a6 aC ak=>U (bQ,a8,a1,a6) ⟨aC,ak⟩)) ?_
           rintro ⟨vU,r8,r9,tM⟩ tN
           dsimp only at tN
           obtain ⟨tN,XA⟩:=tN
           have XB:=tN.ba
           have XC:=tN.ad
           have XD:=tN.bB
           refine ag (by omega) ?_
           refine bx 115 [0] (σ:=au×Int×Int×Int) (fun ⟨tO,vV,vW,vX⟩=>aX l (cr l n k r8) tO r8 r9 tM vV vW vX) (fun ⟨tO,vV,vW,vX⟩=>fR tO) (fun ⟨tO,vV,vW,vX⟩=>[b5 l n vV vW vX]) rfl (fun _=>rfl) (fun bs ai gd aq K U=>aO r8 r9 tM (d+1) (by omega) (by omega) (by omega) (by omega) (bs.getD 0 0) ai gd K (fun c1 a8 a1 a6 aC=>U (c1,a8,a1,a6) aC)) ?_
           rintro ⟨tO,vV,vW,vX⟩ tP
           dsimp only at tP
           have XE:=tP.ba
           have XF:=tP.ad
           have XG:=tP.bB
           refine ap cm cw ([mU]:List (List UInt8)) rfl rfl (fun _=>⟨rfl,rfl⟩) (by (simp only [List.length_append,List.length_cons,List.length_nil];omega)) ?_
           refine ap bY xs ([tO]:List au) rfl (by simp only [List.map_cons,List.map_nil,cy];try rfl) (fun a=>by rw [cy];exact ⟨rfl,rfl⟩) (by (simp only [List.length_append,List.length_cons,List.length_nil];omega)) ?_
           refine ⟨(vV,vW,vX,xs++([tO]:List au),cw++([mU]:List (List UInt8))),⟨rfl,rfl⟩,?_,?_⟩
           · try dsimp only
             have bc:=tP.gt
             have hF:=dV.step (dV.step (p:=b8 l n 4 [44] a2) (x:=r2) (g:=fun _ a=>yB (cr l n k) l n bV cw xs a) (i9.to fun _=>(yC (pY fL)).trans (tF hs)) r5) r6
             have c2:=dV.fail (R:=recC (cr l n k) l n bV cw xs mU lC) (hF.to fun _=>E3 ky) T8 T9 Ua
             have c:=dV.step (dV.step c2 tN) tP
             simp only [List.length_append,List.length_cons,List.length_nil]
             exact ⟨by omega,by omega,by omega,by omega,fun aU=>by have:=bc aU;omega,by omega,by omega,bV,fun aU=>by have:=bc aU;omega,c⟩
           try dsimp only
           rw [if_pos fL]
           have bc:=tP.gt
           split<;>omega
         replace ky:((cw.length:Int)≤0)∨(Op.bytesLess (I cw ((cw.length:Int)- 1)) mU=true):=((eB ky).imp (fun q=>(Int.not_lt.1 (of_decide_eq_false q))) (fun q=>(du q)))
         refine bx 115 [0] (σ:=ar×Int×Int×Int) (fun ⟨vY,sa,sb,tQ⟩=>(aX l (b8 l n 4 ([58]:List UInt8) lC) vY lC nR pZ sa sb tQ)∧(sb≠0→vY=[])) (fun ⟨vY,sa,sb,tQ⟩=>ay vY) (fun ⟨vY,sa,sb,tQ⟩=>[b5 l n sa sb tQ]) rfl (fun _=>rfl) (fun bs ai gd aq K U=>gO l n lC nR pZ 4 ([58]:List UInt8) (bs.getD 0 0) av (by omega) (by omega) (by omega) ai gd K (fun bQ a8 a1 a6 aC ak=>U (bQ,a8,a1,a6) ⟨aC,ak⟩)) ?_
         rintro ⟨vY,sa,sb,tQ⟩ tR
         dsimp only at tR
         obtain ⟨tR,XH⟩:=tR
         have XI:=tR.ba
         have XJ:=tR.ad
         have XK:=tR.bB
         refine ag (by omega) ?_
         refine bx 115 [0] (σ:=au×Int×Int×Int) (fun ⟨tS,vZ,v7,v8⟩=>aX l (cr l n k sa) tS sa sb tQ vZ v7 v8) (fun ⟨tS,vZ,v7,v8⟩=>fR tS) (fun ⟨tS,vZ,v7,v8⟩=>[b5 l n vZ v7 v8]) rfl (fun _=>rfl) (fun bs ai gd aq K U=>aO sa sb tQ (d+1) (by omega) (by omega) (by omega) (by omega) (bs.getD 0 0) ai gd K (fun c1 a8 a1 a6 aC=>U (c1,a8,a1,a6) aC)) ?_
         rintro ⟨tS,vZ,v7,v8⟩ tT
         dsimp only at tT
         have XL:=tT.ba
         have XM:=tT.ad
         have XN:=tT.bB
         refine ap cm cw ([mU]:List (List UInt8)) rfl rfl (fun _=>⟨rfl,rfl⟩) (by (simp only [List.length_append,List.length_cons,List.length_nil];omega)) ?_
         refine ap bY xs ([tS]:List au) rfl (by simp only [List.map_cons,List.map_nil,cy];try rfl) (fun a=>by rw [cy];exact ⟨rfl,rfl⟩) (by (simp only [List.length_append,List.length_cons,List.length_nil];omega)) ?_
         refine ⟨(vZ,v7,v8,xs++([tS]:List au),cw++([mU]:List (List UInt8))),⟨rfl,rfl⟩,?_,?_⟩
         · try dsimp only
           have bc:=tT.gt
           have hF:=dV.step (dV.step (p:=b8 l n 4 [44] a2) (x:=r2) (g:=fun _ a=>yB (cr l n k) l n bV cw xs a) (i9.to fun _=>(yC (pY fL)).trans (tF hs)) r5) r6
           have c2:=hF.to fun _=>E4 ky
           have c:=dV.step (dV.step c2 tR) tT
           simp only [List.length_append,List.length_cons,List.length_nil]
           exact ⟨by omega,by omega,by omega,by omega,fun aU=>by have:=bc aU;omega,by omega,by omega,bV,fun aU=>by have:=bc aU;omega,c⟩
         try dsimp only
         rw [if_pos fL]
         have bc:=tT.gt
         split<;>omega
       refine bx 115 [0] (σ:=ar×Int×Int×Int) (fun ⟨mV,lD,nS,p0⟩=>(aX l (b8 l n 1 ([]) a2) mV a2 az bl lD nS p0)∧(nS≠0→mV=[])) (fun ⟨mV,lD,nS,p0⟩=>ay mV) (fun ⟨mV,lD,nS,p0⟩=>[b5 l n lD nS p0]) rfl (fun _=>rfl) (fun bs ai gd aq K U=>gO l n a2 az bl 1 ([]) (bs.getD 0 0) av (by omega) (by omega) (by omega) ai gd K (fun bQ a8 a1 a6 aC ak=>U (bQ,a8,a1,a6) ⟨aC,ak⟩)) ?_
       rintro ⟨mV,lD,nS,p0⟩ sc
       dsimp only at sc
       obtain ⟨sc,XO⟩:=sc
       have XP:=sc.ba
       have XQ:=sc.ad
       have XR:=sc.bB
       refine aB ?_
       refine cf [0,1,4,16,18] 265 ((decide (0<(cw.length:Int)))&&(!(Op.bytesLess (I cw ((cw.length:Int)- 1)) mV))) ?_ ?_
       · repeat' first
          |exact ⟨⟨_,rfl,by grind [bD.val]⟩,rfl⟩
          |refine ag (fun _=>?_) (fun _=>?_)
          |refine bN ?_
          |refine ag (by omega) ?_
          |refine cX (by omega) ?_
       refine ag (fun jd=>?_) (fun jd=>?_)
       · replace jd:(0<(cw.length:Int))∧(Op.bytesLess (I cw ((cw.length:Int)- 1)) mV=false):=⟨(of_decide_eq_true (dH jd)),(dz (eA jd))⟩
         refine bx 115 [0] (σ:=Int×Int) (fun ⟨qZ,sd⟩=>(nS=0→qZ=3∧sd=cp l n lD)∧(nS≠0→qZ=nS∧sd=p0)∧0<qZ) (fun ⟨qZ,sd⟩=> .da []) (fun ⟨qZ,sd⟩=>[b5 l n lD qZ sd]) rfl (fun _=>rfl) (fun bs ai gd aq K U=>mO l n lD nS p0 3 (bs.getD 0 0) (by decide) av (by omega) (by omega) (by omega) ai gd K (fun z=>U (3,cp l n lD) ⟨fun _=>⟨rfl,rfl⟩,fun y=>absurd z y,by decide⟩) (fun z=>U (nS,p0) ⟨fun y=>absurd y z,fun _=>⟨rfl,rfl⟩,by omega⟩)) ?_
         rintro ⟨qZ,sd⟩ KI
         dsimp only at KI
         obtain ⟨Ub,Uc,Ud⟩:=KI
         refine bx 115 [0] (σ:=ar×Int×Int×Int) (fun ⟨wa,se,sf,tU⟩=>(aX l (b8 l n 4 ([58]:List UInt8) lD) wa lD qZ sd se sf tU)∧(sf≠0→wa=[])) (fun ⟨wa,se,sf,tU⟩=>ay wa) (fun ⟨wa,se,sf,tU⟩=>[b5 l n se sf tU]) rfl (fun _=>rfl) (fun bs ai gd aq K U=>gO l n lD qZ sd 4 ([58]:List UInt8) (bs.getD 0 0) av (by omega) (by omega) (by omega) ai gd K (fun bQ a8 a1 a6 aC ak=>U (bQ,a8,a1,a6) ⟨aC,ak⟩)) ?_
         rintro ⟨wa,se,sf,tU⟩ tV
         dsimp only at tV
         obtain ⟨tV,XS⟩:=tV
         have XT:=tV.ba
         have XU:=tV.ad
         have XV:=tV.bB
         refine ag (by omega) ?_
         refine bx 115 [0] (σ:=au×Int×Int×Int) (fun ⟨tW,wb,wc,we⟩=>aX l (cr l n k se) tW se sf tU wb wc we) (fun ⟨tW,wb,wc,we⟩=>fR tW) (fun ⟨tW,wb,wc,we⟩=>[b5 l n wb wc we]) rfl (fun _=>rfl) (fun bs ai gd aq K U=>aO se sf tU (d+1) (by omega) (by omega) (by omega) (by omega) (bs.getD 0 0) ai gd K (fun c1 a8 a1 a6 aC=>U (c1,a8,a1,a6) aC)) ?_
         rintro ⟨tW,wb,wc,we⟩ tX
         dsimp only at tX
         have XW:=tX.ba
         have XX:=tX.ad
         have XY:=tX.bB
         refine ap cm cw ([mV]:List (List UInt8)) rfl rfl (fun _=>⟨rfl,rfl⟩) (by (simp only [List.length_append,List.length_cons,List.length_nil];omega)) ?_
         refine ap bY xs ([tW]:List au) rfl (by simp only [List.map_cons,List.map_nil,cy];try rfl) (fun a=>by rw [cy];exact ⟨rfl,rfl⟩) (by (simp only [List.length_append,List.length_cons,List.length_nil];omega)) ?_
         refine ⟨(wb,wc,we,xs++([tW]:List au),cw++([mV]:List (List UInt8))),⟨rfl,rfl⟩,?_,?_⟩
         · try dsimp only
           have bc:=tX.gt
           have hF:=dV.step (i9.to fun _=>(yC (pY fL)).trans (tG hs)) sc
           have c2:=dV.fail (R:=recC (cr l n k) l n bV cw xs mV lD) (hF.to fun _=>E3 jd) Ub Uc Ud
           have c:=dV.step (dV.step c2 tV) tX
           simp only [List.length_append,List.length_cons,List.length_nil]
           exact ⟨by omega,by omega,by omega,by omega,fun aU=>by have:=bc aU;omega,by omega,by omega,bV,fun aU=>by have:=bc aU;omega,c⟩
         try dsimp only
         rw [if_pos fL]
         have bc:=tX.gt
         split<;>omega
       replace jd:((cw.length:Int)≤0)∨(Op.bytesLess (I cw ((cw.length:Int)- 1)) mV=true):=((eB jd).imp (fun q=>(Int.not_lt.1 (of_decide_eq_false q))) (fun q=>(du q)))
       refine bx 115 [0] (σ:=ar×Int×Int×Int) (fun ⟨wg,sg,sh,tY⟩=>(aX l (b8 l n 4 ([58]:List UInt8) lD) wg lD nS p0 sg sh tY)∧(sh≠0→wg=[])) (fun ⟨wg,sg,sh,tY⟩=>ay wg) (fun ⟨wg,sg,sh,tY⟩=>[b5 l n sg sh tY]) rfl (fun _=>rfl) (fun bs ai gd aq K U=>gO l n lD nS p0 4 ([58]:List UInt8) (bs.getD 0 0) av (by omega) (by omega) (by omega) ai gd K (fun bQ a8 a1 a6 aC ak=>U (bQ,a8,a1,a6) ⟨aC,ak⟩)) ?_
       rintro ⟨wg,sg,sh,tY⟩ tZ
       dsimp only at tZ
       obtain ⟨tZ,XZ⟩:=tZ
       have X0:=tZ.ba
       have X1:=tZ.ad
       have X2:=tZ.bB
       refine ag (by omega) ?_
       refine bx 115 [0] (σ:=au×Int×Int×Int) (fun ⟨ua,wh,wi,wj⟩=>aX l (cr l n k sg) ua sg sh tY wh wi wj) (fun ⟨ua,wh,wi,wj⟩=>fR ua) (fun ⟨ua,wh,wi,wj⟩=>[b5 l n wh wi wj]) rfl (fun _=>rfl) (fun bs ai gd aq K U=>aO sg sh tY (d+1) (by omega) (by omega) (by omega) (by omega) (bs.getD 0 0) ai gd K (fun c1 a8 a1 a6 aC=>U (c1,a8,a1,a6) aC)) ?_
       rintro ⟨ua,wh,wi,wj⟩ ub
       dsimp only at ub
       have X3:=ub.ba
       have X4:=ub.ad
       have X5:=ub.bB
       refine ap cm cw ([mV]:List (List UInt8)) rfl rfl (fun _=>⟨rfl,rfl⟩) (by (simp only [List.length_append,List.length_cons,List.length_nil];omega)) ?_
       refine ap bY xs ([ua]:List au) rfl (by simp only [List.map_cons,List.map_nil,cy];try rfl) (fun a=>by rw [cy];exact ⟨rfl,rfl⟩) (by (simp only [List.length_append,List.length_cons,List.length_nil];omega)) ?_
       refine ⟨(wh,wi,wj,xs++([ua]:List au),cw++([mV]:List (List UInt8))),⟨rfl,rfl⟩,?_,?_⟩
       · try dsimp only
         have bc:=ub.gt
         have hF:=dV.step (i9.to fun _=>(yC (pY fL)).trans (tG hs)) sc
         have c2:=hF.to fun _=>E4 jd
         have c:=dV.step (dV.step c2 tZ) ub
         simp only [List.length_append,List.length_cons,List.length_nil]
         exact ⟨by omega,by omega,by omega,by omega,fun aU=>by have:=bc aU;omega,by omega,by omega,bV,fun aU=>by have:=bc aU;omega,c⟩
       try dsimp only
       rw [if_pos fL]
       have bc:=ub.gt
       split<;>omega
     refine rt rfl fun _=>?_
     show K (.agg [.int .i64 9, .int .i64 0, .int .i64 0, .str ([]:ar), .slice false [], .slice false [], .str ([]:ar), .str ([]:ar), .slice false (xs.map bY), .slice false (cw.map cm)]) (ae.aS m [(r, .cells [.slice false (l.map bm), .int .i64 a2, .int .i64 n, .int .i64 az, .int .i64 bl])])
     refine cL (U (.mk 9 dB [] [] xs cw) _ _ _ ?_) ?_
     · rw [cr,if_neg (by grind [bq]),if_neg (by grind [bq]),if_pos (by grind [bq])]
       exact aX.from ak (by omega) (dV.bad (a:=a+1) (e:=e) (q:=q) i9 fL ak (by omega) (by omega) (by omega))
     · simp only [bU,au.a,au.n,List.map_cons,List.map_nil,List.map_append,List.cons_append,List.nil_append,cy];rfl
   replace fJ:((I l a).1≠4)∨((I l a).2.2≠([123]:List UInt8)):=((eB fJ).imp (fun q=>(ne_of_beq_false q)) (fun q=>(ne_of_beq_false q)))
   refine ag (fun lz=>?_) (fun lz=>?_)
   · refine bx 115 [0] (σ:=au×Int×Int×Int) (fun ⟨lE,wk,wm,wo⟩=>aX l (iD (cr l n k) l n a) lE a e q wk wm wo) (fun ⟨lE,wk,wm,wo⟩=>fR lE) (fun ⟨lE,wk,wm,wo⟩=>[b5 l n wk wm wo]) rfl (fun _=>rfl) (fun bs ai gd aq K U=>TT l n a e q k d ((I l a).2.2) (bs.getD 0 0) aO av (by omega) (by omega) (by omega) ak al aY (by grind [bq]) rfl ai gd K (fun c1 a8 a1 a6 aC=>U (c1,a8,a1,a6) aC)) ?_
     rintro ⟨lE,wk,wm,wo⟩ yE
     dsimp only at yE
     have X6:=yE.ba
     have X7:=yE.ad
     have X8:=yE.bB
     refine rt rfl fun _=>?_
     show K (.agg [.int .i64 lE.kind, .int .i64 lE.v.kind, .int .i64 lE.v.n, .str lE.v.s, .slice false (lE.v.l.map cn), .slice false (lE.v.f.map cB), .str lE.s, .str lE.t, .slice false (lE.a.map bY), .slice false (lE.n.map cm)]) (ae.aS m [(r, .cells [.slice false (l.map bm), .int .i64 wk, .int .i64 n, .int .i64 wm, .int .i64 wo])])
     refine U lE _ _ _ ?_
     rw [cr,if_neg (by grind [bq]),if_neg (by grind [bq]),if_neg (by grind [bq]),if_neg (by grind [bq]),if_neg (by grind [bq]),if_neg (by grind [bq])]
     exact yE
   refine bx 115 [0] (σ:=Int×Int) (fun ⟨si,uc⟩=>(e=0→si=5∧uc=cp l n a)∧(e≠0→si=e∧uc=q)∧0<si) (fun ⟨si,uc⟩=> .da []) (fun ⟨si,uc⟩=>[b5 l n a si uc]) rfl (fun _=>rfl) (fun bs ai gd aq K U=>mO l n a e q 5 (bs.getD 0 0) (by decide) av (by omega) (by omega) (by omega) ai gd K (fun z=>U (5,cp l n a) ⟨fun _=>⟨rfl,rfl⟩,fun y=>absurd z y,by decide⟩) (fun z=>U (e,q) ⟨fun y=>absurd y z,fun _=>⟨rfl,rfl⟩,by omega⟩)) ?_
   rintro ⟨si,uc⟩ KJ
   dsimp only at KJ
   obtain ⟨Ue,Uf,Ug⟩:=KJ
   refine rt rfl fun _=>?_
   show K (.agg [.int .i64 0, .int .i64 0, .int .i64 0, .str ([]), .slice false [], .slice false [], .str ([]), .str ([]), .slice false [], .slice false []]) (ae.aS m [(r, .cells [.slice false (l.map bm), .int .i64 a, .int .i64 n, .int .i64 si, .int .i64 uc])])
   refine cL (U (gA) _ _ _ ?_) ?_
   · rw [cr,if_neg (by grind [bq]),if_neg (by grind [bq]),if_neg (by grind [bq]),if_neg (by grind [bq]),if_neg (by grind [bq]),if_neg (by grind [bq])]
     rw [iD,if_neg (by grind [bq]),if_neg (by grind [bq]),if_neg (by grind [bq]),if_neg (by grind [bq]),if_neg (by grind [bq]),if_neg (by grind [bq]),if_neg (by grind [bq])]
     exact aX.bad _ aT Ue Uf Ug
   · simp only [bU,au.a,au.n,List.map_cons,List.map_nil,List.map_append,List.cons_append,List.nil_append,cy];rfl
 repeat' first
  |refine ⟨(),⟨rfl,rfl⟩,trivial⟩
  |refine cX (by omega) ?_
  |refine ⟨?_,?_,?_,trivial⟩
  |refine ⟨?_,?_,trivial⟩
end Go.Proofs
end
section
namespace Go.Proofs
open Go Go.bg Go.cz
set_option maxRecDepth 100000
set_option maxHeartbeats 2000000 in
theorem KK (l:List Tok) (n a e q:Int) (k:Nat) (d:Int) (r:Nat) (av:l.length≤5000) (aJ:0≤a) (aT:a≤l.length) (he:0≤e) (aU:e≠0∨(k=0∧d=7)) (m:ae) (gd:eC [r] m) (K:ab→ae→Prop) (U:∀bH bZ bR cj,aX l (cr l n k a) bH a e q bZ bR cj→K (bU bH) (ae.aS m [(r, .cells [.slice false (l.map bm), .int .i64 bZ, .int .i64 n, .int .i64 bR, .int .i64 cj])])):bh Tryz.prog 130 [.ptr ⟨r,0,none⟩, .int .i64 d] (ae.aS m [(r, .cells [.slice false (l.map bm), .int .i64 a, .int .i64 n, .int .i64 e, .int .i64 q])]) K:=by
 refine enter (c:=cT [] [] [] [8999] [] [r]) (vs:=[.loc 0 0, .aI (.int .i64 d)]) (L:=[b5 l n a e q]) (m:=m) false b2 Tryz.mixed Tryz.func130 rfl (k:=2) (by show cO [8999] _ _ _=true;decide+kernel) rfl (gd.gZ rfl) ?_
 refine aB ?_
 refine ag (fun J=>?_) (fun J=>?_)
 · refine bx 115 [0] (σ:=Int×Int) (fun ⟨bb,bo⟩=>(e=0→bb=2∧bo=cp l n a)∧(e≠0→bb=e∧bo=q)∧0<bb) (fun ⟨bb,bo⟩=> .da []) (fun ⟨bb,bo⟩=>[b5 l n a bb bo]) rfl (fun _=>rfl) (fun bs ai gd aq K U=>mO l n a e q 2 (bs.getD 0 0) (by decide) av (by omega) (by omega) (by omega) ai gd K (fun z=>U (2,cp l n a) ⟨fun _=>⟨rfl,rfl⟩,fun y=>absurd z y,by decide⟩) (fun z=>U (e,q) ⟨fun y=>absurd y z,fun _=>⟨rfl,rfl⟩,by omega⟩)) ?_
   rintro ⟨bb,bo⟩ bp
   dsimp only at bp
   obtain ⟨ly,ku,mP⟩:=bp
   refine aB ?_
   refine ag (fun aa=>?_) (fun aa=>?_)
   · refine rt rfl fun _=>?_
     show K (.agg [.int .i64 0, .int .i64 0, .int .i64 0, .str ([]), .slice false [], .slice false [], .str ([]), .str ([]), .slice false [], .slice false []]) (ae.aS m [(r, .cells [.slice false (l.map bm), .int .i64 a, .int .i64 n, .int .i64 bb, .int .i64 bo])])
     refine U gA _ _ _ ?_
     by_cases ak:e=0
     · obtain ⟨rfl,_⟩:=aU.resolve_left (fun h=>h ak)
       rw [cr]
       exact aX.bad _ aT ly ku mP
     · obtain ⟨rfl,rfl⟩:=ku ak
       exact aX.stuck ak he aT
   exact absurd aa (by omega)
 refine aB ?_
 refine ag (fun aj=>?_) (fun aj=>?_)
 · refine rt rfl fun _=>?_
   show K (.agg [.int .i64 0, .int .i64 0, .int .i64 0, .str ([]), .slice false [], .slice false [], .str ([]), .str ([]), .slice false [], .slice false []]) (ae.aS m [(r, .cells [.slice false (l.map bm), .int .i64 a, .int .i64 n, .int .i64 e, .int .i64 q])])
   refine U gA _ _ _ ?_
   exact aX.stuck (by omega) he aT
 exact absurd aj (by omega)
theorem Bh (l:List Tok) (n:Int) (av:l.length≤5000) (hw:lx l):∀(k:Nat),k≤7→∀a e q d:Int,d=7- (k:Int)→0≤a→a≤l.length→0≤e→∀(r:Nat) (m:ae),eC [r] m→∀(K:ab→ae→Prop),(∀bH bZ bR cj,aX l (cr l n k a) bH a e q bZ bR cj→K (bU bH) (ae.aS m [(r, .cells [.slice false (l.map bm), .int .i64 bZ, .int .i64 n, .int .i64 bR, .int .i64 cj])]))→bh Tryz.prog 130 [.ptr ⟨r,0,none⟩, .int .i64 d] (ae.aS m [(r, .cells [.slice false (l.map bm), .int .i64 a, .int .i64 n, .int .i64 e, .int .i64 q])]) K
 |0,_=>fun a e q d aY aJ aT he r m gd K U=>KK l n a e q 0 d r av aJ aT he (.inr ⟨rfl,by omega⟩) m gd K U
 |k+1,al=>fun a e q d aY aJ aT he r m gd K U=>by
  by_cases ak:e=0
  · exact TV l n a e q k d r (Bh l n av hw k (by omega)) av aJ aT he hw (by omega) (by omega) ak m gd K U
  · exact KK l n a e q (k+1) d r av aJ aT he (.inl ak) m gd K U
end Go.Proofs
end
section
namespace Go.Proofs
open Go Go.bg Go.cz
set_option maxRecDepth 100000
theorem KL (f:UInt8→Bool):∀(l:ar),l.take (l.takeWhile f).length=l.takeWhile f
 |[]=>rfl
 |c::r=>by
  cases h:f c with
  |true=>simp only [List.takeWhile_cons,h,if_true,List.length_cons,List.take_succ_cons,KL f r]
  |false=>simp [h]
theorem Uh (f:UInt8→Bool) (s:ar) {a:Int} (aJ:0≤a):sub s a (ep f s a)=(s.drop a.toNat).takeWhile f:=by
 have e:(ep f s a- a).toNat=((s.drop a.toNat).takeWhile f).length:=by
  simp only [ep,runN];omega
 rw [sub,e,KL]
theorem KM (f:UInt8→Bool):∀(l:ar),∀c∈l.takeWhile f,f c=true
 |[],c,h=>by cases h
 |x::r,c,h=>by
  cases an:f x with
  |true=>
   simp only [List.takeWhile_cons,an,if_true,List.mem_cons] at h
   rcases h with rfl|h
   · exact an
   · exact KM f r c h
  |false=>simp [an] at h
theorem Ui {s:ar} {a:Int} (aJ:0≤a) (aT:a<s.length) (h:(eI s a).1=2):(eI s a).2.1≠[]∧(eI s a).2.1.length≤10∧∀c∈(eI s a).2.1,48≤c.toNat∧c.toNat≤57:=by
 unfold eI at h ⊢
 split at h
 · split at h<;>simp at h
 · rename_i J
   split at h
   · rename_i aa
     split at h
     · simp at h
     · rename_i aj
       rw [if_neg J,if_pos aa,if_neg aj]
       have e:=Uh gg s aJ
       have av:(ep gg s a- a)=(((s.drop a.toNat).takeWhile gg).length:Int):=by
        simp only [ep,runN];omega
       refine ⟨?_,?_,?_⟩
       · rw [e]
         have aY:=jQ aJ aT
         rw [aY,List.takeWhile_cons,aa];simp
       · rw [e];show (List.takeWhile gg (List.drop a.toNat s)).length≤10;omega
       · rw [e];intro c ao
         have:=tt.1 (KM gg _ c ao)
         omega
   · split at h
     · split at h<;>simp at h
     · split at h
       · simp at h
       · split at h<;>simp at h
theorem Bi (s:ar):∀(n:Nat) (a:Int) (out:List Tok),0≤a→lx out→lx (hh n s a out).1
 |0,a,out,_,h=>by rw [hh];exact h
 |n+1,a,out,aJ,h=>by
  rw [hh]
  split
  · rename_i aT
    split
    · exact Bi s n _ _ (by omega) h
    · split
      · exact Bi s n _ _ (by have:=vz mN (s:=s) aJ;omega) h
      · split
        · intro t aq;cases aq
        · rename_i ah
          have he:(eI s a).2.2.2=0:=by simpa using ah
          refine Bi s n _ _ (by have:=(Ki aJ aT he).1;omega) fun t aq aa=>?_
          rcases List.mem_append.1 aq with aq|aq
          · exact h t aq aa
          · rw [List.mem_singleton.1 aq] at aa ⊢
            exact Ui aJ aT aa
  · exact h
theorem E8 (s:ar):lx (c7 s).1:=by
 unfold c7
 split
 · intro t aq;cases aq
 · exact Bi s _ _ _ (by omega) fun t aq=>by cases aq
end Go.Proofs
end
section
namespace Go.Proofs
open Go Go.bg Go.cz
set_option maxRecDepth 100000
mutual
def fS:au→Int
 | .mk _ _ _ _ a _=>je a+1
def je:List au→Int
 |[]=>0
 |e::r=>fS e+je r
end
mutual
def hj:au→Int
 | .mk _ _ _ _ a _=>kA a+1
def kA:List au→Int
 |[]=>0
 |e::r=>max (hj e) (kA r)
end
theorem E9 (e:au):fS e=je e.a+1:=by cases e with|mk k v s t a n=>simp only [fS,au.a]
theorem KN (e:au):hj e=kA e.a+1:=by cases e with|mk k v s t a n=>simp only [hj,au.a]
theorem KO {l:List au} {i:Int} (aJ:0≤i) (ad:i<l.length):je (l.drop i.toNat)=fS (I l i)+je (l.drop (i+1).toNat):=by rw [jQ aJ ad,je]
theorem KP {l:List au} {i:Int} (aJ:0≤i) (ad:i<l.length):kA (l.drop i.toNat)=max (hj (I l i)) (kA (l.drop (i+1).toNat)):=by rw [jQ aJ ad,kA]
mutual
theorem yF:∀e:au,1≤fS e∧fS e≤cZ e∧1≤hj e∧hj e≤fS e
 | .mk k v s t a n=>by
   have h:=wq a
   simp only [fS,hj,cZ]
   omega
theorem wq:∀l:List au,0≤je l∧je l≤im l∧0≤kA l∧kA l≤je l
 |[]=>by simp [je,kA,im]
 |e::r=>by
  have J:=yF e
  have aa:=wq r
  simp only [je,kA,im]
  omega
end
set_option maxHeartbeats 1000000 in
theorem Uj (k:Nat) (e:au) (aO:∀x:au,cZ x<k→cZ x≤1000000000→∀(m:ae) (K:ab→ae→Prop),K (.tuple [.int .i64 (fS x), .int .i64 (hj x)]) m→bh Tryz.prog 55 [bU x] m K) (aY:cZ e<k+1) (ah:cZ e≤1000000000) (m:ae) (K:ab→ae→Prop) (U:K (.tuple [.int .i64 (fS e), .int .i64 (hj e)]) m):bh Tryz.prog 55 [bU e] m K:=by
 have an:=yF e
 refine enter (c:=cT [] [0] [] [] [] []) (vs:=[.aI (bU e)]) (L:=[]) (m:=m) false b2 Tryz.mixed Tryz.func55 rfl (k:=1) (by show cO [] _ _ _=true;decide+kernel) rfl (Good.nil m) ?_
 refine ⟨fun bJ=>?_⟩
 have kq:e.v.s.length≤140737488355328:=(bJ 0 3 (Nat.le_of_ble_eq_true rfl))
 have mC:e.v.l.length≤140737488355328:=dr (bJ 0 4 (Nat.le_of_ble_eq_true rfl))
 have wu:e.v.f.length≤140737488355328:=dr (bJ 0 5 (Nat.le_of_ble_eq_true rfl))
 have wv:e.s.length≤140737488355328:=(bJ 0 6 (Nat.le_of_ble_eq_true rfl))
 have wx:e.t.length≤140737488355328:=(bJ 0 7 (Nat.le_of_ble_eq_true rfl))
 have wy:e.a.length≤140737488355328:=dr (bJ 0 8 (Nat.le_of_ble_eq_true rfl))
 have wz:e.n.length≤140737488355328:=dr (bJ 0 9 (Nat.le_of_ble_eq_true rfl))
 refine aB ?_
 refine cH (σ:=Int×Int×Int) [] [1,4,5,6] 1 (fun ⟨eX,p1,i⟩=>([(1, .loc 0 0),(4,ax eX),(5,ax p1),(6,ax i)],[.cells [ax e.kind,ax e.v.kind,ax e.v.n,ay e.v.s,aH (e.v.l.map cn),aH (e.v.f.map cB),ay e.s,ay e.t,aH (e.a.map bY),aH (e.n.map cm)]],m)) (fun ⟨eX,p1,i⟩=>0≤i∧i≤e.a.length∧1≤eX∧0≤p1∧fS e=eX+je (e.a.drop i.toNat)∧hj e=max p1 (kA (e.a.drop i.toNat))+1) (fun ⟨eX,p1,i⟩=>e.a.length- i.toNat) (1,0,0) ⟨rfl,rfl⟩ ?_ ?_
 · try dsimp only
   exact ⟨by omega,by omega,by omega,by omega,by rw [E9];show _=1+je e.a;omega,by rw [KN];show _=max 0 (kA e.a)+1;have:=(wq e.a).2.2.1;omega⟩
 rintro ⟨eX,p1,i⟩ aE
 dsimp only at aE
 refine aB ?_
 refine bN ?_
 refine ag (fun J=>?_) (fun J=>?_)
 · have lI:=KO aE.1 J
   have ml:=KP aE.1 J
   have aQ:=yF (I e.a i)
   have aU:=wq (e.a.drop (i+1).toNat)
   refine aB ?_
   refine fc bU cy (by omega) ?_
   refine cG (fun _=>aO (I e.a i) (by have:=iq (bF (l:=e.a) (i:=i) aE.1 (by assumption));omega) (by have:=iq (bF (l:=e.a) (i:=i) aE.1 (by assumption));omega)) rfl ?_
   refine ag (by omega) ?_
   refine ag (by omega) ?_
   refine ⟨(eX+(fS (I e.a i)),if hj (I e.a i)>p1 then hj (I e.a i) else p1,i+1),⟨rfl,rfl⟩,?_,?_⟩
   · try dsimp only
     refine ⟨by omega,by omega,by omega,?_,by omega,?_⟩<;>(first|omega|(split<;>omega))
   try dsimp only
   omega
 rw [List.drop_eq_nil_of_le (by omega)] at aE
 simp only [je,kA] at aE
 refine ag (by omega) ?_
 refine bn rfl fun _=>?_
 show K (.tuple [.int .i64 eX, .int .i64 (p1+1)]) m
 rw [show fS e=eX by omega,show hj e=p1+1 by omega] at U;exact U
end Go.Proofs
end
section
namespace Go.Proofs
open Go Go.bg Go.cz
set_option maxRecDepth 100000
theorem KQ:∀(k:Nat) (e:au),cZ e<k→cZ e≤1000000000→∀(m:ae) (K:ab→ae→Prop),K (.tuple [.int .i64 (fS e), .int .i64 (hj e)]) m→bh Tryz.prog 55 [bU e] m K
 |0,_,h=>absurd h (Nat.not_lt_zero _)
 |k+1,e,h=>fun ah m K U=>Uj k e (fun x an nw=>KQ k x an nw) h ah m K U
theorem Uk (e:au) (ah:cZ e≤1000000000) (m:ae) (K:ab→ae→Prop) (U:K (.tuple [.int .i64 (fS e), .int .i64 (hj e)]) m):bh Tryz.prog 55 [bU e] m K:=KQ (cZ e+1) e (Nat.lt_succ_self _) ah m K U
set_option maxHeartbeats 1000000 in
theorem Ul (k:Nat) (e:au) (d hk:Int) (p:Nat) (aO:∀x:au,cZ x<k→∀d hk:Int,0≤d→d≤100→0≤hk→hk≤60→∀(p:Nat) (m:ae),eC [p] m→∀(K:ab→ae→Prop),(∀fP,fP=hk- fS x∧hj x+d≤7∧fS x≤hk→K (.bool true) (ae.aS m [(p, .cells [.int .i64 fP])]))→(∀fP,¬(hj x+d≤7∧fS x≤hk)∧-1≤fP∧fP≤hk→K (.bool false) (ae.aS m [(p, .cells [.int .i64 fP])]))→bh Tryz.prog 59 [bU x, .int .i64 d, .ptr ⟨p,0,none⟩] (ae.aS m [(p, .cells [.int .i64 hk])]) K) (aY:cZ e<k+1) (Um:0≤d) (cq:d≤100) (bl:0≤hk) (gx:hk≤60) (m:ae) (gd:eC [p] m) (K:ab→ae→Prop) (gv:∀fP,fP=hk- fS e∧hj e+d≤7∧fS e≤hk→K (.bool true) (ae.aS m [(p, .cells [.int .i64 fP])])) (fq:∀fP,¬(hj e+d≤7∧fS e≤hk)∧-1≤fP∧fP≤hk→K (.bool false) (ae.aS m [(p, .cells [.int .i64 fP])])):bh Tryz.prog 59 [bU e, .int .i64 d, .ptr ⟨p,0,none⟩] (ae.aS m [(p, .cells [.int .i64 hk])]) K:=by
 have gy:=yF e
 have cU:=E9 e
 have eP:=KN e
 have eN:=wq e.a
 refine enter (c:=cT [] [0] [2] [] [] [p]) (vs:=[.aI (bU e), .aI (.int .i64 d), .loc 0 0]) (L:=[.cells [ax hk]]) (m:=m) false b2 Tryz.mixed Tryz.func59 rfl (k:=3) (by show cO [] _ _ _=true;decide+kernel) rfl (gd.gZ rfl) ?_
 refine ⟨fun bJ=>?_⟩
 have kq:e.v.s.length≤140737488355328:=(bJ 0 3 (Nat.le_of_ble_eq_true rfl))
 have mC:e.v.l.length≤140737488355328:=dr (bJ 0 4 (Nat.le_of_ble_eq_true rfl))
 have wu:e.v.f.length≤140737488355328:=dr (bJ 0 5 (Nat.le_of_ble_eq_true rfl))
 have wv:e.s.length≤140737488355328:=(bJ 0 6 (Nat.le_of_ble_eq_true rfl))
 have wx:e.t.length≤140737488355328:=(bJ 0 7 (Nat.le_of_ble_eq_true rfl))
 have wy:e.a.length≤140737488355328:=dr (bJ 0 8 (Nat.le_of_ble_eq_true rfl))
 have wz:e.n.length≤140737488355328:=dr (bJ 0 9 (Nat.le_of_ble_eq_true rfl))
 refine ag (by omega) ?_
 refine aB ?_
 refine cf [1,2,3] 21 ((decide (6<d))||(decide (hk- 1<0))) ?_ ?_
 · repeat' first
    |exact ⟨⟨_,rfl,by grind [bD.val]⟩,rfl⟩
    |refine ag (fun _=>?_) (fun _=>?_)
 refine ag (fun J=>?_) (fun J=>?_)
 · replace J:(6<d)∨(hk- 1<0):=((dq J).imp (fun q=>(of_decide_eq_true q)) (fun q=>(of_decide_eq_true q)))
   refine rt rfl fun _=>?_
   show K (.bool false) (ae.aS m [(p, .cells [.int .i64 (hk- 1)])])
   exact fq _ ⟨by omega,by omega,by omega⟩
 replace J:(d≤6)∧(0≤hk- 1):=⟨(Int.not_lt.1 (of_decide_eq_false (cb J))),(Int.not_lt.1 (of_decide_eq_false (dp J)))⟩
 refine aB ?_
 refine bN ?_
 refine cH (σ:=Int×Int) [] [1,2,23,24,25] 2 (fun ⟨i,f2⟩=>([(1,ax d),(2, .loc 0 0),(23,aH (e.a.map bY)),(24,ax (e.a.length:Int)),(25,ax i)],[.cells [ax f2], .cells [ax e.kind,ax e.v.kind,ax e.v.n,ay e.v.s,aH (e.v.l.map cn),aH (e.v.f.map cB),ay e.s,ay e.t,aH (e.a.map bY),aH (e.n.map cm)]],m)) (fun ⟨i,f2⟩=>0≤i∧i≤e.a.length∧0≤f2∧f2≤hk∧fS e=hk- f2+je (e.a.drop i.toNat)∧hj e≤max (7- d) (kA (e.a.drop i.toNat)+1)∧kA (e.a.drop i.toNat)≤kA e.a) (fun ⟨i,f2⟩=>e.a.length- i.toNat) (0,hk- 1) ⟨rfl,rfl⟩ ?_ ?_
 · try dsimp only
   exact ⟨by omega,by omega,by omega,by omega,by show _=_+je e.a;omega,by show _≤max _ (kA e.a+1);omega,Int.le_refl _⟩
 rintro ⟨i,f2⟩ aE
 dsimp only at aE
 refine aB ?_
 refine ag (fun aa=>?_) (fun aa=>?_)
 · have s1:=KO aE.1 aa
   have s2:=KP aE.1 aa
   have j5:=yF (I e.a i)
   have qN:=wq (e.a.drop (i+1).toNat)
   refine aB ?_
   refine fc bU cy (by omega) ?_
   refine ag (by omega) ?_
   refine bx 115 [0] (σ:=(Int) ⊕ (Int)) (Sum.elim (fun ib=>ib=f2- fS (I e.a i)∧hj (I e.a i)+(d+1)≤7∧fS (I e.a i)≤f2) (fun ib=>¬(hj (I e.a i)+(d+1)≤7∧fS (I e.a i)≤f2)∧-1≤ib∧ib≤f2)) (Sum.elim (fun ib=> .b (.lit true)) (fun ib=> .b (.lit false))) (Sum.elim (fun ib=>[.cells [ax ib]]) (fun ib=>[.cells [ax ib]])) rfl (fun x=>by rcases x with _|_<;>rfl) (fun bs ai gd aq K U=>aO (I e.a i) (by have:=iq (bF (l:=e.a) (i:=i) aE.1 (by assumption));omega) (d+1) f2 (by omega) (by omega) (by omega) (by omega) (bs.getD 0 0) ai gd K (fun f aC=>U (.inl f) aC) (fun f aC=>U (.inr f) aC)) ?_
   rintro (ib|ib) bp
   · try dsimp only [Sum.elim_inl,Sum.elim_inr] at bp
     dsimp only [Sum.elim_inl,Sum.elim_inr]
     refine ag (by omega) ?_
     refine ⟨(i+1,ib),⟨rfl,rfl⟩,?_,?_⟩
     · try dsimp only
       (first|omega|(simp_all;done)|(simp_all;omega))
     try dsimp only
     omega
   try dsimp only [Sum.elim_inl,Sum.elim_inr] at bp
   dsimp only [Sum.elim_inl,Sum.elim_inr]
   refine rt rfl fun _=>?_
   show K (.bool false) (ae.aS m [(p, .cells [.int .i64 ib])])
   exact fq _ ⟨by omega,by omega,by omega⟩
 rw [List.drop_eq_nil_of_le (by omega)] at aE
 simp only [je,kA] at aE
 refine rt rfl fun _=>?_
 show K (.bool true) (ae.aS m [(p, .cells [.int .i64 f2])])
 exact gv _ ⟨by omega,by omega,by omega⟩
end Go.Proofs
end
section
namespace Go.Proofs
open Go Go.bg Go.cz
set_option maxRecDepth 100000
theorem KR:∀(k:Nat) (e:au),cZ e<k→∀d hk:Int,0≤d→d≤100→0≤hk→hk≤60→∀(p:Nat) (m:ae),eC [p] m→∀(K:ab→ae→Prop),(∀fP,fP=hk- fS e∧hj e+d≤7∧fS e≤hk→K (.bool true) (ae.aS m [(p, .cells [.int .i64 fP])]))→(∀fP,¬(hj e+d≤7∧fS e≤hk)∧-1≤fP∧fP≤hk→K (.bool false) (ae.aS m [(p, .cells [.int .i64 fP])]))→bh Tryz.prog 59 [bU e, .int .i64 d, .ptr ⟨p,0,none⟩] (ae.aS m [(p, .cells [.int .i64 hk])]) K
 |0,_,h=>absurd h (Nat.not_lt_zero _)
 |k+1,e,h=>fun d hk aJ J aa aj p m gd K gv fq=>Ul k e d hk p (fun x an=>KR k x an) h aJ J aa aj m gd K gv fq
def ud (l:List ar):Prop:=∀i:Int,0≤i→i<l.length→cu (I l i)=true∧(0<i→Op.bytesLess (I l (i- 1)) (I l i)=true)
structure KS (e:au) (many names:Int) (s t:Bool):Prop where
 h:(e.kind=1∧many=0∧names=0∧s=(e.s==[])∧t=(e.t==[]))∨(e.kind=2∧many=0∧names=0∧s=cu e.s∧t=(e.t==[]))∨((e.kind=3∨e.kind=4)∧many=0∧names=0∧s=cu e.s∧t=cu e.t)∨
  ((e.kind=5∨e.kind=6)∧many=2∧names=0∧s=(e.s==[])∧t=(e.t==[]))∨(e.kind=7∧many=3∧names=0∧s=(e.s==[])∧t=(e.t==[]))∨(e.kind=8∧many=e.a.length∧names=0∧s=(e.s==[])∧t=(e.t==[]))∨
  (e.kind=9∧ud e.n∧many=e.a.length∧names=e.a.length∧s=(e.s==[])∧t=(e.t==[]))∨(e.kind=10∧many=1∧names=0∧s=cu e.s∧t=(e.t==[]))
def gp (e:au):Prop:=
 (e.kind=1∧e.s=[]∧e.t=[]∧(e.v.kind≤3∧b1 e.v=0)∧e.a=[]∧e.n=[])∨
 (e.v=dB∧((e.kind=2∧cu e.s=true∧e.t=[]∧e.a=[]∧e.n=[])∨((e.kind=3∨e.kind=4)∧cu e.s=true∧cu e.t=true∧e.a=[]∧e.n=[])∨((e.kind=5∨e.kind=6)∧e.s=[]∧e.t=[]∧e.a.length=2∧e.n=[])∨
   (e.kind=7∧e.s=[]∧e.t=[]∧e.a.length=3∧e.n=[])∨(e.kind=8∧e.s=[]∧e.t=[]∧e.n=[])∨(e.kind=9∧e.s=[]∧e.t=[]∧e.a.length=e.n.length∧ud e.n)∨(e.kind=10∧cu e.s=true∧e.t=[]∧e.a.length=1∧e.n=[])))
theorem gp.KT {e:au} {many names:Int} {s t:Bool} (w:KS e many names s t):gp e↔s=true∧t=true∧((e.kind=1∧e.v.kind≤3∧b1 e.v=0)∨(e.kind≠1∧e.v=dB))∧(e.a.length:Int)=many∧(e.n.length:Int)=names:=by
 have hC:(e.a.length:Int)=0↔e.a=[]:=by rw [←List.length_eq_zero_iff];omega
 have hd:(e.n.length:Int)=0↔e.n=[]:=by rw [←List.length_eq_zero_iff];omega
 unfold gp
 rcases w.h with ⟨al,rfl,rfl,rfl,rfl⟩|⟨al,rfl,rfl,rfl,rfl⟩|⟨al|al,rfl,rfl,rfl,rfl⟩|⟨al|al,rfl,rfl,rfl,rfl⟩|⟨al,rfl,rfl,rfl,rfl⟩|⟨al,rfl,rfl,rfl,rfl⟩|⟨al,aM,rfl,rfl,rfl,rfl⟩|⟨al,rfl,rfl,rfl,rfl⟩<;>simp only [al,hC,hd]<;>simp<;>grind
theorem gp.no {e:au} (h:¬(1≤e.kind∧e.kind≤10)):¬gp e:=by
 unfold gp;omega
theorem gp.sj {e:au} (h:e.kind=9) (aM:¬ud e.n):¬gp e:=by
 unfold gp;simp only [h];simp [aM]
mutual
def iE:au→Prop
 | .mk k v s t a n=>gp (.mk k v s t a n)∧ic a
def ic:List au→Prop
 |[]=>True
 |e::r=>iE e∧ic r
end
theorem p2 (e:au):iE e↔gp e∧ic e.a:=by cases e with|mk k v s t a n=>simp only [iE,au.a]
theorem Fa {l:List au} {i:Int} (aJ:0≤i) (ad:i<l.length):ic (l.drop i.toNat)↔iE (I l i)∧ic (l.drop (i+1).toNat):=by rw [jQ aJ ad,ic]
open Classical in
noncomputable def jD (e:au):Int:=if iE e then 0 else 3
open Classical in
noncomputable def ew (e:au):Int:=if 60<fS e∨6<hj e then 2 else jD e
theorem Fb (v:aW) (m:ae) (K:ab→ae→Prop) (U:K (.bool (decide (v.kind≤3)&&(b1 v==0))) m):bh Tryz.prog 78 [cV v] m K:=by
 refine enter (c:=cT [] [] [1] [] [] []) (vs:=[.aI (cV v)]) (L:=[]) (m:=m) false b2 Tryz.mixed Tryz.func78 rfl (k:=1) (by show cO [] _ _ _=true;decide+kernel) rfl (Good.nil m) ?_
 refine cf [] 2 ((decide (v.kind≤3))&&((b1 v)==0)) ?_ ?_
 · repeat' first
    |exact ⟨⟨_,rfl,by grind [bD.val]⟩,rfl⟩
    |refine ag (fun _=>?_) (fun _=>?_)
    |refine cG (fun _=>Ju v) rfl ?_
 exact bn rfl fun _=>U
end Go.Proofs
end
section
namespace Go.Proofs
open Go Go.bg Go.cz
set_option maxRecDepth 100000
theorem wA {e:au}:jD e=0↔iE e:=by unfold jD;split<;>simp [*]
theorem Fc {e:au} (h:iE e):jD e=0:=wA.2 h
theorem Bj {e:au} (h:¬iE e):jD e=3:=by unfold jD;rw [if_neg h]
theorem Un {e:au} (h:jD e≠0):jD e=3:=Bj fun aC=>h (wA.2 aC)
theorem Fe {e:au} (h:¬gp e):jD e=3:=Bj fun aC=>h ((p2 e).1 aC).1
theorem Uo {e:au} {i:Int} (aJ:0≤i) (ad:i<e.a.length) (aZ:ic e.a↔ic (e.a.drop i.toNat)) (h:jD (I e.a i)≠0):jD e=jD (I e.a i):=by
 rw [Un h]
 refine Bj fun aC=>h (wA.2 ?_)
 exact ((Fa aJ ad).1 (aZ.1 ((p2 e).1 aC).2)).1
theorem KU {e:au} {i:Int} (aJ:0≤i) (ad:i<e.a.length) (aZ:ic e.a↔ic (e.a.drop i.toNat)) (h:jD (I e.a i)=0):ic e.a↔ic (e.a.drop (i+1).toNat):=
 aZ.trans ((Fa aJ ad).trans ⟨fun h=>h.2,fun aa=>⟨wA.1 h,aa⟩⟩)
theorem Up {e:au} {i:Int} (ad:(e.a.length:Int)≤i) (aZ:ic e.a↔ic (e.a.drop i.toNat)) (h:gp e):jD e=0:=by
 rw [List.drop_eq_nil_of_le (by omega)] at aZ
 exact Fc ((p2 e).2 ⟨h,aZ.2 (by simp only [ic])⟩)
theorem Bk {e:au} (h:iE e):gp e∧∀x∈e.a,iE x:=by
 refine ⟨((p2 e).1 h).1,?_⟩
 have aa:=((p2 e).1 h).2
 generalize e.a=l at aa
 induction l with
 |nil=>intro x an;cases an
 |cons a r aO=>
  simp only [ic] at aa
  intro x an
  rcases List.mem_cons.1 an with rfl|an
  · exact aa.1
  · exact aO aa.2 x an
open Classical in
noncomputable def ue (e:au):Bool:=decide (iE e)
theorem wB {e:au}:ue e=true↔iE e:=by simp [ue]
theorem ow {v:aW}:v=dB↔v.kind=0∧v.n=0∧v.s=[]∧v.l=[]∧v.f=[]:=by
 cases v with
 |mk k n s l f=>simp [dB,aW.kind,aW.n,aW.s,aW.l,aW.f]
theorem sk {e:au} (h:ew e=0):iE e∧fS e≤60∧hj e≤6:=by
 unfold ew at h
 split at h
 · cases h
 · rename_i aC
   exact ⟨wA.1 h,by omega,by omega⟩
theorem uf (e:au):0≤ew e:=by
 unfold ew jD;split
 · decide
 · split<;>decide
mutual
def dY:au→Nat
 | .mk _ v _ _ a n=>bI v+n.length+hA a+1
def hA:List au→Nat
 |[]=>0
 |e::r=>dY e+hA r
end
theorem Bl (e:au):dY e=bI e.v+e.n.length+hA e.a+1:=by
 cases e with
 |mk k v s t a n=>simp only [dY,au.a,au.v,au.n]
theorem KV {l:List au} {e:au} (h:e∈l):dY e≤hA l:=by
 induction l with
 |nil=>cases h
 |cons a r aO=>
  simp only [hA]
  rcases List.mem_cons.1 h with rfl|h
  · omega
  · have:=aO h;omega
theorem Uq (l:List au):l.length≤hA l:=by
 induction l with
 |nil=>simp
 |cons a r aO=>simp only [hA,List.length_cons];have:=Bl a;omega
theorem KW:∀(k:Nat) (e:au),cZ e<k→cZ e≤dY e
 |0,_,h=>absurd h (Nat.not_lt_zero _)
 |k+1,e,h=>by
  have av:∀l:List au,(∀x∈l,cZ x≤dY x)→im l≤hA l:=fun l=>by
   induction l with
   |nil=>intro _;simp [hA,im]
   |cons a r aO=>
    intro aC
    simp only [hA,im]
    have:=aC a (List.mem_cons_self ..)
    have:=aO fun x an=>aC x (List.mem_cons_of_mem _ an)
    omega
  have:=av e.a fun x an=>KW k x (by have:=iq an;omega)
  rw [tz,Bl];omega
theorem ox {e:au} {b:Bool} (mW:iE e↔gp e) (h:gp e↔b=true):ue e=b:=by
 rw [Bool.eq_iff_iff,wB,mW];exact h
theorem KX {l:List ar} {i:Int} (h:∀j:Int,0≤j→j<i→cu (I l j)=true∧(0<j→Op.bytesLess (I l (j- 1)) (I l j)=true)) (J:cu (I l i)=true) (aa:0<i→Op.bytesLess (I l (i- 1)) (I l i)=true):
 ∀j:Int,0≤j→j<i+1→cu (I l j)=true∧(0<j→Op.bytesLess (I l (j- 1)) (I l j)=true):=fun j aJ aD=>by
 rcases Int.lt_or_le j i with aC|aC
 · exact h j aJ aC
 · obtain rfl:j=i:=by omega
   exact ⟨J,aa⟩
set_option maxHeartbeats 4000000 in
theorem Ur (k:Nat) (e:au) (aO:∀x:au,cZ x<k→∀(m:ae) (K:ab→ae→Prop),K (.err 115 (jD x)) m→bh Tryz.prog 60 [bU x] m K) (aY:cZ e<k+1) (m:ae) (K:ab→ae→Prop) (U:K (.err 115 (jD e)) m):bh Tryz.prog 60 [bU e] m K:=by
 refine enter (c:=cT [] [0,23] [23,28,29] [] [] []) (vs:=[.aI (bU e)]) (L:=[]) (m:=m) true b2 Tryz.mixed Tryz.func60 rfl (k:=1) (by show cO [] _ _ _=true;decide+kernel) rfl (Good.nil m) ?_
 refine ⟨fun bJ=>?_⟩
 have kq:e.v.s.length≤140737488355328:=(bJ 0 3 (Nat.le_of_ble_eq_true rfl))
 have mC:e.v.l.length≤140737488355328:=dr (bJ 0 4 (Nat.le_of_ble_eq_true rfl))
 have wu:e.v.f.length≤140737488355328:=dr (bJ 0 5 (Nat.le_of_ble_eq_true rfl))
 have wv:e.s.length≤140737488355328:=(bJ 0 6 (Nat.le_of_ble_eq_true rfl))
 have wx:e.t.length≤140737488355328:=(bJ 0 7 (Nat.le_of_ble_eq_true rfl))
 have wy:e.a.length≤140737488355328:=dr (bJ 0 8 (Nat.le_of_ble_eq_true rfl))
 have wz:e.n.length≤140737488355328:=dr (bJ 0 9 (Nat.le_of_ble_eq_true rfl))
 refine rN (σ:=Int×Int×Bool×Bool) [(3,0),(4,0),(5,0),(6,0)] [1,3,4,5,6] 1 (fun ⟨qP,bB,kc,tb⟩=>([(1, .loc 0 0),(3,ax qP),(4,ax bB),(5,jx kc),(6,jx tb)],[.cells [ax e.kind,ax e.v.kind,ax e.v.n,ay e.v.s,aH (e.v.l.map cn),aH (e.v.f.map cB),ay e.s,ay e.t,aH (e.a.map bY),aH (e.n.map cm)]],m)) (fun ⟨qP,bB,kc,tb⟩=>KS e qP bB kc tb) ?_ ?_
 · rintro ⟨qP,bB,kc,tb⟩ mG
   refine cf [1,3,4,5,6] 9 (((e.kind==1)&&(decide (e.v.kind≤3)&&(b1 e.v==0)))||((!(e.kind==1))&&(hy e.v dB))) ?_ ?_
   · repeat' first
      |exact ⟨⟨_,rfl,by grind [bD.val]⟩,rfl⟩
      |refine ag (fun _=>?_) (fun _=>?_)
      |refine cG (fun _=>Fb e.v) rfl ?_
      |refine cG (fun _=>Sq e.v dB) rfl ?_
   refine aB ?_
   refine cf [1] 130 (((((!kc)||(!tb))||(!(((e.kind==1)&&(decide (e.v.kind≤3)&&(b1 e.v==0)))||((!(e.kind==1))&&(hy e.v dB)))))||(!((e.a.length:Int)==qP)))||(!((e.n.length:Int)==bB))) ?_ ?_
   · repeat' first
      |exact ⟨⟨_,rfl,by grind [bD.val]⟩,rfl⟩
      |refine ag (fun _=>?_) (fun _=>?_)
      |refine bN ?_
   refine ag (fun J=>?_) (fun J=>?_)
   · replace J:((((kc=false)∨(tb=false))∨(((e.kind≠1)∨((decide (e.v.kind≤3)&&(b1 e.v==0))=false))∧((e.kind=1)∨(hy e.v dB=false))))∨((e.a.length:Int)≠qP))∨((e.n.length:Int)≠bB):=((dq J).imp (fun q=>((dq q).imp (fun q=>((dq q).imp (fun q=>((dq q).imp (fun q=>(dz q)) (fun q=>(dz q)))) (fun q=>⟨((eB (cb (dz q))).imp (fun q=>(ne_of_beq_false q)) (fun q=>q)),((eB (dp (dz q))).imp (fun q=>(eq_of_beq (du q))) (fun q=>q))⟩))) (fun q=>(ne_of_beq_false (dz q))))) (fun q=>(ne_of_beq_false (dz q))))
     refine bn rfl fun _=>?_
     show K (.err 115 3) m
     rw [Fe fun aC=>by have:=(gp.KT mG).1 aC;have:=@tl e.v dB;grind] at U;exact U
   replace J:((((kc=true)∧(tb=true))∧(((e.kind=1)∧((decide (e.v.kind≤3)&&(b1 e.v==0))=true))∨((e.kind≠1)∧(hy e.v dB=true))))∧((e.a.length:Int)=qP))∧((e.n.length:Int)=bB):=⟨⟨⟨⟨(du (cb (cb (cb (cb J))))),(du (dp (cb (cb (cb J)))))⟩,((dq (du (dp (cb (cb J))))).imp (fun q=>⟨(eq_of_beq (dH q)),(eA q)⟩) (fun q=>⟨(ne_of_beq_false (dz (dH q))),(eA q)⟩))⟩,(eq_of_beq (du (dp (cb J))))⟩,(eq_of_beq (du (dp J)))⟩
   have qh:gp e:=(gp.KT mG).2 (by have:=@tl e.v dB;grind)
   refine aB ?_
   refine bN ?_
   refine cH (σ:=Int) [] [133,134,135] 1 (fun i=>([(133,aH (e.a.map bY)),(134,ax (e.a.length:Int)),(135,ax i)],[.cells [ax e.kind,ax e.v.kind,ax e.v.n,ay e.v.s,aH (e.v.l.map cn),aH (e.v.f.map cB),ay e.s,ay e.t,aH (e.a.map bY),aH (e.n.map cm)]],m)) (fun i=>0≤i∧i≤e.a.length∧(ic e.a↔ic (e.a.drop i.toNat))) (fun i=>e.a.length- i.toNat) (0) ⟨rfl,rfl⟩ ?_ ?_
   · try dsimp only
     exact ⟨by omega,by omega,Iff.rfl⟩
   rintro i aE
   refine aB ?_
   refine ag (fun aa=>?_) (fun aa=>?_)
   · refine aB ?_
     refine fc bU cy (by omega) ?_
     refine cG (fun _=>aO (I e.a i) (by have:=iq (bF (l:=e.a) (i:=i) aE.1 (by assumption));omega)) rfl ?_
     refine ag (fun aj=>?_) (fun aj=>?_)
     · refine ag (by omega) ?_
       refine ⟨(i+1),⟨rfl,rfl⟩,?_,?_⟩
       · try dsimp only
         exact ⟨by omega,by omega,KU aE.1 (by assumption) aE.2.2 (by omega)⟩
       try dsimp only
       omega
     refine bn rfl fun _=>?_
     show K (.err 115 (jD (I e.a i))) m
     rw [Uo aE.1 (by assumption) aE.2.2 (by assumption)] at U;exact U
   refine bn rfl fun _=>?_
   show K (.err 115 0) m
   rw [Up (by omega) aE.2.2 qh] at U;exact U
 refine ag (fun aG=>?_) (fun aG=>?_)
 · refine ⟨(0,0,(e.s==([])),(e.t==([]))),⟨rfl,rfl⟩,⟨.inl ⟨by assumption,rfl,rfl,rfl,rfl⟩⟩⟩
 refine ag (fun aR=>?_) (fun aR=>?_)
 · refine cG (fun _=>rT e.s (by first|omega|exact ug)) rfl ?_
   refine ⟨(0,0,(cu e.s),(e.t==([]))),⟨rfl,rfl⟩,⟨.inr (.inl ⟨by assumption,rfl,rfl,rfl,rfl⟩)⟩⟩
 refine aB ?_
 refine ag (fun bu=>?_) (fun bu=>?_)
 · refine ag (fun cD=>?_) (fun cD=>?_)
   · refine gN (fun _=>rT e.s (by first|omega|exact ug)) ?_
     refine gN (fun _=>rT e.t (by first|omega|exact ug)) ?_
     refine ⟨(0,0,(cu e.s),(cu e.t)),⟨rfl,rfl⟩,⟨.inr (.inr (.inl ⟨.inl (by assumption),rfl,rfl,rfl,rfl⟩))⟩⟩
   exact absurd bu cD
 refine ag (fun cK=>?_) (fun cK=>?_)
 · refine gN (fun _=>rT e.s (by first|omega|exact ug)) ?_
   refine gN (fun _=>rT e.t (by first|omega|exact ug)) ?_
   refine ⟨(0,0,(cu e.s),(cu e.t)),⟨rfl,rfl⟩,⟨.inr (.inr (.inl ⟨.inr (by assumption),rfl,rfl,rfl,rfl⟩))⟩⟩
 refine aB ?_
 refine ag (fun cC=>?_) (fun cC=>?_)
 · refine ag (fun eg=>?_) (fun eg=>?_)
   · refine ⟨(2,0,(e.s==([])),(e.t==([]))),⟨rfl,rfl⟩,⟨.inr (.inr (.inr (.inl ⟨.inl (by assumption),rfl,rfl,rfl,rfl⟩)))⟩⟩
   exact absurd cC eg
 refine ag (fun fJ=>?_) (fun fJ=>?_)
 · refine ⟨(2,0,(e.s==([])),(e.t==([]))),⟨rfl,rfl⟩,⟨.inr (.inr (.inr (.inl ⟨.inr (by assumption),rfl,rfl,rfl,rfl⟩)))⟩⟩
 refine ag (fun fL=>?_) (fun fL=>?_)
 · refine ⟨(3,0,(e.s==([])),(e.t==([]))),⟨rfl,rfl⟩,⟨.inr (.inr (.inr (.inr (.inl ⟨by assumption,rfl,rfl,rfl,rfl⟩))))⟩⟩
 refine ag (fun hs=>?_) (fun hs=>?_)
 · refine bN ?_
   refine ⟨((e.a.length:Int),0,(e.s==([])),(e.t==([]))),⟨rfl,rfl⟩,⟨.inr (.inr (.inr (.inr (.inr (.inl ⟨by assumption,rfl,rfl,rfl,rfl⟩)))))⟩⟩
 refine ag (fun ky=>?_) (fun ky=>?_)
 · refine bN ?_
   refine bN ?_
   refine bN ?_
   refine cH (σ:=Int) [] [1,3,4,5,6,57,58,59] 1 (fun i=>([(1, .loc 0 0),(3,ax (e.a.length:Int)),(4,ax (e.a.length:Int)),(5,jx (e.s==([]))),(6,jx (e.t==([]))),(57,aH (e.n.map cm)),(58,ax (e.n.length:Int)),(59,ax i)],[.cells [ax e.kind,ax e.v.kind,ax e.v.n,ay e.v.s,aH (e.v.l.map cn),aH (e.v.f.map cB),ay e.s,ay e.t,aH (e.a.map bY),aH (e.n.map cm)]],m)) (fun i=>0≤i∧i≤e.n.length∧∀j:Int,0≤j→j<i→cu (I e.n j)=true∧(0<j→Op.bytesLess (I e.n (j- 1)) (I e.n j)=true)) (fun i=>e.n.length- i.toNat) (0) ⟨rfl,rfl⟩ ?_ ?_
   · try dsimp only
     exact ⟨by omega,by omega,fun j aJ aD=>by omega⟩
   rintro i aE
   refine aB ?_
   refine ag (fun jd=>?_) (fun jd=>?_)
   · refine aB ?_
     refine cX (by omega) ?_
     refine ⟨fun Us=>?_⟩
     have ug:(I e.n i).length≤140737488355328:=HO (f:=cm) (Us 57).2 (bF aE.1 (by assumption)) 0 (Nat.succ_pos _)
     refine cf [1,3,4,5,6,57,58,59] 80 ((!(cu (I e.n i)))||((decide (0<i))&&(!(Op.bytesLess (I e.n (i- 1)) (I e.n i))))) ?_ ?_
     · repeat' first
        |exact ⟨⟨_,rfl,by grind [bD.val]⟩,rfl⟩
        |refine ag (fun _=>?_) (fun _=>?_)
        |refine cG (fun _=>rT (I e.n i) (by first|omega|exact ug)) rfl ?_
        |refine ag (by omega) ?_
        |refine cX (by omega) ?_
     refine ag (fun lz=>?_) (fun lz=>?_)
     · replace lz:(cu (I e.n i)=false)∨((0<i)∧(Op.bytesLess (I e.n (i- 1)) (I e.n i)=false)):=((dq lz).imp (fun q=>(dz q)) (fun q=>⟨(of_decide_eq_true (dH q)),(dz (eA q))⟩))
       refine bn rfl fun _=>?_
       show K (.err 115 3) m
       rw [Fe (gp.sj (by assumption) fun aC=>by have:=aC i aE.1 (by assumption);grind)] at U;exact U
     replace lz:(cu (I e.n i)=true)∧((i≤0)∨(Op.bytesLess (I e.n (i- 1)) (I e.n i)=true)):=⟨(du (cb lz)),((eB (dp lz)).imp (fun q=>(Int.not_lt.1 (of_decide_eq_false q))) (fun q=>(du q)))⟩
     refine ag (by omega) ?_
     refine ⟨(i+1),⟨rfl,rfl⟩,?_,?_⟩
     · try dsimp only
       exact ⟨by omega,by omega,KX aE.2.2 (by grind) (by grind)⟩
     try dsimp only
     omega
   refine ⟨((e.a.length:Int),(e.a.length:Int),(e.s==([])),(e.t==([]))),⟨rfl,rfl⟩,⟨.inr (.inr (.inr (.inr (.inr (.inr (.inl ⟨by assumption,fun j aJ aD=>aE.2.2 j aJ (by omega),rfl,rfl,rfl,rfl⟩))))))⟩⟩
 refine ag (fun Bf=>?_) (fun Bf=>?_)
 · refine cG (fun _=>rT e.s (by first|omega|exact ug)) rfl ?_
   refine ⟨(1,0,(cu e.s),(e.t==([]))),⟨rfl,rfl⟩,⟨.inr (.inr (.inr (.inr (.inr (.inr (.inr ⟨by assumption,rfl,rfl,rfl,rfl⟩))))))⟩⟩
 refine bn rfl fun _=>?_
 show K (.err 115 3) m
 rw [Fe (gp.no (by omega))] at U;exact U
theorem KY:∀(k:Nat) (e:au),cZ e<k→∀(m:ae) (K:ab→ae→Prop),K (.err 115 (jD e)) m→bh Tryz.prog 60 [bU e] m K
 |0,_,h=>absurd h (Nat.not_lt_zero _)
 |k+1,e,h=>fun m K U=>Ur k e (fun x an=>KY k x an) h m K U
set_option maxHeartbeats 4000000 in
theorem Ut (k:Nat) (e:au) (aO:∀x:au,cZ x<k→dY x≤1000000000→∀(m:ae) (K:ab→ae→Prop),K (.bool (ue x)) m→bh Tryz.prog 56 [bU x] m K) (aY:cZ e<k+1) (cF:dY e≤1000000000) (m:ae) (K:ab→ae→Prop) (U:K (.bool (ue e)) m):bh Tryz.prog 56 [bU e] m K:=by
 have aw:=Bl e
 refine enter (c:=cT [] [0] [7,10,14,16,19,22,24,26,32,34,36] [] [] []) (vs:=[.aI (bU e)]) (L:=[]) (m:=m) false b2 Tryz.mixed Tryz.func56 rfl (k:=1) (by show cO [] _ _ _=true;decide+kernel) rfl (Good.nil m) ?_
 refine ⟨fun bJ=>?_⟩
 have kq:e.v.s.length≤140737488355328:=(bJ 0 3 (Nat.le_of_ble_eq_true rfl))
 have mC:e.v.l.length≤140737488355328:=dr (bJ 0 4 (Nat.le_of_ble_eq_true rfl))
 have wu:e.v.f.length≤140737488355328:=dr (bJ 0 5 (Nat.le_of_ble_eq_true rfl))
 have wv:e.s.length≤140737488355328:=(bJ 0 6 (Nat.le_of_ble_eq_true rfl))
 have wx:e.t.length≤140737488355328:=(bJ 0 7 (Nat.le_of_ble_eq_true rfl))
 have wy:e.a.length≤140737488355328:=dr (bJ 0 8 (Nat.le_of_ble_eq_true rfl))
 have wz:e.n.length≤140737488355328:=dr (bJ 0 9 (Nat.le_of_ble_eq_true rfl))
 refine aB ?_
 refine cH (σ:=Int) [] [1,3] 1 (fun i=>([(1, .loc 0 0),(3,ax i)],[.cells [ax e.kind,ax e.v.kind,ax e.v.n,ay e.v.s,aH (e.v.l.map cn),aH (e.v.f.map cB),ay e.s,ay e.t,aH (e.a.map bY),aH (e.n.map cm)]],m)) (fun i=>0≤i∧i≤e.a.length∧(ic e.a↔ic (e.a.drop i.toNat))) (fun i=>e.a.length- i.toNat) (0) ⟨rfl,rfl⟩ ?_ ?_
 · try dsimp only
   exact ⟨by omega,by omega,Iff.rfl⟩
 rintro i aE
 refine aB ?_
 refine bN ?_
 refine ag (fun J=>?_) (fun J=>?_)
 · refine aB ?_
   refine fc bU cy (by omega) ?_
   refine cG (fun _=>aO (I e.a i) (by have:=iq (bF (l:=e.a) (i:=i) aE.1 (by assumption));omega) (by have:=KV (bF (l:=e.a) (i:=i) aE.1 (by assumption));omega)) rfl ?_
   refine ag (fun aa=>?_) (fun aa=>?_)
   · refine ag (by omega) ?_
     refine ⟨(i+1),⟨rfl,rfl⟩,?_,?_⟩
     · try dsimp only
       exact ⟨by omega,by omega,KU aE.1 (by assumption) aE.2.2 (wA.2 (wB.1 (by assumption)))⟩
     try dsimp only
     omega
   refine bn rfl fun _=>?_
   show K (.bool false) m
   have q:ue e=false:=by
    rw [Bool.eq_false_iff,ne_eq,wB,p2]
    intro aC
    have:=((Fa aE.1 (by assumption)).1 (aE.2.2.1 aC.2)).1
    rw [←wB] at this;simp_all
   rw [q] at U;exact U
 have mW:iE e↔gp e:=by
  rw [p2]
  rw [List.drop_eq_nil_of_le (by omega)] at aE
  exact ⟨fun h=>h.1,fun h=>⟨h,aE.2.2.2 (by simp only [ic])⟩⟩
 refine cf [1] 5 (((((e.v.kind==0)&&(e.v.n==0))&&(e.v.s==([])))&&((e.v.l.length:Int)==0))&&((e.v.f.length:Int)==0)) ?_ ?_
 · repeat' first
    |exact ⟨⟨_,rfl,by grind [bD.val]⟩,rfl⟩
    |refine ag (fun _=>?_) (fun _=>?_)
    |refine bN ?_
 refine cG (fun _=>pT e.s) rfl ?_
 refine cG (fun _=>pT e.t) rfl ?_
 refine cf [1,5,6,7] 8 ((e.s==([]))&&(e.t==([]))) ?_ ?_
 · repeat' first
    |exact ⟨⟨_,rfl,by grind [bD.val]⟩,rfl⟩
    |refine ag (fun _=>?_) (fun _=>?_)
 refine bN ?_
 refine aB ?_
 refine ag (fun aj=>?_) (fun aj=>?_)
 · refine cf [] 2 ((((((e.a.length:Int)==0)&&((e.n.length:Int)==0))&&((e.s==([]))&&(e.t==([]))))&&(decide (e.v.kind<4)))&&((b1 e.v)==0)) ?_ ?_
   · repeat' first
      |exact ⟨⟨_,rfl,by grind [bD.val]⟩,rfl⟩
      |refine ag (fun _=>?_) (fun _=>?_)
      |refine bN ?_
      |refine cG (fun _=>JH e.v (by omega)) rfl ?_
   refine bn rfl fun _=>?_
   show K (.bool ((((((e.a.length:Int)==0)&&((e.n.length:Int)==0))&&((e.s==([]))&&(e.t==([]))))&&(decide (e.v.kind<4)))&&((b1 e.v)==0))) m
   refine cL U (congrArg ab.bool (ox mW ?_))
   have ak:=@ow e.v
   have hC:=@List.length_eq_zero_iff _ e.a
   have hd:=@List.length_eq_zero_iff _ e.n
   have lX:=@List.length_eq_zero_iff _ e.v.l
   have nG:=@List.length_eq_zero_iff _ e.v.f
   have al:e.kind=1:=by assumption
   have av:e.v.kind≤3↔e.v.kind<4:=by omega
   unfold gp
   simp only [al,av]
   simp only [Bool.and_eq_true,beq_iff_eq,decide_eq_true_eq]
   simp
   grind
 refine ag (fun aG=>?_) (fun aG=>?_)
 · refine cf [] 2 (((((((((e.v.kind==0)&&(e.v.n==0))&&(e.v.s==([])))&&((e.v.l.length:Int)==0))&&((e.v.f.length:Int)==0))&&((e.a.length:Int)==0))&&((e.n.length:Int)==0))&&(cu e.s))&&(e.t==([]))) ?_ ?_
   · repeat' first
      |exact ⟨⟨_,rfl,by grind [bD.val]⟩,rfl⟩
      |refine ag (fun _=>?_) (fun _=>?_)
      |refine bN ?_
   refine bn rfl fun _=>?_
   show K (.bool (((((((((e.v.kind==0)&&(e.v.n==0))&&(e.v.s==([])))&&((e.v.l.length:Int)==0))&&((e.v.f.length:Int)==0))&&((e.a.length:Int)==0))&&((e.n.length:Int)==0))&&(cu e.s))&&(e.t==([])))) m
   refine cL U (congrArg ab.bool (ox mW ?_))
   have ak:=@ow e.v
   have hC:=@List.length_eq_zero_iff _ e.a
   have hd:=@List.length_eq_zero_iff _ e.n
   have lX:=@List.length_eq_zero_iff _ e.v.l
   have nG:=@List.length_eq_zero_iff _ e.v.f
   unfold gp
   grind
 refine aB ?_
 refine ag (fun aR=>?_) (fun aR=>?_)
 · refine ag (fun bu=>?_) (fun bu=>?_)
   · refine cf [] 2 (((((((((e.v.kind==0)&&(e.v.n==0))&&(e.v.s==([])))&&((e.v.l.length:Int)==0))&&((e.v.f.length:Int)==0))&&((e.a.length:Int)==0))&&((e.n.length:Int)==0))&&(cu e.s))&&(cu e.t)) ?_ ?_
     · repeat' first
        |exact ⟨⟨_,rfl,by grind [bD.val]⟩,rfl⟩
        |refine ag (fun _=>?_) (fun _=>?_)
        |refine bN ?_
     refine bn rfl fun _=>?_
     show K (.bool (((((((((e.v.kind==0)&&(e.v.n==0))&&(e.v.s==([])))&&((e.v.l.length:Int)==0))&&((e.v.f.length:Int)==0))&&((e.a.length:Int)==0))&&((e.n.length:Int)==0))&&(cu e.s))&&(cu e.t))) m
     refine cL U (congrArg ab.bool (ox mW ?_))
     have ak:=@ow e.v
     have hC:=@List.length_eq_zero_iff _ e.a
     have hd:=@List.length_eq_zero_iff _ e.n
     have lX:=@List.length_eq_zero_iff _ e.v.l
     have nG:=@List.length_eq_zero_iff _ e.v.f
     unfold gp
     grind
   exact absurd aR bu
 refine ag (fun cD=>?_) (fun cD=>?_)
 · refine cf [] 2 (((((((((e.v.kind==0)&&(e.v.n==0))&&(e.v.s==([])))&&((e.v.l.length:Int)==0))&&((e.v.f.length:Int)==0))&&((e.a.length:Int)==0))&&((e.n.length:Int)==0))&&(cu e.s))&&(cu e.t)) ?_ ?_
   · repeat' first
      |exact ⟨⟨_,rfl,by grind [bD.val]⟩,rfl⟩
      |refine ag (fun _=>?_) (fun _=>?_)
      |refine bN ?_
   refine bn rfl fun _=>?_
   show K (.bool (((((((((e.v.kind==0)&&(e.v.n==0))&&(e.v.s==([])))&&((e.v.l.length:Int)==0))&&((e.v.f.length:Int)==0))&&((e.a.length:Int)==0))&&((e.n.length:Int)==0))&&(cu e.s))&&(cu e.t))) m
   refine cL U (congrArg ab.bool (ox mW ?_))
   have ak:=@ow e.v
   have hC:=@List.length_eq_zero_iff _ e.a
   have hd:=@List.length_eq_zero_iff _ e.n
   have lX:=@List.length_eq_zero_iff _ e.v.l
   have nG:=@List.length_eq_zero_iff _ e.v.f
   unfold gp
   grind
 refine aB ?_
 refine ag (fun cK=>?_) (fun cK=>?_)
 · refine ag (fun cC=>?_) (fun cC=>?_)
   · refine cf [] 2 ((((((((e.v.kind==0)&&(e.v.n==0))&&(e.v.s==([])))&&((e.v.l.length:Int)==0))&&((e.v.f.length:Int)==0))&&((e.a.length:Int)==2))&&((e.n.length:Int)==0))&&((e.s==([]))&&(e.t==([])))) ?_ ?_
     · repeat' first
        |exact ⟨⟨_,rfl,by grind [bD.val]⟩,rfl⟩
        |refine ag (fun _=>?_) (fun _=>?_)
        |refine bN ?_
     refine bn rfl fun _=>?_
     show K (.bool ((((((((e.v.kind==0)&&(e.v.n==0))&&(e.v.s==([])))&&((e.v.l.length:Int)==0))&&((e.v.f.length:Int)==0))&&((e.a.length:Int)==2))&&((e.n.length:Int)==0))&&((e.s==([]))&&(e.t==([]))))) m
     refine cL U (congrArg ab.bool (ox mW ?_))
     have ak:=@ow e.v
     have hC:=@List.length_eq_zero_iff _ e.a
     have hd:=@List.length_eq_zero_iff _ e.n
     have lX:=@List.length_eq_zero_iff _ e.v.l
     have nG:=@List.length_eq_zero_iff _ e.v.f
     unfold gp
     grind
   exact absurd cK cC
 refine ag (fun eg=>?_) (fun eg=>?_)
 · refine cf [] 2 ((((((((e.v.kind==0)&&(e.v.n==0))&&(e.v.s==([])))&&((e.v.l.length:Int)==0))&&((e.v.f.length:Int)==0))&&((e.a.length:Int)==2))&&((e.n.length:Int)==0))&&((e.s==([]))&&(e.t==([])))) ?_ ?_
   · repeat' first
      |exact ⟨⟨_,rfl,by grind [bD.val]⟩,rfl⟩
      |refine ag (fun _=>?_) (fun _=>?_)
      |refine bN ?_
   refine bn rfl fun _=>?_
   show K (.bool ((((((((e.v.kind==0)&&(e.v.n==0))&&(e.v.s==([])))&&((e.v.l.length:Int)==0))&&((e.v.f.length:Int)==0))&&((e.a.length:Int)==2))&&((e.n.length:Int)==0))&&((e.s==([]))&&(e.t==([]))))) m
   refine cL U (congrArg ab.bool (ox mW ?_))
   have ak:=@ow e.v
   have hC:=@List.length_eq_zero_iff _ e.a
   have hd:=@List.length_eq_zero_iff _ e.n
   have lX:=@List.length_eq_zero_iff _ e.v.l
   have nG:=@List.length_eq_zero_iff _ e.v.f
   unfold gp
   grind
 refine ag (fun fJ=>?_) (fun fJ=>?_)
 · refine cf [] 2 ((((((((e.v.kind==0)&&(e.v.n==0))&&(e.v.s==([])))&&((e.v.l.length:Int)==0))&&((e.v.f.length:Int)==0))&&((e.a.length:Int)==3))&&((e.n.length:Int)==0))&&((e.s==([]))&&(e.t==([])))) ?_ ?_
   · repeat' first
      |exact ⟨⟨_,rfl,by grind [bD.val]⟩,rfl⟩
      |refine ag (fun _=>?_) (fun _=>?_)
      |refine bN ?_
   refine bn rfl fun _=>?_
   show K (.bool ((((((((e.v.kind==0)&&(e.v.n==0))&&(e.v.s==([])))&&((e.v.l.length:Int)==0))&&((e.v.f.length:Int)==0))&&((e.a.length:Int)==3))&&((e.n.length:Int)==0))&&((e.s==([]))&&(e.t==([]))))) m
   refine cL U (congrArg ab.bool (ox mW ?_))
   have ak:=@ow e.v
   have hC:=@List.length_eq_zero_iff _ e.a
   have hd:=@List.length_eq_zero_iff _ e.n
   have lX:=@List.length_eq_zero_iff _ e.v.l
   have nG:=@List.length_eq_zero_iff _ e.v.f
   unfold gp
   grind
 refine ag (fun fL=>?_) (fun fL=>?_)
 · refine cf [] 2 (((((((e.v.kind==0)&&(e.v.n==0))&&(e.v.s==([])))&&((e.v.l.length:Int)==0))&&((e.v.f.length:Int)==0))&&((e.n.length:Int)==0))&&((e.s==([]))&&(e.t==([])))) ?_ ?_
   · repeat' first
      |exact ⟨⟨_,rfl,by grind [bD.val]⟩,rfl⟩
      |refine ag (fun _=>?_) (fun _=>?_)
   refine bn rfl fun _=>?_
   show K (.bool (((((((e.v.kind==0)&&(e.v.n==0))&&(e.v.s==([])))&&((e.v.l.length:Int)==0))&&((e.v.f.length:Int)==0))&&((e.n.length:Int)==0))&&((e.s==([]))&&(e.t==([]))))) m
   refine cL U (congrArg ab.bool (ox mW ?_))
   have ak:=@ow e.v
   have hC:=@List.length_eq_zero_iff _ e.a
   have hd:=@List.length_eq_zero_iff _ e.n
   have lX:=@List.length_eq_zero_iff _ e.v.l
   have nG:=@List.length_eq_zero_iff _ e.v.f
   unfold gp
   grind
 refine ag (fun hs=>?_) (fun hs=>?_)
 · refine aB ?_
   refine cH (σ:=Int) [] [1,5,8,10] 1 (fun i2=>([(1, .loc 0 0),(5,jx (((((e.v.kind==0)&&(e.v.n==0))&&(e.v.s==([])))&&((e.v.l.length:Int)==0))&&((e.v.f.length:Int)==0))),(8,jx ((e.s==([]))&&(e.t==([])))),(10,ax i2)],[.cells [ax e.kind,ax e.v.kind,ax e.v.n,ay e.v.s,aH (e.v.l.map cn),aH (e.v.f.map cB),ay e.s,ay e.t,aH (e.a.map bY),aH (e.n.map cm)]],m)) (fun i2=>0≤i2∧i2≤e.n.length∧∀j:Int,0≤j→j<i2→cu (I e.n j)=true∧(0<j→Op.bytesLess (I e.n (j- 1)) (I e.n j)=true)) (fun i2=>e.n.length- i2.toNat) (0) ⟨rfl,rfl⟩ ?_ ?_
   · try dsimp only
     exact ⟨by omega,by omega,fun j aJ aD=>by omega⟩
   rintro i2 bK
   refine aB ?_
   refine bN ?_
   refine ag (fun ky=>?_) (fun ky=>?_)
   · refine aB ?_
     refine cX (by omega) ?_
     refine cG (fun _=>pT (I e.n i2)) rfl ?_
     refine cf [1,5,8,10] 214 ((!(cu (I e.n i2)))||((decide (0<i2))&&(!(Op.bytesLess (I e.n (i2- 1)) (I e.n i2))))) ?_ ?_
     · repeat' first
        |exact ⟨⟨_,rfl,by grind [bD.val]⟩,rfl⟩
        |refine ag (fun _=>?_) (fun _=>?_)
        |refine ag (by omega) ?_
        |refine cX (by omega) ?_
     refine ag (fun jd=>?_) (fun jd=>?_)
     · replace jd:(cu (I e.n i2)=false)∨((0<i2)∧(Op.bytesLess (I e.n (i2- 1)) (I e.n i2)=false)):=((dq jd).imp (fun q=>(dz q)) (fun q=>⟨(of_decide_eq_true (dH q)),(dz (eA q))⟩))
       refine bn rfl fun _=>?_
       show K (.bool false) m
       refine cL U (congrArg ab.bool (ox mW ?_))
       have ak:=@ow e.v
       have hC:=@List.length_eq_zero_iff _ e.a
       have hd:=@List.length_eq_zero_iff _ e.n
       have lX:=@List.length_eq_zero_iff _ e.v.l
       have nG:=@List.length_eq_zero_iff _ e.v.f
       have Ff:¬ud e.n:=fun aC=>by have:=aC i2 bK.1 (by assumption);grind
       unfold gp
       grind
     replace jd:(cu (I e.n i2)=true)∧((i2≤0)∨(Op.bytesLess (I e.n (i2- 1)) (I e.n i2)=true)):=⟨(du (cb jd)),((eB (dp jd)).imp (fun q=>(Int.not_lt.1 (of_decide_eq_false q))) (fun q=>(du q)))⟩
     refine ag (by omega) ?_
     refine ⟨(i2+1),⟨rfl,rfl⟩,?_,?_⟩
     · try dsimp only
       exact ⟨by omega,by omega,KX bK.2.2 (by grind) (by grind)⟩
     try dsimp only
     omega
   refine cf [] 2 (((((((e.v.kind==0)&&(e.v.n==0))&&(e.v.s==([])))&&((e.v.l.length:Int)==0))&&((e.v.f.length:Int)==0))&&((e.a.length:Int)==(e.n.length:Int)))&&((e.s==([]))&&(e.t==([])))) ?_ ?_
   · repeat' first
      |exact ⟨⟨_,rfl,by grind [bD.val]⟩,rfl⟩
      |refine ag (fun _=>?_) (fun _=>?_)
      |refine bN ?_
   refine bn rfl fun _=>?_
   show K (.bool (((((((e.v.kind==0)&&(e.v.n==0))&&(e.v.s==([])))&&((e.v.l.length:Int)==0))&&((e.v.f.length:Int)==0))&&((e.a.length:Int)==(e.n.length:Int)))&&((e.s==([]))&&(e.t==([]))))) m
   refine cL U (congrArg ab.bool (ox mW ?_))
   have ak:=@ow e.v
   have hC:=@List.length_eq_zero_iff _ e.a
   have hd:=@List.length_eq_zero_iff _ e.n
   have lX:=@List.length_eq_zero_iff _ e.v.l
   have nG:=@List.length_eq_zero_iff _ e.v.f
   have Ff:ud e.n:=fun j aJ aD=>bK.2.2 j aJ (by omega)
   unfold gp
   grind
 refine ag (fun lz=>?_) (fun lz=>?_)
 · refine cf [] 2 (((((((((e.v.kind==0)&&(e.v.n==0))&&(e.v.s==([])))&&((e.v.l.length:Int)==0))&&((e.v.f.length:Int)==0))&&((e.a.length:Int)==1))&&((e.n.length:Int)==0))&&(cu e.s))&&(e.t==([]))) ?_ ?_
   · repeat' first
      |exact ⟨⟨_,rfl,by grind [bD.val]⟩,rfl⟩
      |refine ag (fun _=>?_) (fun _=>?_)
      |refine bN ?_
   refine bn rfl fun _=>?_
   show K (.bool (((((((((e.v.kind==0)&&(e.v.n==0))&&(e.v.s==([])))&&((e.v.l.length:Int)==0))&&((e.v.f.length:Int)==0))&&((e.a.length:Int)==1))&&((e.n.length:Int)==0))&&(cu e.s))&&(e.t==([])))) m
   refine cL U (congrArg ab.bool (ox mW ?_))
   have ak:=@ow e.v
   have hC:=@List.length_eq_zero_iff _ e.a
   have hd:=@List.length_eq_zero_iff _ e.n
   have lX:=@List.length_eq_zero_iff _ e.v.l
   have nG:=@List.length_eq_zero_iff _ e.v.f
   unfold gp
   grind
 refine bn rfl fun _=>?_
 show K (.bool false) m
 refine cL U (congrArg ab.bool (ox mW ?_))
 have ak:=@ow e.v
 have hC:=@List.length_eq_zero_iff _ e.a
 have hd:=@List.length_eq_zero_iff _ e.n
 have lX:=@List.length_eq_zero_iff _ e.v.l
 have nG:=@List.length_eq_zero_iff _ e.v.f
 unfold gp
 grind
theorem KZ:∀(k:Nat) (e:au),cZ e<k→dY e≤1000000000→∀(m:ae) (K:ab→ae→Prop),K (.bool (ue e)) m→bh Tryz.prog 56 [bU e] m K
 |0,_,h=>absurd h (Nat.not_lt_zero _)
 |k+1,e,h=>fun ak m K U=>Ut k e (fun x an aK=>KZ k x an aK) h ak m K U
theorem Uu (e:au):cZ e≤dY e:=KW _ e (Nat.lt_succ_self _)
theorem K0 {e:au} (h:¬(hj e+1≤7∧fS e≤60)):ew e=2:=by unfold ew;rw [if_pos (by omega)]
theorem Bm {e:au} (h:hj e+1≤7∧fS e≤60):ew e=jD e:=by unfold ew;rw [if_neg (by omega)]
set_option maxHeartbeats 1000000 in
theorem yG (e:au) (m:ae) (K:ab→ae→Prop) (U:K (.err 115 (ew e)) m):bh Tryz.prog 14 [bU e] m K:=by
 refine enter (c:=cT [] [] [] [] [] []) (vs:=[.aI (bU e)]) (L:=[]) (m:=m) true b2 Tryz.mixed Tryz.func14 rfl (k:=1) (by show cO [] _ _ _=true;decide+kernel) rfl (Good.nil m) ?_
 refine aB ?_
 refine bx 115 [1] (σ:=(Int) ⊕ (Int)) (Sum.elim (fun ib=>ib=60- fS e∧hj e+1≤7∧fS e≤60) (fun ib=>¬(hj e+1≤7∧fS e≤60)∧-1≤ib∧ib≤60)) (Sum.elim (fun ib=> .b (.lit true)) (fun ib=> .b (.lit false))) (Sum.elim (fun ib=>[.cells [ax ib]]) (fun ib=>[.cells [ax ib]])) rfl (fun x=>by rcases x with _|_<;>rfl) (fun bs ai gd aq K U=>KR (cZ e+1) e (Nat.lt_succ_self _) 1 60 (by omega) (by omega) (by omega) (by omega) (bs.getD 1 0) ai gd K (fun f aC=>U (.inl f) aC) (fun f aC=>U (.inr f) aC)) ?_
 rintro (ib|ib) bp
 · try dsimp only [Sum.elim_inl,Sum.elim_inr] at bp
   dsimp only [Sum.elim_inl,Sum.elim_inr]
   refine cG (fun _=>KY (cZ e+1) e (Nat.lt_succ_self _)) rfl ?_
   refine bn rfl fun _=>?_
   show K (.err 115 (jD e)) m
   rw [Bm ⟨bp.2.1,bp.2.2⟩] at U;exact U
 try dsimp only [Sum.elim_inl,Sum.elim_inr] at bp
 dsimp only [Sum.elim_inl,Sum.elim_inr]
 refine bn rfl fun _=>?_
 show K (.err 115 2) m
 rw [K0 bp.1] at U;exact U
set_option maxHeartbeats 1000000 in
theorem Fg (e:au) (cF:dY e≤1000000000) (m:ae) (K:ab→ae→Prop) (U:K (.int .i64 (ew e)) m):bh Tryz.prog 11 [bU e] m K:=by
 have X9:=Uu e
 refine enter (c:=cT [] [] [2] [] [] []) (vs:=[.aI (bU e)]) (L:=[]) (m:=m) false b2 Tryz.mixed Tryz.func11 rfl (k:=1) (by show cO [] _ _ _=true;decide+kernel) rfl (Good.nil m) ?_
 refine cG (fun _=>Uk e (by omega)) rfl ?_
 refine aB ?_
 refine cf [1] 16 ((decide (60<fS e))||(decide (6<hj e))) ?_ ?_
 · repeat' first
    |exact ⟨⟨_,rfl,by grind [bD.val]⟩,rfl⟩
    |refine ag (fun _=>?_) (fun _=>?_)
 refine ag (fun J=>?_) (fun J=>?_)
 · replace J:(60<fS e)∨(6<hj e):=((dq J).imp (fun q=>(of_decide_eq_true q)) (fun q=>(of_decide_eq_true q)))
   refine bn rfl fun _=>?_
   show K (.int .i64 2) m
   rw [K0 (by omega)] at U;exact U
 replace J:(fS e≤60)∧(hj e≤6):=⟨(Int.not_lt.1 (of_decide_eq_false (cb J))),(Int.not_lt.1 (of_decide_eq_false (dp J)))⟩
 refine cG (fun _=>KZ (cZ e+1) e (Nat.lt_succ_self _) cF) rfl ?_
 refine aB ?_
 refine ag (fun aa=>?_) (fun aa=>?_)
 · refine bn rfl fun _=>?_
   show K (.int .i64 0) m
   rw [Bm (by omega),Fc (wB.1 aa)] at U;exact U
 refine bn rfl fun _=>?_
 show K (.int .i64 3) m
 rw [Bm (by omega),Bj (fun aC=>by rw [wB.2 aC] at aa;cases aa)] at U;exact U
end Go.Proofs
end
