import Derived.Test.YtnahenbiipdlkaaDoorPx2
section
namespace Go.Proofs
open Go Go.bb Go.b4
set_option maxRecDepth 100000
abbrev ic (e:ar):aT:= .agg [aK e.kind,aK e.v.kind,aK e.v.n,aR e.v.s,aX (e.v.l.map cC),aX (e.v.f.map cL),aR e.s,aR e.t,aX (e.a.map cz),aX (e.n.map cp)]
instance:Inhabited (bm ar):=⟨.bad 0 0⟩
section
variable (f:Int→bm ar) (l:List Tok) (n:Int)
def jz {α β:Type} [Inhabited β] (xs:List α) (a:Int) (g:Int→bm β):bm β:=if xs=[] then g a else (ck l n 4 [44] a).bind fun _ a=>g a
def j3:Nat→Int→List ar→bm ar
 |0,a,_=> .bad 5 (cJ l n a)
 |k+1,a,xs=>if bV l 4 [93] a=true then .ok (.mk 8 cS [] [] xs []) (a+1) else jz l n xs a fun a=>(f a).bind fun x a=>j3 k a (xs++[x])
def q3 (bQ:List al) (m:al):Prop:=0<(bQ.length:Int)∧Op.bytesLess (U bQ ((bQ.length:Int)- 1)) m=false
instance (bQ:List al) (m:al):Decidable (q3 bQ m):=by unfold q3;infer_instance
def jb:Nat→Int→List al→List ar→bm ar
 |0,a,_,_=> .bad 5 (cJ l n a)
 |k+1,a,bQ,xs=>if bV l 4 [125] a=true then .ok (.mk 9 cS [] [] xs bQ) (a+1) else jz l n xs a fun a=>(ck l n 1 [] a).bind fun m a=>
   if q3 bQ m then .bad 3 (cJ l n a) else (ck l n 4 [58] a).bind fun _ a=>(f a).bind fun x a=>jb k a (bQ++[m]) (xs++[x])
def nA (a:Int):bm ar:=(f a).bind fun x a=>
 if bV l 4 [43] a=true then (f (a+1)).bind fun y a=>(ck l n 4 [41] a).bind fun _ a=> .ok (.mk 5 cS [] [] [x,y] []) a
 else if bV l 4 [61,61] a=true then (f (a+1)).bind fun y a=>(ck l n 4 [41] a).bind fun _ a=> .ok (.mk 6 cS [] [] [x,y] []) a
 else if bV l 4 [63] a=true then (f (a+1)).bind fun y a=>(ck l n 4 [58] a).bind fun _ a=>(f a).bind fun z a=>(ck l n 4 [41] a).bind fun _ a=> .ok (.mk 7 cS [] [] [x,y,z] []) a
 else .bad 5 (cJ l n a)
def iH (a:Int):bm ar:=
 if bV l 1 [110,117,108,108] a=true then .ok (gn cS) (a+1)
 else if bV l 1 [116,114,117,101] a=true then .ok (gn (.mk 3 1 [] [] [])) (a+1)
 else if bV l 1 [102,97,108,115,101] a=true then .ok (gn (.mk 3 0 [] [] [])) (a+1)
 else if bV l 1 [105,110] a=true then (ck l n 4 [46] (a+1)).bind fun _ a=>(ck l n 1 [] a).bind fun s a=> .ok (.mk 2 cS s [] [] []) a
 else if bV l 1 [114,101,115] a=true then (o9 l n (a+1)).bind fun st a=> .ok (.mk 3 cS st.1 st.2 [] []) a
 else if bV l 1 [115,116,97,99,107] a=true then (o9 l n (a+1)).bind fun st a=> .ok (.mk 4 cS st.1 st.2 [] []) a
 else if bV l 1 [103,101,116] a=true then (f (a+1)).bind fun x a=>(ck l n 1 [] a).bind fun s a=> .ok (.mk 10 cS s [] [x] []) a
 else .bad 5 (cJ l n a)
end
def cn (l:List Tok) (n:Int):Nat→Int→bm ar
 |0,a=> .bad 2 (cJ l n a)
 |k+1,a=>
  if bV l 4 [40] a=true then nA (cn l n k) l n (a+1)
  else if bV l 4 [91] a=true then j3 (cn l n k) l n (l.length+1) (a+1) []
  else if bV l 4 [123] a=true then jb (cn l n k) l n (l.length+1) (a+1) [] []
  else if bV l 4 [45] a=true then l4 l n (-1) (a+1)
  else if bV l 2 [] a=true then l4 l n 1 a
  else if bV l 3 [] a=true then .ok (gn (.mk 2 0 (U l a).2.2 [] [])) (a+1)
  else iH (cn l n k) l n a
theorem c8 {l:List Tok} {k:Int} {s:al} {a:Int} (h:bV l k s a=false):¬bV l k s a=true:=by rw [h];decide
theorem bj.stuck {l:List Tok} {α:Type} {p:bm α} {x:α} {a e q:Int} (h:e≠0) (aA:0≤e) (aN:a≤l.length):bj l p x a e q a e q:=⟨fun z=>absurd z h,fun _=>⟨rfl,rfl,rfl⟩,Int.le_refl _,aN,aA,fun z=>absurd z h⟩
set_option maxHeartbeats 1000000 in
theorem FX (l:List Tok) (n a e q:Int) (d:Int) (r:Nat) (av:l.length≤5000) (aA:0≤a) (aN:a≤l.length) (he:0≤e) (au:e≠0) (m:ae) (gd:eG [r] m) (K:aa→ae→Prop) (ad:K (cE hj) (ae.a1 m [(r, .cells [.slice false (l.map bS), .int .i64 a, .int .i64 n, .err 72 e, .int .i64 q])])):bp Tryd.prog 92 [.ptr ⟨r,0,none⟩, .int .i64 d] (ae.a1 m [(r, .cells [.slice false (l.map bS), .int .i64 a, .int .i64 n, .err 72 e, .int .i64 q])]) K:=by
 refine enter (c:=dF [] [] [] [] [] [r]) (vs:=[.loc 0 0, .aI (.int .i64 d)]) (L:=[bg l n a e q]) (m:=m) false cw Tryd.mixed Tryd.func92 rfl (k:=2) (by show du [] _ _ _=true;decide+kernel) rfl (gd.ia rfl) ?_
 refine aU ?_
 refine cI [0] [bg l n a e q] (.b (.lit false)) rfl (fun bs aq gd=>fun K ad=>hz l n a e q 1 ([110,117,108,108]:List UInt8) (bs.getD 0 0) av (by omega) (by omega) (by omega) aq gd K (fun z=>absurd z (by omega)) fun _=>ad) ?_
 refine cI [0] [bg l n a e q] (.b (.lit false)) rfl (fun bs aq gd=>fun K ad=>hz l n a e q 1 ([116,114,117,101]:List UInt8) (bs.getD 0 0) av (by omega) (by omega) (by omega) aq gd K (fun z=>absurd z (by omega)) fun _=>ad) ?_
 refine cI [0] [bg l n a e q] (.b (.lit false)) rfl (fun bs aq gd=>fun K ad=>hz l n a e q 1 ([102,97,108,115,101]:List UInt8) (bs.getD 0 0) av (by omega) (by omega) (by omega) aq gd K (fun z=>absurd z (by omega)) fun _=>ad) ?_
 refine cI [0] [bg l n a e q] (.b (.lit false)) rfl (fun bs aq gd=>fun K ad=>hz l n a e q 1 ([105,110]:List UInt8) (bs.getD 0 0) av (by omega) (by omega) (by omega) aq gd K (fun z=>absurd z (by omega)) fun _=>ad) ?_
 refine cI [0] [bg l n a e q] (.b (.lit false)) rfl (fun bs aq gd=>fun K ad=>hz l n a e q 1 ([114,101,115]:List UInt8) (bs.getD 0 0) av (by omega) (by omega) (by omega) aq gd K (fun z=>absurd z (by omega)) fun _=>ad) ?_
 refine cI [0] [bg l n a e q] (.b (.lit false)) rfl (fun bs aq gd=>fun K ad=>hz l n a e q 1 ([115,116,97,99,107]:List UInt8) (bs.getD 0 0) av (by omega) (by omega) (by omega) aq gd K (fun z=>absurd z (by omega)) fun _=>ad) ?_
 refine cI [0] [bg l n a e q] (.b (.lit false)) rfl (fun bs aq gd=>fun K ad=>hz l n a e q 1 ([103,101,116]:List UInt8) (bs.getD 0 0) av (by omega) (by omega) (by omega) aq gd K (fun z=>absurd z (by omega)) fun _=>ad) ?_
 refine cc 72 [0] (σ:=Int×Int) (fun ⟨bt,bP⟩=>(e=0→bt=5∧bP=cJ l n a)∧(e≠0→bt=e∧bP=q)∧0<bt) (fun ⟨bt,bP⟩=> .cM []) (fun ⟨bt,bP⟩=>[bg l n a bt bP]) rfl (fun _=>rfl) (fun bs aq gd an K ad=>oe l n a e q 5 (bs.getD 0 0) (by decide) av (by omega) (by omega) (by omega) aq gd K (fun z=>ad (5,cJ l n a) ⟨fun _=>⟨rfl,rfl⟩,fun y=>absurd z y,by decide⟩) (fun z=>ad (e,q) ⟨fun y=>absurd y z,fun _=>⟨rfl,rfl⟩,by omega⟩)) ?_
 rintro ⟨bt,bP⟩ bA
 dsimp only at bA
 obtain ⟨sC,p4,u0⟩:=bA
 refine rt rfl fun _=>?_
 show K (.agg [.int .i64 0, .int .i64 0, .int .i64 0, .str ([]), .slice false [], .slice false [], .str ([]), .str ([]), .slice false [], .slice false []]) (ae.a1 m [(r, .cells [.slice false (l.map bS), .int .i64 a, .int .i64 n, .err 72 bt, .int .i64 bP])])
 obtain ⟨rfl,rfl⟩:=p4 au
 exact ad
set_option maxHeartbeats 2000000 in
theorem OJ (l:List Tok) (n a e q:Int) (k:Nat) (d:Int) (r:Nat) (aO:∀a e q d:Int,d=7- (k:Int)→0≤a→a≤l.length→0≤e→∀(r:Nat) (m:ae),eG [r] m→ch m→∀(K:aa→ae→Prop),(∀bD b9 bY ct,bj l (cn l n k a) bD a e q b9 bY ct→K (cE bD) (ae.a1 m [(r, .cells [.slice false (l.map bS), .int .i64 b9, .int .i64 n, .err 72 bY, .int .i64 ct])]))→bp Tryd.prog 71 [.ptr ⟨r,0,none⟩, .int .i64 d] (ae.a1 m [(r, .cells [.slice false (l.map bS), .int .i64 a, .int .i64 n, .err 72 e, .int .i64 q])]) K) (av:l.length≤5000) (aA:0≤a) (aN:a≤l.length) (he:0≤e) (au:e=0) (ai:k≤7) (a7:d+1=7- (k:Int)) (m:ae) (gd:eG [r] m) (K:aa→ae→Prop) (aC:ch m) (ad:∀bD b9 bY ct,bj l (iH (cn l n k) l n a) bD a e q b9 bY ct→K (cE bD) (ae.a1 m [(r, .cells [.slice false (l.map bS), .int .i64 b9, .int .i64 n, .err 72 bY, .int .i64 ct])])):bp Tryd.prog 92 [.ptr ⟨r,0,none⟩, .int .i64 d] (ae.a1 m [(r, .cells [.slice false (l.map bS), .int .i64 a, .int .i64 n, .err 72 e, .int .i64 q])]) K:=by
 refine enter (c:=dF [] [] [] [18999] [18] [r]) (vs:=[.loc 0 0, .aI (.int .i64 d)]) (L:=[bg l n a e q]) (m:=m) false cw Tryd.mixed Tryd.func92 rfl (k:=2) (by show du [18999] _ _ _=true;decide+kernel) rfl (gd.ia rfl) ?_
 refine aU ?_
 refine cc 72 [0] (σ:=(Unit) ⊕ (Unit)) (Sum.elim (fun _=>e=0∧bV l 1 ([110,117,108,108]:List UInt8) a=true) (fun _=>e=0→bV l 1 ([110,117,108,108]:List UInt8) a=false)) (Sum.elim (fun _=> .b (.lit true)) (fun _=> .b (.lit false))) (Sum.elim (fun _=>[bg l n (a+1) e q]) (fun _=>[bg l n a e q])) rfl (fun x=>by rcases x with _|_<;>rfl) (fun bs aq gd an K ad=>hz l n a e q 1 ([110,117,108,108]:List UInt8) (bs.getD 0 0) av (by omega) (by omega) (by omega) aq gd K (fun z w=>ad (.inl ()) ⟨z,w⟩) (fun z=>ad (.inr ()) z)) ?_
 rintro (_|_) bA
 · try dsimp only [Sum.elim_inl,Sum.elim_inr] at bA
   dsimp only [Sum.elim_inl,Sum.elim_inr]
   have uX:=hi bA.2
   refine rt rfl fun _=>?_
   show K (.agg [.int .i64 1, .int .i64 0, .int .i64 0, .str ([]), .slice false [], .slice false [], .str ([]), .str ([]), .slice false [], .slice false []]) (ae.a1 m [(r, .cells [.slice false (l.map bS), .int .i64 (a+1), .int .i64 n, .err 72 e, .int .i64 q])])
   refine ad (gn cS) _ _ _ ?_
   rw [iH,if_pos bA.2]
   exact bj.one uX au
 try dsimp only [Sum.elim_inl,Sum.elim_inr] at bA
 dsimp only [Sum.elim_inl,Sum.elim_inr]
 refine cc 72 [0] (σ:=(Unit) ⊕ (Unit)) (Sum.elim (fun _=>e=0∧bV l 1 ([116,114,117,101]:List UInt8) a=true) (fun _=>e=0→bV l 1 ([116,114,117,101]:List UInt8) a=false)) (Sum.elim (fun _=> .b (.lit true)) (fun _=> .b (.lit false))) (Sum.elim (fun _=>[bg l n (a+1) e q]) (fun _=>[bg l n a e q])) rfl (fun x=>by rcases x with _|_<;>rfl) (fun bs aq gd an K ad=>hz l n a e q 1 ([116,114,117,101]:List UInt8) (bs.getD 0 0) av (by omega) (by omega) (by omega) aq gd K (fun z w=>ad (.inl ()) ⟨z,w⟩) (fun z=>ad (.inr ()) z)) ?_
 rintro (_|_) cH
 · try dsimp only [Sum.elim_inl,Sum.elim_inr] at cH
   dsimp only [Sum.elim_inl,Sum.elim_inr]
   have FY:=hi cH.2
   refine rt rfl fun _=>?_
   show K (.agg [.int .i64 1, .int .i64 3, .int .i64 1, .str ([]), .slice false [], .slice false [], .str ([]), .str ([]), .slice false [], .slice false []]) (ae.a1 m [(r, .cells [.slice false (l.map bS), .int .i64 (a+1), .int .i64 n, .err 72 e, .int .i64 q])])
   refine ad (gn (.mk 3 1 [] [] [])) _ _ _ ?_
   rw [iH,if_neg (c8 (bA au)),if_pos cH.2]
   exact bj.one FY au
 try dsimp only [Sum.elim_inl,Sum.elim_inr] at cH
 dsimp only [Sum.elim_inl,Sum.elim_inr]
 refine cc 72 [0] (σ:=(Unit) ⊕ (Unit)) (Sum.elim (fun _=>e=0∧bV l 1 ([102,97,108,115,101]:List UInt8) a=true) (fun _=>e=0→bV l 1 ([102,97,108,115,101]:List UInt8) a=false)) (Sum.elim (fun _=> .b (.lit true)) (fun _=> .b (.lit false))) (Sum.elim (fun _=>[bg l n (a+1) e q]) (fun _=>[bg l n a e q])) rfl (fun x=>by rcases x with _|_<;>rfl) (fun bs aq gd an K ad=>hz l n a e q 1 ([102,97,108,115,101]:List UInt8) (bs.getD 0 0) av (by omega) (by omega) (by omega) aq gd K (fun z w=>ad (.inl ()) ⟨z,w⟩) (fun z=>ad (.inr ()) z)) ?_
 rintro (_|_) dA
 · try dsimp only [Sum.elim_inl,Sum.elim_inr] at dA
   dsimp only [Sum.elim_inl,Sum.elim_inr]
   have FZ:=hi dA.2
   refine rt rfl fun _=>?_
   show K (.agg [.int .i64 1, .int .i64 3, .int .i64 0, .str ([]), .slice false [], .slice false [], .str ([]), .str ([]), .slice false [], .slice false []]) (ae.a1 m [(r, .cells [.slice false (l.map bS), .int .i64 (a+1), .int .i64 n, .err 72 e, .int .i64 q])])
   refine ad (gn (.mk 3 0 [] [] [])) _ _ _ ?_
   rw [iH,if_neg (c8 (bA au)),if_neg (c8 (cH au)),if_pos dA.2]
   exact bj.one FZ au
 try dsimp only [Sum.elim_inl,Sum.elim_inr] at dA
 dsimp only [Sum.elim_inl,Sum.elim_inr]
 refine cc 72 [0] (σ:=(Unit) ⊕ (Unit)) (Sum.elim (fun _=>e=0∧bV l 1 ([105,110]:List UInt8) a=true) (fun _=>e=0→bV l 1 ([105,110]:List UInt8) a=false)) (Sum.elim (fun _=> .b (.lit true)) (fun _=> .b (.lit false))) (Sum.elim (fun _=>[bg l n (a+1) e q]) (fun _=>[bg l n a e q])) rfl (fun x=>by rcases x with _|_<;>rfl) (fun bs aq gd an K ad=>hz l n a e q 1 ([105,110]:List UInt8) (bs.getD 0 0) av (by omega) (by omega) (by omega) aq gd K (fun z w=>ad (.inl ()) ⟨z,w⟩) (fun z=>ad (.inr ()) z)) ?_
 rintro (_|_) dR
 · try dsimp only [Sum.elim_inl,Sum.elim_inr] at dR
   dsimp only [Sum.elim_inl,Sum.elim_inr]
   have xh:=hi dR.2
   refine cc 72 [0] (σ:=al×Int×Int×Int) (fun ⟨iI,gf,ev,eQ⟩=>(bj l (ck l n 4 ([46]:List UInt8) (a+1)) iI (a+1) e q gf ev eQ)∧(ev≠0→iI=[])) (fun ⟨iI,gf,ev,eQ⟩=>aR iI) (fun ⟨iI,gf,ev,eQ⟩=>[bg l n gf ev eQ]) rfl (fun _=>rfl) (fun bs aq gd an K ad=>iF l n (a+1) e q 4 ([46]:List UInt8) (bs.getD 0 0) av (by omega) (by omega) (by omega) aq gd K (fun cP bO bF bG aL au=>ad (cP,bO,bF,bG) ⟨aL,au⟩)) ?_
   rintro ⟨iI,gf,ev,eQ⟩ eC
   dsimp only at eC
   obtain ⟨eC,F0⟩:=eC
   have F1:=eC.bh
   have F2:=eC.ab
   have AY:=eC.bW
   refine cc 72 [0] (σ:=al×Int×Int×Int) (fun ⟨gp,dW,dY,eD⟩=>bj l (ck l n 1 [] gf) gp gf ev eQ dW dY eD) (fun ⟨gp,dW,dY,eD⟩=>aR gp) (fun ⟨gp,dW,dY,eD⟩=>[bg l n dW dY eD]) rfl (fun _=>rfl) (fun bs aq gd an K ad=>nx l n gf ev eQ (bs.getD 0 0) av (by omega) (by omega) (by omega) aq gd K (fun cP bO bF bG aL=>ad (cP,bO,bF,bG) aL)) ?_
   rintro ⟨gp,dW,dY,eD⟩ e1
   dsimp only at e1
   have u1:=e1.bh
   have u2:=e1.ab
   have u3:=e1.bW
   refine rt rfl fun _=>?_
   show K (.agg [.int .i64 2, .int .i64 0, .int .i64 0, .str ([]), .slice false [], .slice false [], .str gp, .str ([]), .slice false [], .slice false []]) (ae.a1 m [(r, .cells [.slice false (l.map bS), .int .i64 dW, .int .i64 n, .err 72 dY, .int .i64 eD])])
   refine ad (.mk 2 cS gp [] [] []) _ _ _ ?_
   rw [iH,if_neg (c8 (bA au)),if_neg (c8 (cH au)),if_neg (c8 (dA au)),if_pos dR.2]
   exact bj.from au (by omega) (eC.bind (e1.map fun s=>ar.mk 2 cS s [] [] []))
 try dsimp only [Sum.elim_inl,Sum.elim_inr] at dR
 dsimp only [Sum.elim_inl,Sum.elim_inr]
 refine cc 72 [0] (σ:=(Unit) ⊕ (Unit)) (Sum.elim (fun _=>e=0∧bV l 1 ([114,101,115]:List UInt8) a=true) (fun _=>e=0→bV l 1 ([114,101,115]:List UInt8) a=false)) (Sum.elim (fun _=> .b (.lit true)) (fun _=> .b (.lit false))) (Sum.elim (fun _=>[bg l n (a+1) e q]) (fun _=>[bg l n a e q])) rfl (fun x=>by rcases x with _|_<;>rfl) (fun bs aq gd an K ad=>hz l n a e q 1 ([114,101,115]:List UInt8) (bs.getD 0 0) av (by omega) (by omega) (by omega) aq gd K (fun z w=>ad (.inl ()) ⟨z,w⟩) (fun z=>ad (.inr ()) z)) ?_
 rintro (_|_) gH
 · try dsimp only [Sum.elim_inl,Sum.elim_inr] at gH
   dsimp only [Sum.elim_inl,Sum.elim_inr]
   have SP:=hi gH.2
   refine cc 72 [0] (σ:=al×al×Int×Int×Int) (fun ⟨lp,q4,hK,h0,ie⟩=>bj l (o9 l n (a+1)) (lp,q4) (a+1) e q hK h0 ie) (fun ⟨lp,q4,hK,h0,ie⟩=> .aI (.tuple [.str lp, .str q4])) (fun ⟨lp,q4,hK,h0,ie⟩=>[bg l n hK h0 ie]) rfl (fun _=>rfl) (fun bs aq gd an K ad=>FT l n (a+1) e q (bs.getD 0 0) av (by omega) (by omega) (by omega) aq gd K (fun cP AZ bO bF bG aL=>ad (cP,AZ,bO,bF,bG) aL)) ?_
   rintro ⟨lp,q4,hK,h0,ie⟩ fe
   dsimp only at fe
   have F3:=fe.bh
   have F4:=fe.ab
   have F5:=fe.bW
   refine rt rfl fun _=>?_
   show K (.agg [.int .i64 3, .int .i64 0, .int .i64 0, .str ([]), .slice false [], .slice false [], .str lp, .str q4, .slice false [], .slice false []]) (ae.a1 m [(r, .cells [.slice false (l.map bS), .int .i64 hK, .int .i64 n, .err 72 h0, .int .i64 ie])])
   refine ad (.mk 3 cS lp q4 [] []) _ _ _ ?_
   rw [iH,if_neg (c8 (bA au)),if_neg (c8 (cH au)),if_neg (c8 (dA au)),if_neg (c8 (dR au)),if_pos gH.2]
   exact bj.from au (by omega) (fe.map fun st=>ar.mk 3 cS st.1 st.2 [] [])
 try dsimp only [Sum.elim_inl,Sum.elim_inr] at gH
 dsimp only [Sum.elim_inl,Sum.elim_inr]
 refine cc 72 [0] (σ:=(Unit) ⊕ (Unit)) (Sum.elim (fun _=>e=0∧bV l 1 ([115,116,97,99,107]:List UInt8) a=true) (fun _=>e=0→bV l 1 ([115,116,97,99,107]:List UInt8) a=false)) (Sum.elim (fun _=> .b (.lit true)) (fun _=> .b (.lit false))) (Sum.elim (fun _=>[bg l n (a+1) e q]) (fun _=>[bg l n a e q])) rfl (fun x=>by rcases x with _|_<;>rfl) (fun bs aq gd an K ad=>hz l n a e q 1 ([115,116,97,99,107]:List UInt8) (bs.getD 0 0) av (by omega) (by omega) (by omega) aq gd K (fun z w=>ad (.inl ()) ⟨z,w⟩) (fun z=>ad (.inr ()) z)) ?_
 rintro (_|_) gz
 · try dsimp only [Sum.elim_inl,Sum.elim_inr] at gz
   dsimp only [Sum.elim_inl,Sum.elim_inr]
   have SQ:=hi gz.2
   refine cc 72 [0] (σ:=al×al×Int×Int×Int) (fun ⟨gA,q5,fo,fI,gg⟩=>bj l (o9 l n (a+1)) (gA,q5) (a+1) e q fo fI gg) (fun ⟨gA,q5,fo,fI,gg⟩=> .aI (.tuple [.str gA, .str q5])) (fun ⟨gA,q5,fo,fI,gg⟩=>[bg l n fo fI gg]) rfl (fun _=>rfl) (fun bs aq gd an K ad=>FT l n (a+1) e q (bs.getD 0 0) av (by omega) (by omega) (by omega) aq gd K (fun cP AZ bO bF bG aL=>ad (cP,AZ,bO,bF,bG) aL)) ?_
   rintro ⟨gA,q5,fo,fI,gg⟩ fp
   dsimp only at fp
   have A0:=fp.bh
   have A1:=fp.ab
   have A2:=fp.bW
   refine rt rfl fun _=>?_
   show K (.agg [.int .i64 4, .int .i64 0, .int .i64 0, .str ([]), .slice false [], .slice false [], .str gA, .str q5, .slice false [], .slice false []]) (ae.a1 m [(r, .cells [.slice false (l.map bS), .int .i64 fo, .int .i64 n, .err 72 fI, .int .i64 gg])])
   refine ad (.mk 4 cS gA q5 [] []) _ _ _ ?_
   rw [iH,if_neg (c8 (bA au)),if_neg (c8 (cH au)),if_neg (c8 (dA au)),if_neg (c8 (dR au)),if_neg (c8 (gH au)),if_pos gz.2]
   exact bj.from au (by omega) (fp.map fun st=>ar.mk 4 cS st.1 st.2 [] [])
 try dsimp only [Sum.elim_inl,Sum.elim_inr] at gz
 dsimp only [Sum.elim_inl,Sum.elim_inr]
 refine cc 72 [0] (σ:=(Unit) ⊕ (Unit)) (Sum.elim (fun _=>e=0∧bV l 1 ([103,101,116]:List UInt8) a=true) (fun _=>e=0→bV l 1 ([103,101,116]:List UInt8) a=false)) (Sum.elim (fun _=> .b (.lit true)) (fun _=> .b (.lit false))) (Sum.elim (fun _=>[bg l n (a+1) e q]) (fun _=>[bg l n a e q])) rfl (fun x=>by rcases x with _|_<;>rfl) (fun bs aq gd an K ad=>hz l n a e q 1 ([103,101,116]:List UInt8) (bs.getD 0 0) av (by omega) (by omega) (by omega) aq gd K (fun z w=>ad (.inl ()) ⟨z,w⟩) (fun z=>ad (.inr ()) z)) ?_
 rintro (_|_) gh
 · try dsimp only [Sum.elim_inl,Sum.elim_inr] at gh
   dsimp only [Sum.elim_inl,Sum.elim_inr]
   have SR:=hi gh.2
   refine ax (by omega) ?_
   refine cc 72 [0] (σ:=ar×Int×Int×Int) (fun ⟨da,ff,fg,fw⟩=>bj l (cn l n k (a+1)) da (a+1) e q ff fg fw) (fun ⟨da,ff,fg,fw⟩=>ic da) (fun ⟨da,ff,fg,fw⟩=>[bg l n ff fg fw]) rfl (fun _=>rfl) (fun bs aq gd an K ad=>aO (a+1) e q (d+1) (by omega) (by omega) (by omega) (by omega) (bs.getD 0 0) aq gd (ch.up an aC) K (fun eJ bO bF bG aL=>ad (eJ,bO,bF,bG) aL)) ?_
   rintro ⟨da,ff,fg,fw⟩ fT
   dsimp only at fT
   have xi:=fT.bh
   have xj:=fT.ab
   have xk:=fT.bW
   refine kR cw Tryd.mixed (σ:=Int×Int×Int×al) (.f 0 (.o 1 (.s 2 (.s 3 (.s 4 (.s 5 .d)))) (.o 2 (.o 1 (.s 3 (.s 4 (.s 5 .d))) (.o 3 (.s 1 (.s 4 (.s 5 .d))) .z)) .z))) [] [4] 3 (fun ⟨a9,cZ,c1,sD⟩=>([(4, .loc 1 0)],[bg l n a9 cZ c1, .cells [aK 10,aK 0,aK 0,aR ([]), .own [], .own [],aR sD,aR ([]),aX [.agg [.int .i64 da.kind, .int .i64 da.v.kind, .int .i64 da.v.n, .str da.v.s, .slice false (da.v.l.map cC), .slice false (da.v.f.map cL), .str da.s, .str da.t, .slice false (da.a.map cz), .slice false (da.n.map cp)]], .own []], .cells [aK da.kind,aK da.v.kind,aK da.v.n,aR da.v.s,aX (da.v.l.map cC),aX (da.v.f.map cL),aR da.s,aR da.t,aX (da.a.map cz),aX (da.n.map cp)]],m)) (fun ⟨a9,cZ,c1,sD⟩=>bj l (ck l n 1 [] ff) sD ff fg fw a9 cZ c1) (by decide+kernel) ?_ ?_
   · rintro ⟨a9,cZ,c1,sD⟩ F6
     try dsimp only at F6
     refine rt rfl fun _=>?_
     show K (.agg [.int .i64 10, .int .i64 0, .int .i64 0, .str ([]), .slice false [], .slice false [], .str sD, .str ([]), .slice false [.agg [.int .i64 da.kind, .int .i64 da.v.kind, .int .i64 da.v.n, .str da.v.s, .slice false (da.v.l.map cC), .slice false (da.v.f.map cL), .str da.s, .str da.t, .slice false (da.a.map cz), .slice false (da.n.map cp)]], .slice false []]) (ae.a1 m [(r, .cells [.slice false (l.map bS), .int .i64 a9, .int .i64 n, .err 72 cZ, .int .i64 c1])])
     refine ga (ad (.mk 10 cS sD [] [da] []) _ _ _ ?_) ?_
     · rw [iH,if_neg (c8 (bA au)),if_neg (c8 (cH au)),if_neg (c8 (dA au)),if_neg (c8 (dR au)),if_neg (c8 (gH au)),if_neg (c8 (gz au)),if_pos gh.2]
       exact bj.from au (by omega) (fT.bind (F6.map fun s=>ar.mk 10 cS s [] [da] []))
     · simp only [cE,ar.a,List.map_cons,List.map_nil,er];rfl
   repeat' first
    |refine ⟨(l5,hA,h1,lq),⟨rfl,rfl⟩,kA⟩
    |(refine cc 72 [0] (σ:=al×Int×Int×Int) (fun ⟨lq,l5,hA,h1⟩=>bj l (ck l n 1 [] ff) lq ff fg fw l5 hA h1) (fun ⟨lq,l5,hA,h1⟩=>aR lq) (fun ⟨lq,l5,hA,h1⟩=>[bg l n l5 hA h1]) rfl (fun _=>rfl) (fun bs aq gd an K ad=>nx l n ff fg fw (bs.getD 0 0) av (by omega) (by omega) (by omega) aq gd K (fun cP bO bF bG aL=>ad (cP,bO,bF,bG) aL)) ?_;rintro ⟨lq,l5,hA,h1⟩ kA;dsimp only at kA;have OK:=kA.bh;have OL:=kA.ab;have OM:=kA.bW)
    |refine ⟨?_,?_,trivial⟩
 try dsimp only [Sum.elim_inl,Sum.elim_inr] at gh
 dsimp only [Sum.elim_inl,Sum.elim_inr]
 refine cc 72 [0] (σ:=Int×Int) (fun ⟨ig,iJ⟩=>(e=0→ig=5∧iJ=cJ l n a)∧(e≠0→ig=e∧iJ=q)∧0<ig) (fun ⟨ig,iJ⟩=> .cM []) (fun ⟨ig,iJ⟩=>[bg l n a ig iJ]) rfl (fun _=>rfl) (fun bs aq gd an K ad=>oe l n a e q 5 (bs.getD 0 0) (by decide) av (by omega) (by omega) (by omega) aq gd K (fun z=>ad (5,cJ l n a) ⟨fun _=>⟨rfl,rfl⟩,fun y=>absurd z y,by decide⟩) (fun z=>ad (e,q) ⟨fun y=>absurd y z,fun _=>⟨rfl,rfl⟩,by omega⟩)) ?_
 rintro ⟨ig,iJ⟩ lr
 dsimp only at lr
 obtain ⟨ON,OO,OP⟩:=lr
 refine rt rfl fun _=>?_
 show K (.agg [.int .i64 0, .int .i64 0, .int .i64 0, .str ([]), .slice false [], .slice false [], .str ([]), .str ([]), .slice false [], .slice false []]) (ae.a1 m [(r, .cells [.slice false (l.map bS), .int .i64 a, .int .i64 n, .err 72 ig, .int .i64 iJ])])
 refine ad hj _ _ _ ?_
 rw [iH,if_neg (c8 (bA au)),if_neg (c8 (cH au)),if_neg (c8 (dA au)),if_neg (c8 (dR au)),if_neg (c8 (gH au)),if_neg (c8 (gz au)),if_neg (c8 (gh au))]
 exact bj.bad _ aN ON OO OP
end Go.Proofs
end
section
namespace Go.Proofs
open Go Go.bb Go.b4
set_option maxRecDepth 100000
set_option maxHeartbeats 2000000 in
theorem OQ (l:List Tok) (n a e q:Int) (k:Nat) (d:Int) (r:Nat) (aO:∀a e q d:Int,d=7- (k:Int)→0≤a→a≤l.length→0≤e→∀(r:Nat) (m:ae),eG [r] m→ch m→∀(K:aa→ae→Prop),(∀bD b9 bY ct,bj l (cn l n k a) bD a e q b9 bY ct→K (cE bD) (ae.a1 m [(r, .cells [.slice false (l.map bS), .int .i64 b9, .int .i64 n, .err 72 bY, .int .i64 ct])]))→bp Tryd.prog 71 [.ptr ⟨r,0,none⟩, .int .i64 d] (ae.a1 m [(r, .cells [.slice false (l.map bS), .int .i64 a, .int .i64 n, .err 72 e, .int .i64 q])]) K) (av:l.length≤5000) (aA:0≤a) (aN:a≤l.length) (he:0≤e) (ai:k≤7) (a7:d+1=7- (k:Int)) (m:ae) (gd:eG [r] m) (K:aa→ae→Prop) (aC:ch m) (ad:∀bD b9 bY ct,bj l (nA (cn l n k) l n a) bD a e q b9 bY ct→K (cE bD) (ae.a1 m [(r, .cells [.slice false (l.map bS), .int .i64 b9, .int .i64 n, .err 72 bY, .int .i64 ct])])):bp Tryd.prog 89 [.ptr ⟨r,0,none⟩, .int .i64 d] (ae.a1 m [(r, .cells [.slice false (l.map bS), .int .i64 a, .int .i64 n, .err 72 e, .int .i64 q])]) K:=by
 refine enter (c:=dF [1000013] [] [] [9999,11999] [9,11] [r]) (vs:=[.loc 0 0, .aI (.int .i64 d)]) (L:=[bg l n a e q]) (m:=m) false cw Tryd.mixed Tryd.func89 rfl (k:=2) (by show du [9999,11999] _ _ _=true;decide+kernel) rfl (gd.ia rfl) ?_
 refine ax (by omega) ?_
 refine cc 72 [0] (σ:=ar×Int×Int×Int) (fun ⟨bI,b1,bt,bP⟩=>bj l (cn l n k a) bI a e q b1 bt bP) (fun ⟨bI,b1,bt,bP⟩=>ic bI) (fun ⟨bI,b1,bt,bP⟩=>[bg l n b1 bt bP]) rfl (fun _=>rfl) (fun bs aq gd an K ad=>aO a e q (d+1) (by omega) (by omega) (by omega) (by omega) (bs.getD 0 0) aq gd (ch.up an aC) K (fun eJ bO bF bG aL=>ad (eJ,bO,bF,bG) aL)) ?_
 rintro ⟨bI,b1,bt,bP⟩ bA
 dsimp only at bA
 have sA:=bA.bh
 have n7:=bA.ab
 have sB:=bA.bW
 refine MR (s:=12) [aK 5,aK 0,aK 0,aR ([]), .own [], .own [],aR ([]),aR ([])] [.own []] [.agg [.int .i64 bI.kind, .int .i64 bI.v.kind, .int .i64 bI.v.n, .str bI.v.s, .slice false (bI.v.l.map cC), .slice false (bI.v.f.map cL), .str bI.s, .str bI.t, .slice false (bI.a.map cz), .slice false (bI.n.map cp)]] rfl rfl rfl (by simp only [List.forall_mem_cons];exact ⟨rfl,rfl,rfl,rfl,rfl,rfl,fun _ h=>by cases h⟩) (fun bs X qC=>(by simp only [List.forall_mem_cons];exact ⟨rfl,qC,fun _ h=>by cases h⟩)) (fun _ _ _ _=>rfl) (fun _=>rfl) rfl rfl ?_
 refine aU ?_
 refine cc 72 [0] (σ:=(Unit) ⊕ (Unit)) (Sum.elim (fun _=>bt=0∧bV l 4 ([43]:List UInt8) b1=true) (fun _=>bt=0→bV l 4 ([43]:List UInt8) b1=false)) (Sum.elim (fun _=> .b (.lit true)) (fun _=> .b (.lit false))) (Sum.elim (fun _=>[bg l n (b1+1) bt bP]) (fun _=>[bg l n b1 bt bP])) rfl (fun x=>by rcases x with _|_<;>rfl) (fun bs aq gd an K ad=>hz l n b1 bt bP 4 ([43]:List UInt8) (bs.getD 0 0) av (by omega) (by omega) (by omega) aq gd K (fun z w=>ad (.inl ()) ⟨z,w⟩) (fun z=>ad (.inr ()) z)) ?_
 rintro (_|_) cH
 · try dsimp only [Sum.elim_inl,Sum.elim_inr] at cH
   dsimp only [Sum.elim_inl,Sum.elim_inr]
   have FY:=hi cH.2
   refine kR cw Tryd.mixed (σ:=Int×Int×Int×ar) (.f 0 (.f 2 (.f 3 (.o 1 (.s 4 (.s 5 (.s 6 (.s 7 (.f 8 (.s 9 .d)))))) (.o 4 (.o 1 (.s 5 (.s 6 (.s 7 (.f 8 (.s 9 .d))))) (.o 5 (.o 1 (.s 6 (.s 7 (.f 8 (.s 9 .d)))) (.o 6 (.s 1 (.s 7 (.f 8 (.s 9 .d)))) .z)) .z)) .z))))) [] [0,4,6] 4 (fun ⟨a9,cZ,c1,dj⟩=>([(0, .loc 0 0),(4, .loc 1 0),(6, .loc 3 0)],[bg l n a9 cZ c1, .cells [aK 0,aK 0,aK 0,aR ([]), .own [], .own [],aR ([]),aR ([]), .own [], .own []], .cells [aK bI.kind,aK bI.v.kind,aK bI.v.n,aR bI.v.s,aX (bI.v.l.map cC),aX (bI.v.f.map cL),aR bI.s,aR bI.t,aX (bI.a.map cz),aX (bI.n.map cp)], .cells [aK 5,aK 0,aK 0,aR ([]), .own [], .own [],aR ([]),aR ([]), .own ((([bI]:List ar)++([dj]:List ar)).map cz), .own []]],m)) (fun ⟨a9,cZ,c1,dj⟩=>bj l (cn l n k (b1+1)) dj (b1+1) bt bP a9 cZ c1) (by decide+kernel) ?_ ?_
   · rintro ⟨a9,cZ,c1,dj⟩ dZ
     try dsimp only at dZ
     have sE:=dZ.bh
     have sF:=dZ.ab
     have sG:=dZ.bW
     refine cc 72 [0] (σ:=al×Int×Int×Int) (fun ⟨hZ,gE,gF,gM⟩=>(bj l (ck l n 4 ([41]:List UInt8) a9) hZ a9 cZ c1 gE gF gM)∧(gF≠0→hZ=[])) (fun ⟨hZ,gE,gF,gM⟩=>aR hZ) (fun ⟨hZ,gE,gF,gM⟩=>[bg l n gE gF gM]) rfl (fun _=>rfl) (fun bs aq gd an K ad=>iF l n a9 cZ c1 4 ([41]:List UInt8) (bs.getD 0 0) av (by omega) (by omega) (by omega) aq gd K (fun cP bO bF bG aL au=>ad (cP,bO,bF,bG) ⟨aL,au⟩)) ?_
     rintro ⟨hZ,gE,gF,gM⟩ dR
     dsimp only at dR
     obtain ⟨dR,SS⟩:=dR
     have AT:=dR.bh
     have AU:=dR.ab
     have AV:=dR.bW
     refine rt rfl fun _=>?_
     show K (.agg [.int .i64 5, .int .i64 0, .int .i64 0, .str ([]), .slice false [], .slice false [], .str ([]), .str ([]), .slice false ((([bI]:List ar)++([dj]:List ar)).map cz), .slice false []]) (ae.a1 m [(r, .cells [.slice false (l.map bS), .int .i64 gE, .int .i64 n, .err 72 gF, .int .i64 gM])])
     refine ga (ad (.mk 5 cS [] [] [bI,dj] []) _ _ _ ?_) ?_
     · rw [nA]
       refine bA.bind ?_
       rw [if_pos cH.2]
       exact bj.from cH.1 (by omega) (dZ.bind (dR.map fun _=>ar.mk 5 cS [] [] [bI,dj] []))
     · simp only [cE,ar.a,List.map_cons,List.map_nil,List.map_append,List.cons_append,List.nil_append,er];rfl
   repeat' first
    |refine ⟨(fS,eU,fc,q6),⟨rfl,rfl⟩,dA⟩
    |(refine cc 72 [0] (σ:=ar×Int×Int×Int) (fun ⟨q6,fS,eU,fc⟩=>bj l (cn l n k (b1+1)) q6 (b1+1) bt bP fS eU fc) (fun ⟨q6,fS,eU,fc⟩=>ic q6) (fun ⟨q6,fS,eU,fc⟩=>[bg l n fS eU fc]) rfl (fun _=>rfl) (fun bs aq gd an K ad=>aO (b1+1) bt bP (d+1) (by omega) (by omega) (by omega) (by omega) (bs.getD 0 0) aq gd (ch.up an aC) K (fun eJ bO bF bG aL=>ad (eJ,bO,bF,bG) aL)) ?_;rintro ⟨q6,fS,eU,fc⟩ dA;dsimp only at dA;have AR:=dA.bh;have AS:=dA.ab;have xe:=dA.bW)
    |refine ap cz ([bI]:List ar) ([q6]:List ar) (by simp only [List.map_cons,List.map_nil,er];try rfl) (by simp only [List.map_cons,List.map_nil,er];try rfl) (fun a=>by rw [er];exact ⟨rfl,rfl⟩) (by (simp only [List.length_append,List.length_cons,List.length_nil];omega)) ?_
    |refine ax (by omega) ?_
    |refine ⟨?_,?_,trivial⟩
 try dsimp only [Sum.elim_inl,Sum.elim_inr] at cH
 dsimp only [Sum.elim_inl,Sum.elim_inr]
 refine cc 72 [0] (σ:=(Unit) ⊕ (Unit)) (Sum.elim (fun _=>bt=0∧bV l 4 ([61,61]:List UInt8) b1=true) (fun _=>bt=0→bV l 4 ([61,61]:List UInt8) b1=false)) (Sum.elim (fun _=> .b (.lit true)) (fun _=> .b (.lit false))) (Sum.elim (fun _=>[bg l n (b1+1) bt bP]) (fun _=>[bg l n b1 bt bP])) rfl (fun x=>by rcases x with _|_<;>rfl) (fun bs aq gd an K ad=>hz l n b1 bt bP 4 ([61,61]:List UInt8) (bs.getD 0 0) av (by omega) (by omega) (by omega) aq gd K (fun z w=>ad (.inl ()) ⟨z,w⟩) (fun z=>ad (.inr ()) z)) ?_
 rintro (_|_) eC
 · try dsimp only [Sum.elim_inl,Sum.elim_inr] at eC
   dsimp only [Sum.elim_inl,Sum.elim_inr]
   have SU:=hi eC.2
   refine kR cw Tryd.mixed (σ:=Int×Int×Int×ar) (.f 0 (.f 2 (.f 3 (.o 1 (.s 4 (.s 5 (.s 6 (.s 7 (.f 8 (.s 9 .d)))))) (.o 4 (.o 1 (.s 5 (.s 6 (.s 7 (.f 8 (.s 9 .d))))) (.o 5 (.o 1 (.s 6 (.s 7 (.f 8 (.s 9 .d)))) (.o 6 (.s 1 (.s 7 (.f 8 (.s 9 .d)))) .z)) .z)) .z))))) [] [0,4,6] 4 (fun ⟨a9,cZ,c1,dj⟩=>([(0, .loc 0 0),(4, .loc 1 0),(6, .loc 3 0)],[bg l n a9 cZ c1, .cells [aK 0,aK 0,aK 0,aR ([]), .own [], .own [],aR ([]),aR ([]), .own [], .own []], .cells [aK bI.kind,aK bI.v.kind,aK bI.v.n,aR bI.v.s,aX (bI.v.l.map cC),aX (bI.v.f.map cL),aR bI.s,aR bI.t,aX (bI.a.map cz),aX (bI.n.map cp)], .cells [aK 6,aK 0,aK 0,aR ([]), .own [], .own [],aR ([]),aR ([]), .own ((([bI]:List ar)++([dj]:List ar)).map cz), .own []]],m)) (fun ⟨a9,cZ,c1,dj⟩=>bj l (cn l n k (b1+1)) dj (b1+1) bt bP a9 cZ c1) (by decide+kernel) ?_ ?_
   · rintro ⟨a9,cZ,c1,dj⟩ dZ
     try dsimp only at dZ
     have sE:=dZ.bh
     have sF:=dZ.ab
     have sG:=dZ.bW
     refine cc 72 [0] (σ:=al×Int×Int×Int) (fun ⟨sH,l6,fU,gq⟩=>(bj l (ck l n 4 ([41]:List UInt8) a9) sH a9 cZ c1 l6 fU gq)∧(fU≠0→sH=[])) (fun ⟨sH,l6,fU,gq⟩=>aR sH) (fun ⟨sH,l6,fU,gq⟩=>[bg l n l6 fU gq]) rfl (fun _=>rfl) (fun bs aq gd an K ad=>iF l n a9 cZ c1 4 ([41]:List UInt8) (bs.getD 0 0) av (by omega) (by omega) (by omega) aq gd K (fun cP bO bF bG aL au=>ad (cP,bO,bF,bG) ⟨aL,au⟩)) ?_
     rintro ⟨sH,l6,fU,gq⟩ gH
     dsimp only at gH
     obtain ⟨gH,SV⟩:=gH
     have OR:=gH.bh
     have OS:=gH.ab
     have F7:=gH.bW
     refine rt rfl fun _=>?_
     show K (.agg [.int .i64 6, .int .i64 0, .int .i64 0, .str ([]), .slice false [], .slice false [], .str ([]), .str ([]), .slice false ((([bI]:List ar)++([dj]:List ar)).map cz), .slice false []]) (ae.a1 m [(r, .cells [.slice false (l.map bS), .int .i64 l6, .int .i64 n, .err 72 fU, .int .i64 gq])])
     refine ga (ad (.mk 6 cS [] [] [bI,dj] []) _ _ _ ?_) ?_
     · rw [nA]
       refine bA.bind ?_
       rw [if_neg (c8 (cH eC.1)),if_pos eC.2]
       exact bj.from eC.1 (by omega) (dZ.bind (gH.map fun _=>ar.mk 6 cS [] [] [bI,dj] []))
     · simp only [cE,ar.a,List.map_cons,List.map_nil,List.map_append,List.cons_append,List.nil_append,er];rfl
   repeat' first
    |refine ⟨(dW,dY,eD,gi),⟨rfl,rfl⟩,e1⟩
    |(refine cc 72 [0] (σ:=ar×Int×Int×Int) (fun ⟨gi,dW,dY,eD⟩=>bj l (cn l n k (b1+1)) gi (b1+1) bt bP dW dY eD) (fun ⟨gi,dW,dY,eD⟩=>ic gi) (fun ⟨gi,dW,dY,eD⟩=>[bg l n dW dY eD]) rfl (fun _=>rfl) (fun bs aq gd an K ad=>aO (b1+1) bt bP (d+1) (by omega) (by omega) (by omega) (by omega) (bs.getD 0 0) aq gd (ch.up an aC) K (fun eJ bO bF bG aL=>ad (eJ,bO,bF,bG) aL)) ?_;rintro ⟨gi,dW,dY,eD⟩ e1;dsimp only at e1;have u1:=e1.bh;have u2:=e1.ab;have u3:=e1.bW)
    |refine ap cz ([bI]:List ar) ([gi]:List ar) (by simp only [List.map_cons,List.map_nil,er];try rfl) (by simp only [List.map_cons,List.map_nil,er];try rfl) (fun a=>by rw [er];exact ⟨rfl,rfl⟩) (by (simp only [List.length_append,List.length_cons,List.length_nil];omega)) ?_
    |refine ax (by omega) ?_
    |refine ⟨?_,?_,trivial⟩
 try dsimp only [Sum.elim_inl,Sum.elim_inr] at eC
 dsimp only [Sum.elim_inl,Sum.elim_inr]
 refine cc 72 [0] (σ:=(Unit) ⊕ (Unit)) (Sum.elim (fun _=>bt=0∧bV l 4 ([63]:List UInt8) b1=true) (fun _=>bt=0→bV l 4 ([63]:List UInt8) b1=false)) (Sum.elim (fun _=> .b (.lit true)) (fun _=> .b (.lit false))) (Sum.elim (fun _=>[bg l n (b1+1) bt bP]) (fun _=>[bg l n b1 bt bP])) rfl (fun x=>by rcases x with _|_<;>rfl) (fun bs aq gd an K ad=>hz l n b1 bt bP 4 ([63]:List UInt8) (bs.getD 0 0) av (by omega) (by omega) (by omega) aq gd K (fun z w=>ad (.inl ()) ⟨z,w⟩) (fun z=>ad (.inr ()) z)) ?_
 rintro (_|_) fe
 · try dsimp only [Sum.elim_inl,Sum.elim_inr] at fe
   dsimp only [Sum.elim_inl,Sum.elim_inr]
   have OT:=hi fe.2
   refine kR cw Tryd.mixed (σ:=Int×Int×Int×ar) (.f 0 (.f 2 (.f 3 (.o 1 (.s 4 (.s 5 (.s 6 (.s 7 (.f 8 (.s 9 .d)))))) (.o 4 (.o 1 (.s 5 (.s 6 (.s 7 (.f 8 (.s 9 .d))))) (.o 5 (.o 1 (.s 6 (.s 7 (.f 8 (.s 9 .d)))) (.o 6 (.s 1 (.s 7 (.f 8 (.s 9 .d)))) .z)) .z)) .z))))) [] [0,1,4,6] 4 (fun ⟨l7,f9,mN,kV⟩=>([(0, .loc 0 0),(1,aK d),(4, .loc 1 0),(6, .loc 3 0)],[bg l n l7 f9 mN, .cells [aK 0,aK 0,aK 0,aR ([]), .own [], .own [],aR ([]),aR ([]), .own [], .own []], .cells [aK bI.kind,aK bI.v.kind,aK bI.v.n,aR bI.v.s,aX (bI.v.l.map cC),aX (bI.v.f.map cL),aR bI.s,aR bI.t,aX (bI.a.map cz),aX (bI.n.map cp)], .cells [aK 7,aK 0,aK 0,aR ([]), .own [], .own [],aR ([]),aR ([]), .own ((([bI]:List ar)++([kV]:List ar)).map cz), .own []]],m)) (fun ⟨l7,f9,mN,kV⟩=>bj l (cn l n k (b1+1)) kV (b1+1) bt bP l7 f9 mN) (by decide+kernel) ?_ ?_
   · rintro ⟨l7,f9,mN,kV⟩ h2
     try dsimp only at h2
     have F8:=h2.bh
     have F9:=h2.ab
     have Ga:=h2.bW
     refine cc 72 [0] (σ:=al×Int×Int×Int) (fun ⟨gA,fo,fI,gg⟩=>(bj l (ck l n 4 ([58]:List UInt8) l7) gA l7 f9 mN fo fI gg)∧(fI≠0→gA=[])) (fun ⟨gA,fo,fI,gg⟩=>aR gA) (fun ⟨gA,fo,fI,gg⟩=>[bg l n fo fI gg]) rfl (fun _=>rfl) (fun bs aq gd an K ad=>iF l n l7 f9 mN 4 ([58]:List UInt8) (bs.getD 0 0) av (by omega) (by omega) (by omega) aq gd K (fun cP bO bF bG aL au=>ad (cP,bO,bF,bG) ⟨aL,au⟩)) ?_
     rintro ⟨gA,fo,fI,gg⟩ fp
     dsimp only at fp
     obtain ⟨fp,OU⟩:=fp
     have A0:=fp.bh
     have A1:=fp.ab
     have A2:=fp.bW
     refine kR cw Tryd.mixed (σ:=Int×Int×Int×ar) (.f 0 (.f 2 (.f 3 (.o 1 (.s 4 (.s 5 (.s 6 (.s 7 (.f 8 (.s 9 .d)))))) (.o 4 (.o 1 (.s 5 (.s 6 (.s 7 (.f 8 (.s 9 .d))))) (.o 5 (.o 1 (.s 6 (.s 7 (.f 8 (.s 9 .d)))) (.o 6 (.s 1 (.s 7 (.f 8 (.s 9 .d)))) .z)) .z)) .z))))) [] [0,4,6] 4 (fun ⟨a9,cZ,c1,dj⟩=>([(0, .loc 0 0),(4, .loc 1 0),(6, .loc 3 0)],[bg l n a9 cZ c1, .cells [aK 0,aK 0,aK 0,aR ([]), .own [], .own [],aR ([]),aR ([]), .own [], .own []], .cells [aK bI.kind,aK bI.v.kind,aK bI.v.n,aR bI.v.s,aX (bI.v.l.map cC),aX (bI.v.f.map cL),aR bI.s,aR bI.t,aX (bI.a.map cz),aX (bI.n.map cp)], .cells [aK 7,aK 0,aK 0,aR ([]), .own [], .own [],aR ([]),aR ([]), .own (((([bI]:List ar)++([kV]:List ar))++([dj]:List ar)).map cz), .own []]],m)) (fun ⟨a9,cZ,c1,dj⟩=>bj l (cn l n k fo) dj fo fI gg a9 cZ c1) (by decide+kernel) ?_ ?_
     · rintro ⟨a9,cZ,c1,dj⟩ dZ
       try dsimp only at dZ
       have sE:=dZ.bh
       have sF:=dZ.ab
       have sG:=dZ.bW
       refine cc 72 [0] (σ:=al×Int×Int×Int) (fun ⟨l8,ff,fg,fw⟩=>(bj l (ck l n 4 ([41]:List UInt8) a9) l8 a9 cZ c1 ff fg fw)∧(fg≠0→l8=[])) (fun ⟨l8,ff,fg,fw⟩=>aR l8) (fun ⟨l8,ff,fg,fw⟩=>[bg l n ff fg fw]) rfl (fun _=>rfl) (fun bs aq gd an K ad=>iF l n a9 cZ c1 4 ([41]:List UInt8) (bs.getD 0 0) av (by omega) (by omega) (by omega) aq gd K (fun cP bO bF bG aL au=>ad (cP,bO,bF,bG) ⟨aL,au⟩)) ?_
       rintro ⟨l8,ff,fg,fw⟩ fT
       dsimp only at fT
       obtain ⟨fT,OV⟩:=fT
       have xi:=fT.bh
       have xj:=fT.ab
       have xk:=fT.bW
       refine rt rfl fun _=>?_
       show K (.agg [.int .i64 7, .int .i64 0, .int .i64 0, .str ([]), .slice false [], .slice false [], .str ([]), .str ([]), .slice false (((([bI]:List ar)++([kV]:List ar))++([dj]:List ar)).map cz), .slice false []]) (ae.a1 m [(r, .cells [.slice false (l.map bS), .int .i64 ff, .int .i64 n, .err 72 fg, .int .i64 fw])])
       refine ga (ad (.mk 7 cS [] [] [bI,kV,dj] []) _ _ _ ?_) ?_
       · rw [nA]
         refine bA.bind ?_
         rw [if_neg (c8 (cH fe.1)),if_neg (c8 (eC fe.1)),if_pos fe.2]
         exact bj.from fe.1 (by omega) (h2.bind (fp.bind (dZ.bind (fT.map fun _=>ar.mk 7 cS [] [] [bI,kV,dj] []))))
       · simp only [cE,ar.a,List.map_cons,List.map_nil,List.map_append,List.cons_append,List.nil_append,er];rfl
     repeat' first
      |refine ⟨(gr,gB,gI,gj),⟨rfl,rfl⟩,gh⟩
      |(refine cc 72 [0] (σ:=ar×Int×Int×Int) (fun ⟨gj,gr,gB,gI⟩=>bj l (cn l n k fo) gj fo fI gg gr gB gI) (fun ⟨gj,gr,gB,gI⟩=>ic gj) (fun ⟨gj,gr,gB,gI⟩=>[bg l n gr gB gI]) rfl (fun _=>rfl) (fun bs aq gd an K ad=>aO fo fI gg (d+1) (by omega) (by omega) (by omega) (by omega) (bs.getD 0 0) aq gd (ch.up an aC) K (fun eJ bO bF bG aL=>ad (eJ,bO,bF,bG) aL)) ?_;rintro ⟨gj,gr,gB,gI⟩ gh;dsimp only at gh;have A3:=gh.bh;have A4:=gh.ab;have A5:=gh.bW)
      |refine ap cz (([bI]:List ar)++([kV]:List ar)) ([gj]:List ar) rfl (by simp only [List.map_cons,List.map_nil,er];try rfl) (fun a=>by rw [er];exact ⟨rfl,rfl⟩) (by (simp only [List.length_append,List.length_cons,List.length_nil];omega)) ?_
      |refine ax (by omega) ?_
      |refine ⟨?_,?_,trivial⟩
   repeat' first
    |refine ⟨(jc,gN,gO,gk),⟨rfl,rfl⟩,gz⟩
    |(refine cc 72 [0] (σ:=ar×Int×Int×Int) (fun ⟨gk,jc,gN,gO⟩=>bj l (cn l n k (b1+1)) gk (b1+1) bt bP jc gN gO) (fun ⟨gk,jc,gN,gO⟩=>ic gk) (fun ⟨gk,jc,gN,gO⟩=>[bg l n jc gN gO]) rfl (fun _=>rfl) (fun bs aq gd an K ad=>aO (b1+1) bt bP (d+1) (by omega) (by omega) (by omega) (by omega) (bs.getD 0 0) aq gd (ch.up an aC) K (fun eJ bO bF bG aL=>ad (eJ,bO,bF,bG) aL)) ?_;rintro ⟨gk,jc,gN,gO⟩ gz;dsimp only at gz;have Gb:=gz.bh;have Gc:=gz.ab;have A6:=gz.bW)
    |refine ap cz ([bI]:List ar) ([gk]:List ar) (by simp only [List.map_cons,List.map_nil,er];try rfl) (by simp only [List.map_cons,List.map_nil,er];try rfl) (fun a=>by rw [er];exact ⟨rfl,rfl⟩) (by (simp only [List.length_append,List.length_cons,List.length_nil];omega)) ?_
    |refine ax (by omega) ?_
    |refine ⟨?_,?_,trivial⟩
 try dsimp only [Sum.elim_inl,Sum.elim_inr] at fe
 dsimp only [Sum.elim_inl,Sum.elim_inr]
 refine cc 72 [0] (σ:=Int×Int) (fun ⟨hA,h1⟩=>(bt=0→hA=5∧h1=cJ l n b1)∧(bt≠0→hA=bt∧h1=bP)∧0<hA) (fun ⟨hA,h1⟩=> .cM []) (fun ⟨hA,h1⟩=>[bg l n b1 hA h1]) rfl (fun _=>rfl) (fun bs aq gd an K ad=>oe l n b1 bt bP 5 (bs.getD 0 0) (by decide) av (by omega) (by omega) (by omega) aq gd K (fun z=>ad (5,cJ l n b1) ⟨fun _=>⟨rfl,rfl⟩,fun y=>absurd z y,by decide⟩) (fun z=>ad (bt,bP) ⟨fun y=>absurd y z,fun _=>⟨rfl,rfl⟩,by omega⟩)) ?_
 rintro ⟨hA,h1⟩ kA
 dsimp only at kA
 obtain ⟨OW,Gd,OX⟩:=kA
 refine kR cw Tryd.mixed (σ:=Int×Int×Int×ar) (.f 0 (.f 2 (.f 3 (.o 1 (.s 4 (.s 5 (.s 6 (.s 7 (.f 8 (.s 9 .d)))))) (.o 4 (.o 1 (.s 5 (.s 6 (.s 7 (.f 8 (.s 9 .d))))) (.o 5 (.o 1 (.s 6 (.s 7 (.f 8 (.s 9 .d)))) (.o 6 (.s 1 (.s 7 (.f 8 (.s 9 .d)))) .z)) .z)) .z))))) [] [0,4,6] 4 (fun ⟨a9,cZ,c1,dj⟩=>([(0, .loc 0 0),(4, .loc 1 0),(6, .loc 3 0)],[bg l n a9 cZ c1, .cells [aK 0,aK 0,aK 0,aR ([]), .own [], .own [],aR ([]),aR ([]), .own [], .own []], .cells [aK bI.kind,aK bI.v.kind,aK bI.v.n,aR bI.v.s,aX (bI.v.l.map cC),aX (bI.v.f.map cL),aR bI.s,aR bI.t,aX (bI.a.map cz),aX (bI.n.map cp)], .cells [aK 5,aK 0,aK 0,aR ([]), .own [], .own [],aR ([]),aR ([]), .own ((([bI]:List ar)++([dj]:List ar)).map cz), .own []]],m)) (fun ⟨a9,cZ,c1,dj⟩=>bj l (cn l n k b1) dj b1 hA h1 a9 cZ c1) (by decide+kernel) ?_ ?_
 · rintro ⟨a9,cZ,c1,dj⟩ dZ
   try dsimp only at dZ
   have sE:=dZ.bh
   have sF:=dZ.ab
   have sG:=dZ.bW
   refine cc 72 [0] (σ:=al×Int×Int×Int) (fun ⟨sI,sJ,q7,sK⟩=>(bj l (ck l n 4 ([41]:List UInt8) a9) sI a9 cZ c1 sJ q7 sK)∧(q7≠0→sI=[])) (fun ⟨sI,sJ,q7,sK⟩=>aR sI) (fun ⟨sI,sJ,q7,sK⟩=>[bg l n sJ q7 sK]) rfl (fun _=>rfl) (fun bs aq gd an K ad=>iF l n a9 cZ c1 4 ([41]:List UInt8) (bs.getD 0 0) av (by omega) (by omega) (by omega) aq gd K (fun cP bO bF bG aL au=>ad (cP,bO,bF,bG) ⟨aL,au⟩)) ?_
   rintro ⟨sI,sJ,q7,sK⟩ q8
   dsimp only at q8
   obtain ⟨q8,SW⟩:=q8
   have SX:=q8.bh
   have SY:=q8.ab
   have SZ:=q8.bW
   refine rt rfl fun _=>?_
   show K (.agg [.int .i64 5, .int .i64 0, .int .i64 0, .str ([]), .slice false [], .slice false [], .str ([]), .str ([]), .slice false ((([bI]:List ar)++([dj]:List ar)).map cz), .slice false []]) (ae.a1 m [(r, .cells [.slice false (l.map bS), .int .i64 sJ, .int .i64 n, .err 72 q7, .int .i64 sK])])
   refine ga (ad (.mk 5 cS [] [] [bI,dj] []) _ _ _ ?_) ?_
   · obtain ⟨rfl,rfl,rfl⟩:=dZ.st (by omega)
     obtain ⟨rfl,rfl,rfl⟩:=q8.st (by omega)
     rw [nA]
     refine bA.bind ?_
     by_cases au:bt=0
     · rw [if_neg (c8 (cH au)),if_neg (c8 (eC au)),if_neg (c8 (fe au))]
       exact bj.bad _ (by omega) OW Gd OX
     · obtain ⟨rfl,rfl⟩:=Gd au
       exact bj.stuck au (by omega) (by omega)
   · simp only [cE,ar.a,List.map_cons,List.map_nil,List.map_append,List.cons_append,List.nil_append,er];rfl
 repeat' first
  |refine ⟨(l9,ig,iJ,hL),⟨rfl,rfl⟩,lr⟩
  |(refine cc 72 [0] (σ:=ar×Int×Int×Int) (fun ⟨hL,l9,ig,iJ⟩=>bj l (cn l n k b1) hL b1 hA h1 l9 ig iJ) (fun ⟨hL,l9,ig,iJ⟩=>ic hL) (fun ⟨hL,l9,ig,iJ⟩=>[bg l n l9 ig iJ]) rfl (fun _=>rfl) (fun bs aq gd an K ad=>aO b1 hA h1 (d+1) (by omega) (by omega) (by omega) (by omega) (bs.getD 0 0) aq gd (ch.up an aC) K (fun eJ bO bF bG aL=>ad (eJ,bO,bF,bG) aL)) ?_;rintro ⟨hL,l9,ig,iJ⟩ lr;dsimp only at lr;have OY:=lr.bh;have OZ:=lr.ab;have O0:=lr.bW)
  |refine ap cz ([bI]:List ar) ([hL]:List ar) (by simp only [List.map_cons,List.map_nil,er];try rfl) (by simp only [List.map_cons,List.map_nil,er];try rfl) (fun a=>by rw [er];exact ⟨rfl,rfl⟩) (by (simp only [List.length_append,List.length_cons,List.length_nil];omega)) ?_
  |refine ax (by omega) ?_
  |refine ⟨?_,?_,trivial⟩
end Go.Proofs
end
section
namespace Go.Proofs
open Go Go.bb Go.b4
set_option maxRecDepth 100000
structure e6 {b6:Type} (P:bm b6) (e q:Int) (Q:bm b6):Prop where
 y:e=0→P=Q
 z:e≠0→P.f=e∧P.p=q
section
variable {l:List Tok} {α b6:Type} {P R:bm b6} {p:bm α} {x:α} {cd ay bZ a2 az bo f s:Int}
theorem e6.step [Inhabited b6] {g:α→Int→bm b6} (c:e6 P ay bZ (p.bind g)) (o:bj l p x cd ay bZ a2 az bo):e6 P az bo (g x a2):=by
 by_cases au:ay=0
 · have I:=o.ok au
   have ah:=c.y au
   refine ⟨fun h=>?_,fun h=>?_⟩
   · obtain ⟨rfl,rfl⟩:=I.y h
     rw [ah,bm.bind,if_pos (by rw [←I.f];exact h)]
   · rw [ah,bm.bind,if_neg (by rw [←I.f];exact h)]
     exact ⟨I.f.symm,(I.z h).symm⟩
 · obtain ⟨_,rfl,rfl⟩:=o.st au
   exact ⟨fun h=>absurd h au,c.z⟩
theorem e6.fail [Inhabited b6] (c:e6 P ay bZ (.bad f s)) (I:ay=0→az=f∧bo=s) (J:ay≠0→az=ay∧bo=bZ) (ak:0<az):e6 P az bo R:=by
 refine ⟨fun h=>by omega,fun _=>?_⟩
 by_cases au:ay=0
 · obtain ⟨rfl,rfl⟩:=I au;rw [c.y au];exact ⟨rfl,rfl⟩
 · obtain ⟨rfl,rfl⟩:=J au;exact c.z au
theorem e6.to {Q gP:bm b6} (c:e6 P ay bZ Q) (h:ay=0→Q=gP):e6 P ay bZ gP:=⟨fun z=>(c.y z).trans (h z),c.z⟩
theorem e6.done {a e q:Int} {y:b6} (c:e6 P ay bZ (.ok y (cd+1))) (au:ay=0) (he:e=0) (aN:a≤cd) (h:cd<l.length):bj l P y a e q (cd+1) ay bZ:=
 ⟨fun _=>by rw [c.y au];exact ⟨au,fun _=>⟨rfl,rfl⟩,fun h=>absurd au h⟩,fun h=>absurd he h,by omega,by omega,by omega,fun _=>by omega⟩
theorem e6.bad {Q:bm b6} {a e q:Int} {y:b6} (c:e6 P ay bZ Q) (au:ay≠0) (he:e=0) (aN:a≤cd) (h:cd≤l.length) (aJ:0≤ay):bj l P y a e q cd ay bZ:=
 ⟨fun _=>⟨(c.z au).1.symm,fun h=>absurd h au,fun _=>(c.z au).2.symm⟩,fun h=>absurd he h,aN,h,aJ,fun h=>absurd h au⟩
end
theorem A7 {α β:Type} [Inhabited β] {l:List Tok} {n a:Int} {xs:List α} {g:Int→bm β} (h:0<(xs.length:Int)):jz l n xs a g=(ck l n 4 [44] a).bind fun _ a=>g a:=by
 rw [jz,if_neg (fun e=>by subst e;simp at h)]
theorem A8 {α β:Type} [Inhabited β] {l:List Tok} {n a:Int} {xs:List α} {g:Int→bm β} (h:(xs.length:Int)≤0):jz l n xs a g=g a:=by
 rw [jz,if_pos (List.eq_nil_of_length_eq_zero (by omega))]
section
variable (f:Int→bm ar) (l:List Tok) (n:Int) (k:Nat) (bQ:List al) (xs:List ar)
def recC (m:al) (a:Int):bm ar:=(ck l n 4 [58] a).bind fun _ a=>(f a).bind fun x a=>jb f l n k a (bQ++[m]) (xs++[x])
def A9 (m:al) (a:Int):bm ar:=if q3 bQ m then .bad 3 (cJ l n a) else recC f l n k bQ xs m a
def Ba (a:Int):bm ar:=(ck l n 1 [] a).bind fun m a=>A9 f l n k bQ xs m a
end
theorem O1 {f:Int→bm ar} {l:List Tok} {n a:Int} {k:Nat} {bQ:List al} {xs:List ar} {m:al} (h:q3 bQ m):A9 f l n k bQ xs m a= .bad 3 (cJ l n a):=if_pos h
theorem O2 {f:Int→bm ar} {l:List Tok} {n a:Int} {k:Nat} {bQ:List al} {xs:List ar} {m:al} (h:(bQ.length:Int)≤0∨Op.bytesLess (U bQ ((bQ.length:Int)- 1)) m=true):A9 f l n k bQ xs m a=recC f l n k bQ xs m a:=
 if_neg fun ag=>by
  obtain ⟨lH,ml⟩:=ag
  rcases h with h|h
  · omega
  · rw [ml] at h;cases h
theorem O3 {f:Int→bm ar} {l:List Tok} {n a:Int} {k:Nat} {bQ:List al} {xs:List ar} (h:bV l 4 [125] a=false):jb f l n (k+1) a bQ xs=jz l n xs a fun a=>Ba f l n k bQ xs a:=by
 rw [jb,if_neg (c8 h)];rfl
theorem O4 {f:Int→bm ar} {l:List Tok} {n a:Int} {k:Nat} {bQ:List al} {xs:List ar} (h:bV l 4 [125] a=true):jb f l n (k+1) a bQ xs= .ok (.mk 9 cS [] [] xs bQ) (a+1):=by
 rw [jb,if_pos h]
theorem O5 {f:Int→bm ar} {l:List Tok} {n a:Int} {k:Nat} {xs:List ar} (h:bV l 4 [93] a=false):j3 f l n (k+1) a xs=jz l n xs a fun a=>(f a).bind fun x a=>j3 f l n k a (xs++[x]):=by
 rw [j3,if_neg (c8 h)]
theorem O6 {f:Int→bm ar} {l:List Tok} {n a:Int} {k:Nat} {xs:List ar} (h:bV l 4 [93] a=true):j3 f l n (k+1) a xs= .ok (.mk 8 cS [] [] xs []) (a+1):=by
 rw [j3,if_pos h]
set_option maxHeartbeats 4000000 in
theorem O7 (l:List Tok) (n a e q:Int) (k:Nat) (d:Int) (r:Nat) (aO:∀a e q d:Int,d=7- (k:Int)→0≤a→a≤l.length→0≤e→∀(r:Nat) (m:ae),eG [r] m→ch m→∀(K:aa→ae→Prop),(∀bD b9 bY ct,bj l (cn l n k a) bD a e q b9 bY ct→K (cE bD) (ae.a1 m [(r, .cells [.slice false (l.map bS), .int .i64 b9, .int .i64 n, .err 72 bY, .int .i64 ct])]))→bp Tryd.prog 71 [.ptr ⟨r,0,none⟩, .int .i64 d] (ae.a1 m [(r, .cells [.slice false (l.map bS), .int .i64 a, .int .i64 n, .err 72 e, .int .i64 q])]) K) (av:l.length≤5000) (aA:0≤a) (aN:a≤l.length) (he:0≤e) (ai:k≤7) (a7:d+1=7- (k:Int)) (au:e=0) (m:ae) (gd:eG [r] m) (K:aa→ae→Prop) (aC:ch m) (ad:∀bD b9 bY ct,bj l (jb (cn l n k) l n (l.length+1) a [] []) bD a e q b9 bY ct→K (cE bD) (ae.a1 m [(r, .cells [.slice false (l.map bS), .int .i64 b9, .int .i64 n, .err 72 bY, .int .i64 ct])])):bp Tryd.prog 90 [.ptr ⟨r,0,none⟩, .int .i64 d] (ae.a1 m [(r, .cells [.slice false (l.map bS), .int .i64 a, .int .i64 n, .err 72 e, .int .i64 q])]) K:=by
 refine enter (c:=dF [] [] [7] [11999] [11] [r]) (vs:=[.loc 0 0, .aI (.int .i64 d)]) (L:=[bg l n a e q]) (m:=m) false cw Tryd.mixed Tryd.func90 rfl (k:=2) (by show du [11999] _ _ _=true;decide+kernel) rfl (gd.ia rfl) ?_
 refine aU ?_
 refine dE (σ:=Int×Int×Int×List ar×List al) [] [0,1,4,5] 3 (fun ⟨a2,az,bo,xs,bQ⟩=>([(0, .loc 0 0),(1,aK d),(4, .loc 1 0),(5, .loc 2 0)],[bg l n a2 az bo, .cells [aK 0,aK 0,aK 0,aR ([]), .own [], .own [],aR ([]),aR ([]), .own [], .own []], .cells [aK 9,aK 0,aK 0,aR ([]:al), .own [], .own [],aR ([]:al),aR ([]:al), .own (xs.map cz), .own (bQ.map cp)]],m)) (fun ⟨a2,az,bo,xs,bQ⟩=>0≤a2∧a≤a2∧a2≤l.length∧0≤az∧(az=0→(xs.length:Int)≤a2∧(bQ.length:Int)≤a2)∧xs.length≤5001∧bQ.length≤5001∧∃aZ:Nat,(az=0→l.length- a2<aZ)∧e6 (jb (cn l n k) l n (l.length+1) a [] []) az bo (jb (cn l n k) l n aZ a2 bQ xs)) (fun ⟨a2,az,bo,xs,bQ⟩=>if az=0 then l.length- a2.toNat+1 else 0) (a,e,q,[],[]) ⟨rfl,rfl⟩ ?_ ?_
 · try dsimp only
   exact ⟨by omega,by omega,by omega,by omega,fun _=>⟨by simp;omega,by simp;omega⟩,by simp,by simp,l.length+1,fun _=>by omega,⟨fun _=>rfl,fun h=>absurd au h⟩⟩
 rintro ⟨a2,az,bo,xs,bQ⟩ aW
 dsimp only at aW
 obtain ⟨i1,i2,i3,i4,i5,i6,i7,aZ,i8,i9⟩:=aW
 refine aU ?_
 refine cc 72 [0] (σ:=(Unit) ⊕ (Unit)) (Sum.elim (fun _=>az=0∧bV l 4 ([125]:List UInt8) a2=true) (fun _=>az=0→bV l 4 ([125]:List UInt8) a2=false)) (Sum.elim (fun _=> .b (.lit true)) (fun _=> .b (.lit false))) (Sum.elim (fun _=>[bg l n (a2+1) az bo]) (fun _=>[bg l n a2 az bo])) rfl (fun x=>by rcases x with _|_<;>rfl) (fun bs aq gd an K ad=>hz l n a2 az bo 4 ([125]:List UInt8) (bs.getD 0 0) av (by omega) (by omega) (by omega) aq gd K (fun z w=>ad (.inl ()) ⟨z,w⟩) (fun z=>ad (.inr ()) z)) ?_
 rintro (_|_) bA
 · try dsimp only [Sum.elim_inl,Sum.elim_inr] at bA
   dsimp only [Sum.elim_inl,Sum.elim_inr]
   have uX:=hi bA.2
   refine rt rfl fun _=>?_
   show K (.agg [.int .i64 9, .int .i64 0, .int .i64 0, .str ([]:al), .slice false [], .slice false [], .str ([]:al), .str ([]:al), .slice false (xs.map cz), .slice false (bQ.map cp)]) (ae.a1 m [(r, .cells [.slice false (l.map bS), .int .i64 (a2+1), .int .i64 n, .err 72 az, .int .i64 bo])])
   obtain ⟨aZ,rfl⟩:∃k,aZ=k+1:=⟨aZ- 1,by have:=i8 bA.1;omega⟩
   refine ga (ad (.mk 9 cS [] [] xs bQ) _ _ _ ?_) ?_
   · exact e6.done (i9.to fun _=>O4 bA.2) bA.1 au (by omega) uX
   · simp only [cE,ar.a,ar.n];rfl
 try dsimp only [Sum.elim_inl,Sum.elim_inr] at bA
 dsimp only [Sum.elim_inl,Sum.elim_inr]
 refine ax (fun I=>?_) (fun I=>?_)
 · obtain ⟨aZ,rfl⟩:∃k,aZ=k+1:=⟨aZ- 1,by have:=i8 I;omega⟩
   rw [O3 (bA I)] at i9
   have i10:=i8 I
   have i11:=i5 I
   refine uy (σ:=Int×Int×Int) [] [0,1,4,5] 3 (fun ⟨hM,f3,ma⟩=>([(0, .loc 0 0),(1,aK d),(4, .loc 1 0),(5, .loc 2 0)],[bg l n hM f3 ma, .cells [aK 0,aK 0,aK 0,aR ([]), .own [], .own [],aR ([]),aR ([]), .own [], .own []], .cells [aK 9,aK 0,aK 0,aR ([]:al), .own [], .own [],aR ([]:al),aR ([]:al), .own (xs.map cz), .own (bQ.map cp)]],m)) (fun ⟨hM,f3,ma⟩=>a2≤hM∧hM≤l.length∧0≤f3∧e6 (jb (cn l n k) l n (l.length+1) a [] []) f3 ma (Ba (cn l n k) l n aZ bQ xs hM)) ?_ ?_
   · rintro ⟨hM,f3,ma⟩ nw
     refine cc 72 [0] (σ:=al×Int×Int×Int) (fun ⟨dM,ee,cT,c7⟩=>bj l (ck l n 1 [] hM) dM hM f3 ma ee cT c7) (fun ⟨dM,ee,cT,c7⟩=>aR dM) (fun ⟨dM,ee,cT,c7⟩=>[bg l n ee cT c7]) rfl (fun _=>rfl) (fun bs aq gd an K ad=>nx l n hM f3 ma (bs.getD 0 0) av (by omega) (by omega) (by omega) aq gd K (fun cP bO bF bG aL=>ad (cP,bO,bF,bG) aL)) ?_
     rintro ⟨dM,ee,cT,c7⟩ cH
     dsimp only at cH
     have uY:=cH.bh
     have jt:=cH.ab
     have uZ:=cH.bW
     refine uy (σ:=Int×Int×Int) [] [0,1,4,5,6] 3 (fun ⟨c3,g3,n6⟩=>([(0, .loc 0 0),(1,aK d),(4, .loc 1 0),(5, .loc 2 0),(6,aR dM)],[bg l n c3 g3 n6, .cells [aK 0,aK 0,aK 0,aR ([]), .own [], .own [],aR ([]),aR ([]), .own [], .own []], .cells [aK 9,aK 0,aK 0,aR ([]:al), .own [], .own [],aR ([]:al),aR ([]:al), .own (xs.map cz), .own (bQ.map cp)]],m)) (fun ⟨c3,g3,n6⟩=>hM≤c3∧c3≤l.length∧0≤g3∧e6 (jb (cn l n k) l n (l.length+1) a [] []) g3 n6 (recC (cn l n k) l n aZ bQ xs dM c3)) ?_ ?_
     · rintro ⟨c3,g3,n6⟩ Bb
       refine cc 72 [0] (σ:=al×Int×Int×Int) (fun ⟨ja,fS,eU,fc⟩=>(bj l (ck l n 4 ([58]:List UInt8) c3) ja c3 g3 n6 fS eU fc)∧(eU≠0→ja=[])) (fun ⟨ja,fS,eU,fc⟩=>aR ja) (fun ⟨ja,fS,eU,fc⟩=>[bg l n fS eU fc]) rfl (fun _=>rfl) (fun bs aq gd an K ad=>iF l n c3 g3 n6 4 ([58]:List UInt8) (bs.getD 0 0) av (by omega) (by omega) (by omega) aq gd K (fun cP bO bF bG aL au=>ad (cP,bO,bF,bG) ⟨aL,au⟩)) ?_
       rintro ⟨ja,fS,eU,fc⟩ dA
       dsimp only at dA
       obtain ⟨dA,nc⟩:=dA
       have AR:=dA.bh
       have AS:=dA.ab
       have xe:=dA.bW
       refine ap cp bQ ([dM]:List (List UInt8)) rfl rfl (fun _=>⟨rfl,rfl⟩) (by (simp only [List.length_append,List.length_cons,List.length_nil];omega)) ?_
       refine kR cw Tryd.mixed (σ:=Int×Int×Int×ar) (.f 0 (.f 2 (.f 3 (.o 1 (.s 4 (.s 5 (.s 6 (.s 7 (.f 8 (.s 9 .d)))))) (.o 4 (.o 1 (.s 5 (.s 6 (.s 7 (.f 8 (.s 9 .d))))) (.o 5 (.o 1 (.s 6 (.s 7 (.f 8 (.s 9 .d)))) (.o 6 (.s 1 (.s 7 (.f 8 (.s 9 .d)))) .z)) .z)) .z))))) [] [0,1,4,5] 3 (fun ⟨a9,cZ,c1,dj⟩=>([(0, .loc 0 0),(1,aK d),(4, .loc 1 0),(5, .loc 2 0)],[bg l n a9 cZ c1, .cells [aK 0,aK 0,aK 0,aR ([]), .own [], .own [],aR ([]),aR ([]), .own [], .own []], .cells [aK 9,aK 0,aK 0,aR ([]:al), .own [], .own [],aR ([]:al),aR ([]:al), .own ((xs++([dj]:List ar)).map cz), .own ((bQ++([dM]:List (List UInt8))).map cp)]],m)) (fun ⟨a9,cZ,c1,dj⟩=>bj l (cn l n k fS) dj fS eU fc a9 cZ c1) (by decide+kernel) ?_ ?_
       · rintro ⟨a9,cZ,c1,dj⟩ dZ
         try dsimp only at dZ
         have sE:=dZ.bh
         have sF:=dZ.ab
         have sG:=dZ.bW
         refine ⟨(a9,cZ,c1,xs++([dj]:List ar),bQ++([dM]:List (List UInt8))),⟨rfl,rfl⟩,?_,?_⟩
         · try dsimp only
           have a8:=dZ.gt
           have c:=e6.step (e6.step Bb.2.2.2 dA) dZ
           simp only [List.length_append,List.length_cons,List.length_nil]
           exact ⟨by omega,by omega,by omega,by omega,fun aS=>by have:=a8 aS;omega,by omega,by omega,aZ,fun aS=>by have:=a8 aS;omega,c⟩
         try dsimp only
         rw [if_pos I]
         have a8:=dZ.gt
         split<;>omega
       repeat' first
        |refine ⟨(gE,gF,gM,q9),⟨rfl,rfl⟩,dR⟩
        |(refine cc 72 [0] (σ:=ar×Int×Int×Int) (fun ⟨q9,gE,gF,gM⟩=>bj l (cn l n k fS) q9 fS eU fc gE gF gM) (fun ⟨q9,gE,gF,gM⟩=>ic q9) (fun ⟨q9,gE,gF,gM⟩=>[bg l n gE gF gM]) rfl (fun _=>rfl) (fun bs aq gd an K ad=>aO fS eU fc (d+1) (by omega) (by omega) (by omega) (by omega) (bs.getD 0 0) aq gd (ch.up an aC) K (fun eJ bO bF bG aL=>ad (eJ,bO,bF,bG) aL)) ?_;rintro ⟨q9,gE,gF,gM⟩ dR;dsimp only at dR;have AT:=dR.bh;have AU:=dR.ab;have AV:=dR.bW)
        |refine ap cz xs ([q9]:List ar) rfl (by simp only [List.map_cons,List.map_nil,er];try rfl) (fun a=>by rw [er];exact ⟨rfl,rfl⟩) (by (simp only [List.length_append,List.length_cons,List.length_nil];omega)) ?_
        |refine ax (by omega) ?_
        |refine ⟨?_,?_,trivial⟩
     refine cl ?_
     refine dc [0,1,4,5,6] 41 ((decide (0<(bQ.length:Int)))&&(!(Op.bytesLess (U bQ ((bQ.length:Int)- 1)) dM))) ?_ ?_
     · repeat' first
        |exact ⟨⟨_,rfl,by grind [bT.val]⟩,rfl⟩
        |refine ax (fun _=>?_) (fun _=>?_)
        |refine ax (by omega) ?_
        |refine eF (by omega) ?_
     refine ax (fun J=>?_) (fun J=>?_)
     · replace J:(0<(bQ.length:Int))∧(Op.bytesLess (U bQ ((bQ.length:Int)- 1)) dM=false):=⟨(of_decide_eq_true (fC J)),(dt (gS J))⟩
       refine cc 72 [0] (σ:=Int×Int) (fun ⟨ev,eQ⟩=>(cT=0→ev=3∧eQ=cJ l n ee)∧(cT≠0→ev=cT∧eQ=c7)∧0<ev) (fun ⟨ev,eQ⟩=> .cM []) (fun ⟨ev,eQ⟩=>[bg l n ee ev eQ]) rfl (fun _=>rfl) (fun bs aq gd an K ad=>oe l n ee cT c7 3 (bs.getD 0 0) (by decide) av (by omega) (by omega) (by omega) aq gd K (fun z=>ad (3,cJ l n ee) ⟨fun _=>⟨rfl,rfl⟩,fun y=>absurd z y,by decide⟩) (fun z=>ad (cT,c7) ⟨fun y=>absurd y z,fun _=>⟨rfl,rfl⟩,by omega⟩)) ?_
       rintro ⟨ev,eQ⟩ eC
       dsimp only at eC
       obtain ⟨O8,O9,Pa⟩:=eC
       refine ⟨(ee,ev,eQ),⟨rfl,rfl⟩,⟨by omega,by omega,by omega,e6.fail ((e6.step nw.2.2.2 cH).to fun _=>O1 J) O8 O9 Pa⟩⟩
     replace J:((bQ.length:Int)≤0)∨(Op.bytesLess (U bQ ((bQ.length:Int)- 1)) dM=true):=((gT J).imp (fun q=>(Int.not_lt.1 (of_decide_eq_false q))) (fun q=>(dy q)))
     refine ⟨(ee,cT,c7),⟨rfl,rfl⟩,⟨by omega,by omega,by omega,(e6.step nw.2.2.2 cH).to fun _=>O2 J⟩⟩
   refine cl ?_
   refine ax (fun ak=>?_) (fun ak=>?_)
   · refine cc 72 [0] (σ:=al×Int×Int×Int) (fun ⟨gp,dW,dY,eD⟩=>(bj l (ck l n 4 ([44]:List UInt8) a2) gp a2 az bo dW dY eD)∧(dY≠0→gp=[])) (fun ⟨gp,dW,dY,eD⟩=>aR gp) (fun ⟨gp,dW,dY,eD⟩=>[bg l n dW dY eD]) rfl (fun _=>rfl) (fun bs aq gd an K ad=>iF l n a2 az bo 4 ([44]:List UInt8) (bs.getD 0 0) av (by omega) (by omega) (by omega) aq gd K (fun cP bO bF bG aL au=>ad (cP,bO,bF,bG) ⟨aL,au⟩)) ?_
     rintro ⟨gp,dW,dY,eD⟩ e1
     dsimp only at e1
     obtain ⟨e1,S0⟩:=e1
     have u1:=e1.bh
     have u2:=e1.ab
     have u3:=e1.bW
     refine ⟨(dW,dY,eD),⟨rfl,rfl⟩,⟨by omega,by omega,by omega,e6.step (p:=ck l n 4 [44] a2) (x:=gp) (g:=fun _ a=>Ba (cn l n k) l n aZ bQ xs a) (i9.to fun _=>A7 ak) e1⟩⟩
   refine ⟨(a2,az,bo),⟨rfl,rfl⟩,⟨by omega,by omega,by omega,i9.to fun _=>A8 ak⟩⟩
 refine rt rfl fun _=>?_
 show K (.agg [.int .i64 9, .int .i64 0, .int .i64 0, .str ([]:al), .slice false [], .slice false [], .str ([]:al), .str ([]:al), .slice false (xs.map cz), .slice false (bQ.map cp)]) (ae.a1 m [(r, .cells [.slice false (l.map bS), .int .i64 a2, .int .i64 n, .err 72 az, .int .i64 bo])])
 refine ga (ad (.mk 9 cS [] [] xs bQ) _ _ _ ?_) ?_
 · exact e6.bad i9 I au (by omega) (by omega) (by omega)
 · simp only [cE,ar.a,ar.n];rfl
end Go.Proofs
end
section
namespace Go.Proofs
open Go Go.bb Go.b4
set_option maxRecDepth 100000
theorem Pb {l:List Tok} {n k a e q cd ay bZ:Int} {s x:al} (au:e=0) (an:bV l k s a=true) (o:bj l (ck l n k s a) x a e q cd ay bZ):x=(U l a).2.2∧cd=a+1∧ay=0:=by
 have h:=o.ok au
 rw [ck,if_pos an] at h
 have cD:ay=0:=h.f
 obtain ⟨I,J⟩:=h.y cD
 exact ⟨I,J,cD⟩
theorem bj.Pc {l:List Tok} {α:Type} {x:α} {a e q ay bZ:Int} (aA:a<l.length) (he:e=0) (I:ay=0):bj l (.ok x (a+1):bm α) x a e q (a+1) ay bZ:=
 ⟨fun _=>⟨I,fun _=>⟨rfl,rfl⟩,fun h=>absurd I h⟩,fun h=>absurd he h,by omega,by omega,by omega,fun _=>by omega⟩
set_option maxHeartbeats 4000000 in
theorem Pd (l:List Tok) (n a e q:Int) (k:Nat) (d:Int) (r:Nat) (aO:∀a e q d:Int,d=7- (k:Int)→0≤a→a≤l.length→0≤e→∀(r:Nat) (m:ae),eG [r] m→ch m→∀(K:aa→ae→Prop),(∀bD b9 bY ct,bj l (cn l n k a) bD a e q b9 bY ct→K (cE bD) (ae.a1 m [(r, .cells [.slice false (l.map bS), .int .i64 b9, .int .i64 n, .err 72 bY, .int .i64 ct])]))→bp Tryd.prog 71 [.ptr ⟨r,0,none⟩, .int .i64 d] (ae.a1 m [(r, .cells [.slice false (l.map bS), .int .i64 a, .int .i64 n, .err 72 e, .int .i64 q])]) K) (av:l.length≤5000) (aA:0≤a) (aN:a≤l.length) (he:0≤e) (hw:nz l) (ai:k≤7) (a7:d+1=7- (k:Int)) (au:e=0) (m:ae) (gd:eG [r] m) (K:aa→ae→Prop) (aC:ch m) (ad:∀bD b9 bY ct,bj l (cn l n (k+1) a) bD a e q b9 bY ct→K (cE bD) (ae.a1 m [(r, .cells [.slice false (l.map bS), .int .i64 b9, .int .i64 n, .err 72 bY, .int .i64 ct])])):bp Tryd.prog 71 [.ptr ⟨r,0,none⟩, .int .i64 d] (ae.a1 m [(r, .cells [.slice false (l.map bS), .int .i64 a, .int .i64 n, .err 72 e, .int .i64 q])]) K:=by
 refine enter (c:=dF [] [] [] [11999] [11] [r]) (vs:=[.loc 0 0, .aI (.int .i64 d)]) (L:=[bg l n a e q]) (m:=m) false cw Tryd.mixed Tryd.func71 rfl (k:=2) (by show du [11999] _ _ _=true;decide+kernel) rfl (gd.ia rfl) ?_
 refine aU ?_
 refine ax (fun I=>?_) (fun I=>?_)
 · omega
 refine aU ?_
 refine ax (fun J=>?_) (fun J=>?_)
 · refine cc 72 [0] (σ:=(Unit) ⊕ (Unit)) (Sum.elim (fun _=>e=0∧bV l 4 ([40]:List UInt8) a=true) (fun _=>e=0→bV l 4 ([40]:List UInt8) a=false)) (Sum.elim (fun _=> .b (.lit true)) (fun _=> .b (.lit false))) (Sum.elim (fun _=>[bg l n (a+1) e q]) (fun _=>[bg l n a e q])) rfl (fun x=>by rcases x with _|_<;>rfl) (fun bs aq gd an K ad=>hz l n a e q 4 ([40]:List UInt8) (bs.getD 0 0) av (by omega) (by omega) (by omega) aq gd K (fun z w=>ad (.inl ()) ⟨z,w⟩) (fun z=>ad (.inr ()) z)) ?_
   rintro (_|_) bA
   · try dsimp only [Sum.elim_inl,Sum.elim_inr] at bA
     dsimp only [Sum.elim_inl,Sum.elim_inr]
     have uX:=hi bA.2
     refine cc 72 [0] (σ:=ar×Int×Int×Int) (fun ⟨gW,ee,cT,c7⟩=>bj l (nA (cn l n k) l n (a+1)) gW (a+1) e q ee cT c7) (fun ⟨gW,ee,cT,c7⟩=>ic gW) (fun ⟨gW,ee,cT,c7⟩=>[bg l n ee cT c7]) rfl (fun _=>rfl) (fun bs aq gd an K ad=>OQ l n (a+1) e q k d (bs.getD 0 0) aO av (by omega) (by omega) (by omega) ai a7 aq gd K (ch.up an aC) (fun eJ bO bF bG aL=>ad (eJ,bO,bF,bG) aL)) ?_
     rintro ⟨gW,ee,cT,c7⟩ cH
     dsimp only at cH
     have uY:=cH.bh
     have jt:=cH.ab
     have uZ:=cH.bW
     refine rt rfl fun _=>?_
     show K (.agg [.int .i64 gW.kind, .int .i64 gW.v.kind, .int .i64 gW.v.n, .str gW.v.s, .slice false (gW.v.l.map cC), .slice false (gW.v.f.map cL), .str gW.s, .str gW.t, .slice false (gW.a.map cz), .slice false (gW.n.map cp)]) (ae.a1 m [(r, .cells [.slice false (l.map bS), .int .i64 ee, .int .i64 n, .err 72 cT, .int .i64 c7])])
     refine ad gW _ _ _ ?_
     rw [cn,if_pos bA.2]
     exact bj.from au (by omega) cH
   try dsimp only [Sum.elim_inl,Sum.elim_inr] at bA
   dsimp only [Sum.elim_inl,Sum.elim_inr]
   refine cc 72 [0] (σ:=(Unit) ⊕ (Unit)) (Sum.elim (fun _=>e=0∧bV l 4 ([91]:List UInt8) a=true) (fun _=>e=0→bV l 4 ([91]:List UInt8) a=false)) (Sum.elim (fun _=> .b (.lit true)) (fun _=> .b (.lit false))) (Sum.elim (fun _=>[bg l n (a+1) e q]) (fun _=>[bg l n a e q])) rfl (fun x=>by rcases x with _|_<;>rfl) (fun bs aq gd an K ad=>hz l n a e q 4 ([91]:List UInt8) (bs.getD 0 0) av (by omega) (by omega) (by omega) aq gd K (fun z w=>ad (.inl ()) ⟨z,w⟩) (fun z=>ad (.inr ()) z)) ?_
   rintro (_|_) dA
   · try dsimp only [Sum.elim_inl,Sum.elim_inr] at dA
     dsimp only [Sum.elim_inl,Sum.elim_inr]
     have FZ:=hi dA.2
     refine aU ?_
     refine dE (σ:=Int×Int×Int×List ar) [] [0,1,4,5] 3 (fun ⟨a2,az,bo,xs⟩=>([(0, .loc 0 0),(1,aK d),(4, .loc 1 0),(5, .loc 2 0)],[bg l n a2 az bo, .cells [aK 0,aK 0,aK 0,aR ([]), .own [], .own [],aR ([]),aR ([]), .own [], .own []], .cells [aK 8,aK 0,aK 0,aR ([]:al), .own [], .own [],aR ([]:al),aR ([]:al), .own (xs.map cz), .own []]],m)) (fun ⟨a2,az,bo,xs⟩=>0≤a2∧a+1≤a2∧a2≤l.length∧0≤az∧(az=0→(xs.length:Int)≤a2)∧xs.length≤5001∧∃aZ:Nat,(az=0→l.length- a2<aZ)∧e6 (j3 (cn l n k) l n (l.length+1) (a+1) []) az bo (j3 (cn l n k) l n aZ a2 xs)) (fun ⟨a2,az,bo,xs⟩=>if az=0 then l.length- a2.toNat+1 else 0) (a+1,e,q,[]) ⟨rfl,rfl⟩ ?_ ?_
     · try dsimp only
       exact ⟨by omega,by omega,by omega,by omega,fun _=>by simp;omega,by simp,l.length+1,fun _=>by omega,⟨fun _=>rfl,fun h=>absurd au h⟩⟩
     rintro ⟨a2,az,bo,xs⟩ aW
     dsimp only at aW
     obtain ⟨i1,i2,i3,i4,i5,i6,aZ,i8,i9⟩:=aW
     refine aU ?_
     refine cc 72 [0] (σ:=(Unit) ⊕ (Unit)) (Sum.elim (fun _=>az=0∧bV l 4 ([93]:List UInt8) a2=true) (fun _=>az=0→bV l 4 ([93]:List UInt8) a2=false)) (Sum.elim (fun _=> .b (.lit true)) (fun _=> .b (.lit false))) (Sum.elim (fun _=>[bg l n (a2+1) az bo]) (fun _=>[bg l n a2 az bo])) rfl (fun x=>by rcases x with _|_<;>rfl) (fun bs aq gd an K ad=>hz l n a2 az bo 4 ([93]:List UInt8) (bs.getD 0 0) av (by omega) (by omega) (by omega) aq gd K (fun z w=>ad (.inl ()) ⟨z,w⟩) (fun z=>ad (.inr ()) z)) ?_
     rintro (_|_) dR
     · try dsimp only [Sum.elim_inl,Sum.elim_inr] at dR
       dsimp only [Sum.elim_inl,Sum.elim_inr]
       have xh:=hi dR.2
       refine rt rfl fun _=>?_
       show K (.agg [.int .i64 8, .int .i64 0, .int .i64 0, .str ([]:al), .slice false [], .slice false [], .str ([]:al), .str ([]:al), .slice false (xs.map cz), .slice false []]) (ae.a1 m [(r, .cells [.slice false (l.map bS), .int .i64 (a2+1), .int .i64 n, .err 72 az, .int .i64 bo])])
       obtain ⟨aZ,rfl⟩:∃k,aZ=k+1:=⟨aZ- 1,by have:=i8 dR.1;omega⟩
       refine ga (ad (.mk 8 cS [] [] xs []) _ _ _ ?_) ?_
       · rw [cn,if_neg (c8 (bA au)),if_pos dA.2]
         exact bj.from au (by omega) (e6.done (a:=a+1) (e:=e) (q:=q) (i9.to fun _=>O6 dR.2) dR.1 au (by omega) xh)
       · simp only [cE,ar.a,ar.n];rfl
     try dsimp only [Sum.elim_inl,Sum.elim_inr] at dR
     dsimp only [Sum.elim_inl,Sum.elim_inr]
     refine ax (fun ak=>?_) (fun ak=>?_)
     · obtain ⟨aZ,rfl⟩:∃k,aZ=k+1:=⟨aZ- 1,by have:=i8 ak;omega⟩
       rw [O5 (dR ak)] at i9
       have i10:=i8 ak
       have i11:=i5 ak
       refine aU ?_
       refine cl ?_
       refine ax (fun aH=>?_) (fun aH=>?_)
       · refine cc 72 [0] (σ:=al×Int×Int×Int) (fun ⟨iI,gf,ev,eQ⟩=>(bj l (ck l n 4 ([44]:List UInt8) a2) iI a2 az bo gf ev eQ)∧(ev≠0→iI=[])) (fun ⟨iI,gf,ev,eQ⟩=>aR iI) (fun ⟨iI,gf,ev,eQ⟩=>[bg l n gf ev eQ]) rfl (fun _=>rfl) (fun bs aq gd an K ad=>iF l n a2 az bo 4 ([44]:List UInt8) (bs.getD 0 0) av (by omega) (by omega) (by omega) aq gd K (fun cP bO bF bG aL au=>ad (cP,bO,bF,bG) ⟨aL,au⟩)) ?_
         rintro ⟨iI,gf,ev,eQ⟩ eC
         dsimp only at eC
         obtain ⟨eC,F0⟩:=eC
         have F1:=eC.bh
         have F2:=eC.ab
         have AY:=eC.bW
         refine kR cw Tryd.mixed (σ:=Int×Int×Int×ar) (.f 0 (.f 2 (.f 3 (.o 1 (.s 4 (.s 5 (.s 6 (.s 7 (.f 8 (.s 9 .d)))))) (.o 4 (.o 1 (.s 5 (.s 6 (.s 7 (.f 8 (.s 9 .d))))) (.o 5 (.o 1 (.s 6 (.s 7 (.f 8 (.s 9 .d)))) (.o 6 (.s 1 (.s 7 (.f 8 (.s 9 .d)))) .z)) .z)) .z))))) [] [0,1,4,5] 3 (fun ⟨a9,cZ,c1,dj⟩=>([(0, .loc 0 0),(1,aK d),(4, .loc 1 0),(5, .loc 2 0)],[bg l n a9 cZ c1, .cells [aK 0,aK 0,aK 0,aR ([]), .own [], .own [],aR ([]),aR ([]), .own [], .own []], .cells [aK 8,aK 0,aK 0,aR ([]:al), .own [], .own [],aR ([]:al),aR ([]:al), .own ((xs++([dj]:List ar)).map cz), .own []]],m)) (fun ⟨a9,cZ,c1,dj⟩=>bj l (cn l n k gf) dj gf ev eQ a9 cZ c1) (by decide+kernel) ?_ ?_
         · rintro ⟨a9,cZ,c1,dj⟩ dZ
           try dsimp only at dZ
           have sE:=dZ.bh
           have sF:=dZ.ab
           have sG:=dZ.bW
           refine ⟨(a9,cZ,c1,xs++([dj]:List ar)),⟨rfl,rfl⟩,?_,?_⟩
           · try dsimp only
             have a8:=dZ.gt
             have c:=e6.step (e6.step (p:=ck l n 4 [44] a2) (x:=iI) (g:=fun _ a=>(cn l n k a).bind fun x a=>j3 (cn l n k) l n aZ a (xs++[x])) (i9.to fun _=>A7 aH) eC) dZ
             simp only [List.length_append,List.length_cons,List.length_nil]
             exact ⟨by omega,by omega,by omega,by omega,fun aS=>by have:=a8 aS;omega,by omega,aZ,fun aS=>by have:=a8 aS;omega,c⟩
           try dsimp only
           rw [if_pos ak]
           have a8:=dZ.gt
           split<;>omega
         repeat' first
          |refine ⟨(dW,dY,eD,gi),⟨rfl,rfl⟩,e1⟩
          |(refine cc 72 [0] (σ:=ar×Int×Int×Int) (fun ⟨gi,dW,dY,eD⟩=>bj l (cn l n k gf) gi gf ev eQ dW dY eD) (fun ⟨gi,dW,dY,eD⟩=>ic gi) (fun ⟨gi,dW,dY,eD⟩=>[bg l n dW dY eD]) rfl (fun _=>rfl) (fun bs aq gd an K ad=>aO gf ev eQ (d+1) (by omega) (by omega) (by omega) (by omega) (bs.getD 0 0) aq gd (ch.up an aC) K (fun eJ bO bF bG aL=>ad (eJ,bO,bF,bG) aL)) ?_;rintro ⟨gi,dW,dY,eD⟩ e1;dsimp only at e1;have u1:=e1.bh;have u2:=e1.ab;have u3:=e1.bW)
          |refine ap cz xs ([gi]:List ar) rfl (by simp only [List.map_cons,List.map_nil,er];try rfl) (fun a=>by rw [er];exact ⟨rfl,rfl⟩) (by (simp only [List.length_append,List.length_cons,List.length_nil];omega)) ?_
          |refine ax (by omega) ?_
          |refine ⟨?_,?_,trivial⟩
       refine kR cw Tryd.mixed (σ:=Int×Int×Int×ar) (.f 0 (.f 2 (.f 3 (.o 1 (.s 4 (.s 5 (.s 6 (.s 7 (.f 8 (.s 9 .d)))))) (.o 4 (.o 1 (.s 5 (.s 6 (.s 7 (.f 8 (.s 9 .d))))) (.o 5 (.o 1 (.s 6 (.s 7 (.f 8 (.s 9 .d)))) (.o 6 (.s 1 (.s 7 (.f 8 (.s 9 .d)))) .z)) .z)) .z))))) [] [0,1,4,5] 3 (fun ⟨a9,cZ,c1,dj⟩=>([(0, .loc 0 0),(1,aK d),(4, .loc 1 0),(5, .loc 2 0)],[bg l n a9 cZ c1, .cells [aK 0,aK 0,aK 0,aR ([]), .own [], .own [],aR ([]),aR ([]), .own [], .own []], .cells [aK 8,aK 0,aK 0,aR ([]:al), .own [], .own [],aR ([]:al),aR ([]:al), .own ((xs++([dj]:List ar)).map cz), .own []]],m)) (fun ⟨a9,cZ,c1,dj⟩=>bj l (cn l n k a2) dj a2 az bo a9 cZ c1) (by decide+kernel) ?_ ?_
       · rintro ⟨a9,cZ,c1,dj⟩ dZ
         try dsimp only at dZ
         have sE:=dZ.bh
         have sF:=dZ.ab
         have sG:=dZ.bW
         refine ⟨(a9,cZ,c1,xs++([dj]:List ar)),⟨rfl,rfl⟩,?_,?_⟩
         · try dsimp only
           have a8:=dZ.gt
           have c:=e6.step (i9.to fun _=>A8 aH) dZ
           simp only [List.length_append,List.length_cons,List.length_nil]
           exact ⟨by omega,by omega,by omega,by omega,fun aS=>by have:=a8 aS;omega,by omega,aZ,fun aS=>by have:=a8 aS;omega,c⟩
         try dsimp only
         rw [if_pos ak]
         have a8:=dZ.gt
         split<;>omega
       repeat' first
        |refine ⟨(l6,fU,gq,ra),⟨rfl,rfl⟩,gH⟩
        |(refine cc 72 [0] (σ:=ar×Int×Int×Int) (fun ⟨ra,l6,fU,gq⟩=>bj l (cn l n k a2) ra a2 az bo l6 fU gq) (fun ⟨ra,l6,fU,gq⟩=>ic ra) (fun ⟨ra,l6,fU,gq⟩=>[bg l n l6 fU gq]) rfl (fun _=>rfl) (fun bs aq gd an K ad=>aO a2 az bo (d+1) (by omega) (by omega) (by omega) (by omega) (bs.getD 0 0) aq gd (ch.up an aC) K (fun eJ bO bF bG aL=>ad (eJ,bO,bF,bG) aL)) ?_;rintro ⟨ra,l6,fU,gq⟩ gH;dsimp only at gH;have OR:=gH.bh;have OS:=gH.ab;have F7:=gH.bW)
        |refine ap cz xs ([ra]:List ar) rfl (by simp only [List.map_cons,List.map_nil,er];try rfl) (fun a=>by rw [er];exact ⟨rfl,rfl⟩) (by (simp only [List.length_append,List.length_cons,List.length_nil];omega)) ?_
        |refine ax (by omega) ?_
        |refine ⟨?_,?_,trivial⟩
     refine rt rfl fun _=>?_
     show K (.agg [.int .i64 8, .int .i64 0, .int .i64 0, .str ([]:al), .slice false [], .slice false [], .str ([]:al), .str ([]:al), .slice false (xs.map cz), .slice false []]) (ae.a1 m [(r, .cells [.slice false (l.map bS), .int .i64 a2, .int .i64 n, .err 72 az, .int .i64 bo])])
     refine ga (ad (.mk 8 cS [] [] xs []) _ _ _ ?_) ?_
     · rw [cn,if_neg (c8 (bA au)),if_pos dA.2]
       exact bj.from au (by omega) (e6.bad (a:=a+1) (e:=e) (q:=q) i9 ak au (by omega) (by omega) (by omega))
     · simp only [cE,ar.a,ar.n];rfl
   try dsimp only [Sum.elim_inl,Sum.elim_inr] at dA
   dsimp only [Sum.elim_inl,Sum.elim_inr]
   refine cc 72 [0] (σ:=(Unit) ⊕ (Unit)) (Sum.elim (fun _=>e=0∧bV l 4 ([123]:List UInt8) a=true) (fun _=>e=0→bV l 4 ([123]:List UInt8) a=false)) (Sum.elim (fun _=> .b (.lit true)) (fun _=> .b (.lit false))) (Sum.elim (fun _=>[bg l n (a+1) e q]) (fun _=>[bg l n a e q])) rfl (fun x=>by rcases x with _|_<;>rfl) (fun bs aq gd an K ad=>hz l n a e q 4 ([123]:List UInt8) (bs.getD 0 0) av (by omega) (by omega) (by omega) aq gd K (fun z w=>ad (.inl ()) ⟨z,w⟩) (fun z=>ad (.inr ()) z)) ?_
   rintro (_|_) fe
   · try dsimp only [Sum.elim_inl,Sum.elim_inr] at fe
     dsimp only [Sum.elim_inl,Sum.elim_inr]
     have OT:=hi fe.2
     refine cc 72 [0] (σ:=ar×Int×Int×Int) (fun ⟨gk,jc,gN,gO⟩=>bj l (jb (cn l n k) l n (l.length+1) (a+1) [] []) gk (a+1) e q jc gN gO) (fun ⟨gk,jc,gN,gO⟩=>ic gk) (fun ⟨gk,jc,gN,gO⟩=>[bg l n jc gN gO]) rfl (fun _=>rfl) (fun bs aq gd an K ad=>O7 l n (a+1) e q k d (bs.getD 0 0) aO av (by omega) (by omega) (by omega) ai a7 au aq gd K (ch.up an aC) (fun eJ bO bF bG aL=>ad (eJ,bO,bF,bG) aL)) ?_
     rintro ⟨gk,jc,gN,gO⟩ gz
     dsimp only at gz
     have Gb:=gz.bh
     have Gc:=gz.ab
     have A6:=gz.bW
     refine rt rfl fun _=>?_
     show K (.agg [.int .i64 gk.kind, .int .i64 gk.v.kind, .int .i64 gk.v.n, .str gk.v.s, .slice false (gk.v.l.map cC), .slice false (gk.v.f.map cL), .str gk.s, .str gk.t, .slice false (gk.a.map cz), .slice false (gk.n.map cp)]) (ae.a1 m [(r, .cells [.slice false (l.map bS), .int .i64 jc, .int .i64 n, .err 72 gN, .int .i64 gO])])
     refine ad gk _ _ _ ?_
     rw [cn,if_neg (c8 (bA au)),if_neg (c8 (dA au)),if_pos fe.2]
     exact bj.from au (by omega) gz
   try dsimp only [Sum.elim_inl,Sum.elim_inr] at fe
   dsimp only [Sum.elim_inl,Sum.elim_inr]
   refine cc 72 [0] (σ:=(Unit) ⊕ (Unit)) (Sum.elim (fun _=>e=0∧bV l 4 ([45]:List UInt8) a=true) (fun _=>e=0→bV l 4 ([45]:List UInt8) a=false)) (Sum.elim (fun _=> .b (.lit true)) (fun _=> .b (.lit false))) (Sum.elim (fun _=>[bg l n (a+1) e q]) (fun _=>[bg l n a e q])) rfl (fun x=>by rcases x with _|_<;>rfl) (fun bs aq gd an K ad=>hz l n a e q 4 ([45]:List UInt8) (bs.getD 0 0) av (by omega) (by omega) (by omega) aq gd K (fun z w=>ad (.inl ()) ⟨z,w⟩) (fun z=>ad (.inr ()) z)) ?_
   rintro (_|_) fp
   · try dsimp only [Sum.elim_inl,Sum.elim_inr] at fp
     dsimp only [Sum.elim_inl,Sum.elim_inr]
     have S1:=hi fp.2
     refine cc 72 [0] (σ:=ar×Int×Int×Int) (fun ⟨gj,gr,gB,gI⟩=>bj l (l4 l n (-1) (a+1)) gj a e q gr gB gI) (fun ⟨gj,gr,gB,gI⟩=>ic gj) (fun ⟨gj,gr,gB,gI⟩=>[bg l n gr gB gI]) rfl (fun _=>rfl) (fun bs aq gd an K ad=>FW l n (a+1) e q (-1) (bs.getD 0 0) av (by omega) (by omega) (by omega) hw (by omega) au a (by omega) (by omega) (by omega) aq gd K (ch.up an aC) (fun eJ bO bF bG aL=>ad (eJ,bO,bF,bG) aL)) ?_
     rintro ⟨gj,gr,gB,gI⟩ gh
     dsimp only at gh
     have A3:=gh.bh
     have A4:=gh.ab
     have A5:=gh.bW
     refine rt rfl fun _=>?_
     show K (.agg [.int .i64 gj.kind, .int .i64 gj.v.kind, .int .i64 gj.v.n, .str gj.v.s, .slice false (gj.v.l.map cC), .slice false (gj.v.f.map cL), .str gj.s, .str gj.t, .slice false (gj.a.map cz), .slice false (gj.n.map cp)]) (ae.a1 m [(r, .cells [.slice false (l.map bS), .int .i64 gr, .int .i64 n, .err 72 gB, .int .i64 gI])])
     refine ad gj _ _ _ ?_
     rw [cn,if_neg (c8 (bA au)),if_neg (c8 (dA au)),if_neg (c8 (fe au)),if_pos fp.2]
     exact gh
   try dsimp only [Sum.elim_inl,Sum.elim_inr] at fp
   dsimp only [Sum.elim_inl,Sum.elim_inr]
   refine cI [0] [bg l n a e q] (kt (l2 l 2 ([]) a e)) rfl (fun bs aq gd=>sy l n a e q 2 ([]) (bs.getD 0 0) av (by omega) (by omega) (by omega) aq gd) ?_
   refine ax (fun aQ=>?_) (fun aQ=>?_)
   · refine cc 72 [0] (σ:=ar×Int×Int×Int) (fun ⟨da,ff,fg,fw⟩=>bj l (l4 l n 1 a) da a e q ff fg fw) (fun ⟨da,ff,fg,fw⟩=>ic da) (fun ⟨da,ff,fg,fw⟩=>[bg l n ff fg fw]) rfl (fun _=>rfl) (fun bs aq gd an K ad=>FW l n a e q 1 (bs.getD 0 0) av (by omega) (by omega) (by omega) hw (by omega) au a (by omega) (by omega) (by omega) aq gd K (ch.up an aC) (fun eJ bO bF bG aL=>ad (eJ,bO,bF,bG) aL)) ?_
     rintro ⟨da,ff,fg,fw⟩ fT
     dsimp only at fT
     have xi:=fT.bh
     have xj:=fT.ab
     have xk:=fT.bW
     refine rt rfl fun _=>?_
     show K (.agg [.int .i64 da.kind, .int .i64 da.v.kind, .int .i64 da.v.n, .str da.v.s, .slice false (da.v.l.map cC), .slice false (da.v.f.map cL), .str da.s, .str da.t, .slice false (da.a.map cz), .slice false (da.n.map cp)]) (ae.a1 m [(r, .cells [.slice false (l.map bS), .int .i64 ff, .int .i64 n, .err 72 fg, .int .i64 fw])])
     refine ad da _ _ _ ?_
     rw [cn,if_neg (c8 (bA au)),if_neg (c8 (dA au)),if_neg (c8 (fe au)),if_neg (c8 (fp au)),if_pos (p3 aQ).2]
     exact fT
   refine cI [0] [bg l n a e q] (kt (l2 l 3 ([]) a e)) rfl (fun bs aq gd=>sy l n a e q 3 ([]) (bs.getD 0 0) av (by omega) (by omega) (by omega) aq gd) ?_
   refine ax (fun bw=>?_) (fun bw=>?_)
   · refine cc 72 [0] (σ:=al×Int×Int×Int) (fun ⟨lq,l5,hA,h1⟩=>(bj l (ck l n 3 ([]) a) lq a e q l5 hA h1)∧(hA≠0→lq=[])) (fun ⟨lq,l5,hA,h1⟩=>aR lq) (fun ⟨lq,l5,hA,h1⟩=>[bg l n l5 hA h1]) rfl (fun _=>rfl) (fun bs aq gd an K ad=>iF l n a e q 3 ([]) (bs.getD 0 0) av (by omega) (by omega) (by omega) aq gd K (fun cP bO bF bG aL au=>ad (cP,bO,bF,bG) ⟨aL,au⟩)) ?_
     rintro ⟨lq,l5,hA,h1⟩ kA
     dsimp only at kA
     obtain ⟨kA,S2⟩:=kA
     have OK:=kA.bh
     have OL:=kA.ab
     have OM:=kA.bW
     refine rt rfl fun _=>?_
     show K (.agg [.int .i64 1, .int .i64 2, .int .i64 0, .str lq, .slice false [], .slice false [], .str ([]), .str ([]), .slice false [], .slice false []]) (ae.a1 m [(r, .cells [.slice false (l.map bS), .int .i64 l5, .int .i64 n, .err 72 hA, .int .i64 h1])])
     obtain ⟨cf,dQ,eN⟩:=Pb au (p3 bw).2 kA
     have bN:=hi (p3 bw).2
     subst cf;subst dQ
     refine ad (gn (.mk 2 0 (U l a).2.2 [] [])) _ _ _ ?_
     rw [cn,if_neg (c8 (bA au)),if_neg (c8 (dA au)),if_neg (c8 (fe au)),if_neg (c8 (fp au)),if_neg (c8 (q2 aQ au)),if_pos (p3 bw).2]
     exact bj.Pc bN au eN
   refine cc 72 [0] (σ:=ar×Int×Int×Int) (fun ⟨hL,l9,ig,iJ⟩=>bj l (iH (cn l n k) l n a) hL a e q l9 ig iJ) (fun ⟨hL,l9,ig,iJ⟩=>ic hL) (fun ⟨hL,l9,ig,iJ⟩=>[bg l n l9 ig iJ]) rfl (fun _=>rfl) (fun bs aq gd an K ad=>OJ l n a e q k d (bs.getD 0 0) aO av (by omega) (by omega) (by omega) au ai a7 aq gd K (ch.up an aC) (fun eJ bO bF bG aL=>ad (eJ,bO,bF,bG) aL)) ?_
   rintro ⟨hL,l9,ig,iJ⟩ lr
   dsimp only at lr
   have OY:=lr.bh
   have OZ:=lr.ab
   have O0:=lr.bW
   refine rt rfl fun _=>?_
   show K (.agg [.int .i64 hL.kind, .int .i64 hL.v.kind, .int .i64 hL.v.n, .str hL.v.s, .slice false (hL.v.l.map cC), .slice false (hL.v.f.map cL), .str hL.s, .str hL.t, .slice false (hL.a.map cz), .slice false (hL.n.map cp)]) (ae.a1 m [(r, .cells [.slice false (l.map bS), .int .i64 l9, .int .i64 n, .err 72 ig, .int .i64 iJ])])
   refine ad hL _ _ _ ?_
   rw [cn,if_neg (c8 (bA au)),if_neg (c8 (dA au)),if_neg (c8 (fe au)),if_neg (c8 (fp au)),if_neg (c8 (q2 aQ au)),if_neg (c8 (q2 bw au))]
   exact lr
 exact absurd au J
end Go.Proofs
end
section
namespace Go.Proofs
open Go Go.bb Go.b4
set_option maxRecDepth 100000
set_option maxHeartbeats 2000000 in
theorem Ge (l:List Tok) (n a e q:Int) (k:Nat) (d:Int) (r:Nat) (av:l.length≤5000) (aA:0≤a) (aN:a≤l.length) (he:0≤e) (aS:e≠0∨(k=0∧d=7)) (m:ae) (gd:eG [r] m) (K:aa→ae→Prop) (aC:ch m) (ad:∀bD b9 bY ct,bj l (cn l n k a) bD a e q b9 bY ct→K (cE bD) (ae.a1 m [(r, .cells [.slice false (l.map bS), .int .i64 b9, .int .i64 n, .err 72 bY, .int .i64 ct])])):bp Tryd.prog 71 [.ptr ⟨r,0,none⟩, .int .i64 d] (ae.a1 m [(r, .cells [.slice false (l.map bS), .int .i64 a, .int .i64 n, .err 72 e, .int .i64 q])]) K:=by
 refine enter (c:=dF [] [] [] [] [] [r]) (vs:=[.loc 0 0, .aI (.int .i64 d)]) (L:=[bg l n a e q]) (m:=m) false cw Tryd.mixed Tryd.func71 rfl (k:=2) (by show du [] _ _ _=true;decide+kernel) rfl (gd.ia rfl) ?_
 refine aU ?_
 refine ax (fun I=>?_) (fun I=>?_)
 · refine cc 72 [0] (σ:=Int×Int) (fun ⟨bt,bP⟩=>(e=0→bt=2∧bP=cJ l n a)∧(e≠0→bt=e∧bP=q)∧0<bt) (fun ⟨bt,bP⟩=> .cM []) (fun ⟨bt,bP⟩=>[bg l n a bt bP]) rfl (fun _=>rfl) (fun bs aq gd an K ad=>oe l n a e q 2 (bs.getD 0 0) (by decide) av (by omega) (by omega) (by omega) aq gd K (fun z=>ad (2,cJ l n a) ⟨fun _=>⟨rfl,rfl⟩,fun y=>absurd z y,by decide⟩) (fun z=>ad (e,q) ⟨fun y=>absurd y z,fun _=>⟨rfl,rfl⟩,by omega⟩)) ?_
   rintro ⟨bt,bP⟩ bA
   dsimp only at bA
   obtain ⟨sC,p4,u0⟩:=bA
   refine aU ?_
   refine ax (fun J=>?_) (fun J=>?_)
   · exact absurd J (by omega)
   refine cI [0] [bg l n a bt bP] (ic hj) rfl (fun bs aq gd=>FX l n a bt bP d (bs.getD 0 0) av (by omega) (by omega) (by omega) (by omega) aq gd) ?_
   refine rt rfl fun _=>?_
   show K (.agg [.int .i64 hj.kind, .int .i64 hj.v.kind, .int .i64 hj.v.n, .str hj.v.s, .slice false (hj.v.l.map cC), .slice false (hj.v.f.map cL), .str hj.s, .str hj.t, .slice false (hj.a.map cz), .slice false (hj.n.map cp)]) (ae.a1 m [(r, .cells [.slice false (l.map bS), .int .i64 a, .int .i64 n, .err 72 bt, .int .i64 bP])])
   refine ad hj _ _ _ ?_
   by_cases au:e=0
   · obtain ⟨rfl,_⟩:=aS.resolve_left (fun h=>h au)
     rw [cn]
     exact bj.bad _ aN sC p4 u0
   · obtain ⟨rfl,rfl⟩:=p4 au
     exact bj.stuck au he aN
 refine aU ?_
 refine ax (fun ak=>?_) (fun ak=>?_)
 · exact absurd ak (by omega)
 refine cI [0] [bg l n a e q] (ic hj) rfl (fun bs aq gd=>FX l n a e q d (bs.getD 0 0) av (by omega) (by omega) (by omega) (by omega) aq gd) ?_
 refine rt rfl fun _=>?_
 show K (.agg [.int .i64 hj.kind, .int .i64 hj.v.kind, .int .i64 hj.v.n, .str hj.v.s, .slice false (hj.v.l.map cC), .slice false (hj.v.f.map cL), .str hj.s, .str hj.t, .slice false (hj.a.map cz), .slice false (hj.n.map cp)]) (ae.a1 m [(r, .cells [.slice false (l.map bS), .int .i64 a, .int .i64 n, .err 72 e, .int .i64 q])])
 refine ad hj _ _ _ ?_
 exact bj.stuck (by omega) he aN
theorem u4 (l:List Tok) (n:Int) (av:l.length≤5000) (hw:nz l):∀(k:Nat),k≤7→∀a e q d:Int,d=7- (k:Int)→0≤a→a≤l.length→0≤e→∀(r:Nat) (m:ae),eG [r] m→ch m→∀(K:aa→ae→Prop),(∀bD b9 bY ct,bj l (cn l n k a) bD a e q b9 bY ct→K (cE bD) (ae.a1 m [(r, .cells [.slice false (l.map bS), .int .i64 b9, .int .i64 n, .err 72 bY, .int .i64 ct])]))→bp Tryd.prog 71 [.ptr ⟨r,0,none⟩, .int .i64 d] (ae.a1 m [(r, .cells [.slice false (l.map bS), .int .i64 a, .int .i64 n, .err 72 e, .int .i64 q])]) K
 |0,_=>fun a e q d a7 aA aN he r m gd aC K ad=>Ge l n a e q 0 d r av aA aN he (.inr ⟨rfl,by omega⟩) m gd K aC ad
 |k+1,ai=>fun a e q d a7 aA aN he r m gd aC K ad=>by
  by_cases au:e=0
  · exact Pd l n a e q k d r (u4 l n av hw k (by omega)) av aA aN he hw (by omega) (by omega) au m gd K aC ad
  · exact Ge l n a e q (k+1) d r av aA aN he (.inl au) m gd K aC ad
end Go.Proofs
end
section
namespace Go.Proofs
open Go Go.bb Go.b4
set_option maxRecDepth 100000
theorem Gf (f:UInt8→Bool):∀(l:al),l.take (l.takeWhile f).length=l.takeWhile f
 |[]=>rfl
 |c::r=>by
  cases h:f c with
  |true=>simp only [List.takeWhile_cons,h,if_true,List.length_cons,List.take_succ_cons,Gf f r]
  |false=>simp [h]
theorem Pe (f:UInt8→Bool) (s:al) {a:Int} (aA:0≤a):sub s a (cG f s a)=(s.drop a.toNat).takeWhile f:=by
 have e:(cG f s a- a).toNat=((s.drop a.toNat).takeWhile f).length:=by
  simp only [cG,runN];omega
 rw [sub,e,Gf]
theorem Gg (f:UInt8→Bool):∀(l:al),∀c∈l.takeWhile f,f c=true
 |[],c,h=>by cases h
 |x::r,c,h=>by
  cases ao:f x with
  |true=>
   simp only [List.takeWhile_cons,ao,if_true,List.mem_cons] at h
   rcases h with rfl|h
   · exact ao
   · exact Gg f r c h
  |false=>simp [ao] at h
theorem Pf {s:al} {a:Int} (aA:0≤a) (aN:a<s.length) (h:(eP s a).1=2):(eP s a).2.1≠[]∧(eP s a).2.1.length≤10∧∀c∈(eP s a).2.1,48≤c.toNat∧c.toNat≤57:=by
 unfold eP at h ⊢
 split at h
 · split at h<;>simp at h
 · rename_i I
   split at h
   · rename_i J
     split at h
     · simp at h
     · rename_i ak
       rw [if_neg I,if_pos J,if_neg ak]
       have e:=Pe dK s aA
       have av:(cG dK s a- a)=(((s.drop a.toNat).takeWhile dK).length:Int):=by
        simp only [cG,runN];omega
       refine ⟨?_,?_,?_⟩
       · rw [e]
         have a7:=iZ aA aN
         rw [a7,List.takeWhile_cons,J];simp
       · rw [e];show (List.takeWhile dK (List.drop a.toNat s)).length≤10;omega
       · rw [e];intro c ah
         have:=uV.1 (Gg dK _ c ah)
         omega
   · split at h
     · split at h<;>simp at h
     · split at h
       · simp at h
       · split at h<;>simp at h
theorem xl (s:al):∀(n:Nat) (a:Int) (out:List Tok),0≤a→nz out→nz (fB n s a out).1
 |0,a,out,_,h=>by rw [fB];exact h
 |n+1,a,out,aA,h=>by
  rw [fB]
  split
  · rename_i aN
    split
    · exact xl s n _ _ (by omega) h
    · split
      · exact xl s n _ _ (by have:=q1 od (s:=s) aA;omega) h
      · split
        · intro t an;cases an
        · rename_i ag
          have he:(eP s a).2.2.2=0:=by simpa using ag
          refine xl s n _ _ (by have:=(FK aA aN he).1;omega) fun t an J=>?_
          rcases List.mem_append.1 an with an|an
          · exact h t an J
          · rw [List.mem_singleton.1 an] at J ⊢
            exact Pf aA aN J
  · exact h
theorem Pg (s:al):nz (dL s).1:=by
 unfold dL
 split
 · intro t an;cases an
 · exact xl s _ _ _ (by omega) fun t an=>by cases an
end Go.Proofs
end
section
namespace Go.Proofs
open Go Go.bb Go.b4
set_option maxRecDepth 100000
mutual
def gu:ar→Int
 | .mk _ _ _ _ a _=>j4 a+1
def j4:List ar→Int
 |[]=>0
 |e::r=>gu e+j4 r
end
mutual
def hB:ar→Int
 | .mk _ _ _ _ a _=>j5 a+1
def j5:List ar→Int
 |[]=>0
 |e::r=>max (hB e) (j5 r)
end
theorem Gh (e:ar):gu e=j4 e.a+1:=by cases e with|mk k v s t a n=>simp only [gu,ar.a]
theorem Gi (e:ar):hB e=j5 e.a+1:=by cases e with|mk k v s t a n=>simp only [hB,ar.a]
theorem Ph {l:List ar} {i:Int} (aA:0≤i) (ab:i<l.length):j4 (l.drop i.toNat)=gu (U l i)+j4 (l.drop (i+1).toNat):=by rw [iZ aA ab,j4]
theorem Pj {l:List ar} {i:Int} (aA:0≤i) (ab:i<l.length):j5 (l.drop i.toNat)=max (hB (U l i)) (j5 (l.drop (i+1).toNat)):=by rw [iZ aA ab,j5]
mutual
theorem xm:∀e:ar,1≤gu e∧gu e≤dN e∧1≤hB e∧hB e≤gu e
 | .mk k v s t a n=>by
   have h:=xn a
   simp only [gu,hB,dN]
   omega
theorem xn:∀l:List ar,0≤j4 l∧j4 l≤iG l∧0≤j5 l∧j5 l≤j4 l
 |[]=>by simp [j4,j5,iG]
 |e::r=>by
  have I:=xm e
  have J:=xn r
  simp only [j4,j5,iG]
  omega
end
end Go.Proofs
end
section
namespace Go.Proofs
open Go Go.bb Go.b4
set_option maxRecDepth 100000
set_option maxHeartbeats 1000000 in
theorem Pk (k:Nat) (e:ar) (d fV:Int) (p:Nat) (aO:∀x:ar,dN x<k→∀d fV:Int,0≤d→d≤100→0≤fV→fV≤60→∀(p:Nat) (m:ae),eG [p] m→∀(K:aa→ae→Prop),(∀eI,eI=fV- gu x∧hB x+d≤7∧gu x≤fV→K (.bool true) (ae.a1 m [(p, .cells [.int .i64 eI])]))→(∀eI,¬(hB x+d≤7∧gu x≤fV)∧-1≤eI∧eI≤fV→K (.bool false) (ae.a1 m [(p, .cells [.int .i64 eI])]))→bp Tryd.prog 72 [cE x, .int .i64 d, .ptr ⟨p,0,none⟩] (ae.a1 m [(p, .cells [.int .i64 fV])]) K) (a7:dN e<k+1) (Pl:0≤d) (bZ:d≤100) (bo:0≤fV) (gK:fV≤60) (m:ae) (gd:eG [p] m) (K:aa→ae→Prop) (fa:∀eI,eI=fV- gu e∧hB e+d≤7∧gu e≤fV→K (.bool true) (ae.a1 m [(p, .cells [.int .i64 eI])])) (eg:∀eI,¬(hB e+d≤7∧gu e≤fV)∧-1≤eI∧eI≤fV→K (.bool false) (ae.a1 m [(p, .cells [.int .i64 eI])])):bp Tryd.prog 72 [cE e, .int .i64 d, .ptr ⟨p,0,none⟩] (ae.a1 m [(p, .cells [.int .i64 fV])]) K:=by
 have gv:=xm e
 have cf:=Gh e
 have dQ:=Gi e
 have eN:=xn e.a
 refine enter (c:=dF [] [0] [2] [] [] [p]) (vs:=[.aI (cE e), .aI (.int .i64 d), .loc 0 0]) (L:=[.cells [aK fV]]) (m:=m) false cw Tryd.mixed Tryd.func72 rfl (k:=3) (by show du [] _ _ _=true;decide+kernel) rfl (gd.ia rfl) ?_
 refine ⟨fun b2=>?_⟩
 have ob:e.v.s.length≤140737488355328:=(b2 0 3 (Nat.le_of_ble_eq_true rfl))
 have pX:e.v.l.length≤140737488355328:=dT (b2 0 4 (Nat.le_of_ble_eq_true rfl))
 have Bc:e.v.f.length≤140737488355328:=dT (b2 0 5 (Nat.le_of_ble_eq_true rfl))
 have Bd:e.s.length≤140737488355328:=(b2 0 6 (Nat.le_of_ble_eq_true rfl))
 have Be:e.t.length≤140737488355328:=(b2 0 7 (Nat.le_of_ble_eq_true rfl))
 have Bf:e.a.length≤140737488355328:=dT (b2 0 8 (Nat.le_of_ble_eq_true rfl))
 have Bg:e.n.length≤140737488355328:=dT (b2 0 9 (Nat.le_of_ble_eq_true rfl))
 refine ax (by omega) ?_
 refine aU ?_
 refine dc [1,2,3] 21 ((decide (6<d))||(decide (fV- 1<0))) ?_ ?_
 · repeat' first
    |exact ⟨⟨_,rfl,by grind [bT.val]⟩,rfl⟩
    |refine ax (fun _=>?_) (fun _=>?_)
 refine ax (fun I=>?_) (fun I=>?_)
 · replace I:(6<d)∨(fV- 1<0):=((dD I).imp (fun q=>(of_decide_eq_true q)) (fun q=>(of_decide_eq_true q)))
   refine rt rfl fun _=>?_
   show K (.bool false) (ae.a1 m [(p, .cells [.int .i64 (fV- 1)])])
   exact eg _ ⟨by omega,by omega,by omega⟩
 replace I:(d≤6)∧(0≤fV- 1):=⟨(Int.not_lt.1 (of_decide_eq_false (b8 I))),(Int.not_lt.1 (of_decide_eq_false (dC I)))⟩
 refine aU ?_
 refine cl ?_
 refine dE (σ:=Int×Int) [] [1,2,23,24,25] 2 (fun ⟨i,f2⟩=>([(1,aK d),(2, .loc 0 0),(23,aX (e.a.map cz)),(24,aK (e.a.length:Int)),(25,aK i)],[.cells [aK f2], .cells [aK e.kind,aK e.v.kind,aK e.v.n,aR e.v.s,aX (e.v.l.map cC),aX (e.v.f.map cL),aR e.s,aR e.t,aX (e.a.map cz),aX (e.n.map cp)]],m)) (fun ⟨i,f2⟩=>0≤i∧i≤e.a.length∧0≤f2∧f2≤fV∧gu e=fV- f2+j4 (e.a.drop i.toNat)∧hB e≤max (7- d) (j5 (e.a.drop i.toNat)+1)∧j5 (e.a.drop i.toNat)≤j5 e.a) (fun ⟨i,f2⟩=>e.a.length- i.toNat) (0,fV- 1) ⟨rfl,rfl⟩ ?_ ?_
 · try dsimp only
   exact ⟨by omega,by omega,by omega,by omega,by show _=_+j4 e.a;omega,by show _≤max _ (j5 e.a+1);omega,Int.le_refl _⟩
 rintro ⟨i,f2⟩ aW
 dsimp only at aW
 refine aU ?_
 refine ax (fun J=>?_) (fun J=>?_)
 · have s1:=Ph aW.1 J
   have s2:=Pj aW.1 J
   have ht:=xm (U e.a i)
   have mI:=xn (e.a.drop (i+1).toNat)
   refine aU ?_
   refine fE cE er (by omega) ?_
   refine ax (by omega) ?_
   refine cc 72 [0] (σ:=(Int) ⊕ (Int)) (Sum.elim (fun gX=>gX=f2- gu (U e.a i)∧hB (U e.a i)+(d+1)≤7∧gu (U e.a i)≤f2) (fun gX=>¬(hB (U e.a i)+(d+1)≤7∧gu (U e.a i)≤f2)∧-1≤gX∧gX≤f2)) (Sum.elim (fun gX=> .b (.lit true)) (fun gX=> .b (.lit false))) (Sum.elim (fun gX=>[.cells [aK gX]]) (fun gX=>[.cells [aK gX]])) rfl (fun x=>by rcases x with _|_<;>rfl) (fun bs aq gd an K ad=>aO (U e.a i) (by have:=jy (cy (l:=e.a) (i:=i) aW.1 (by assumption));omega) (d+1) f2 (by omega) (by omega) (by omega) (by omega) (bs.getD 0 0) aq gd K (fun f aL=>ad (.inl f) aL) (fun f aL=>ad (.inr f) aL)) ?_
   rintro (gX|gX) bA
   · try dsimp only [Sum.elim_inl,Sum.elim_inr] at bA
     dsimp only [Sum.elim_inl,Sum.elim_inr]
     refine ax (by omega) ?_
     refine ⟨(i+1,gX),⟨rfl,rfl⟩,?_,?_⟩
     · try dsimp only
       (first|omega|(simp_all;done)|(simp_all;omega))
     try dsimp only
     omega
   try dsimp only [Sum.elim_inl,Sum.elim_inr] at bA
   dsimp only [Sum.elim_inl,Sum.elim_inr]
   refine rt rfl fun _=>?_
   show K (.bool false) (ae.a1 m [(p, .cells [.int .i64 gX])])
   exact eg _ ⟨by omega,by omega,by omega⟩
 rw [List.drop_eq_nil_of_le (by omega)] at aW
 simp only [j4,j5] at aW
 refine rt rfl fun _=>?_
 show K (.bool true) (ae.a1 m [(p, .cells [.int .i64 f2])])
 exact fa _ ⟨by omega,by omega,by omega⟩
end Go.Proofs
end
section
namespace Go.Proofs
open Go Go.bb Go.b4
set_option maxRecDepth 100000
theorem Gj:∀(k:Nat) (e:ar),dN e<k→∀d fV:Int,0≤d→d≤100→0≤fV→fV≤60→∀(p:Nat) (m:ae),eG [p] m→∀(K:aa→ae→Prop),(∀eI,eI=fV- gu e∧hB e+d≤7∧gu e≤fV→K (.bool true) (ae.a1 m [(p, .cells [.int .i64 eI])]))→(∀eI,¬(hB e+d≤7∧gu e≤fV)∧-1≤eI∧eI≤fV→K (.bool false) (ae.a1 m [(p, .cells [.int .i64 eI])]))→bp Tryd.prog 72 [cE e, .int .i64 d, .ptr ⟨p,0,none⟩] (ae.a1 m [(p, .cells [.int .i64 fV])]) K
 |0,_,h=>absurd h (Nat.not_lt_zero _)
 |k+1,e,h=>fun d fV aA I J ak p m gd K fa eg=>Pk k e d fV p (fun x ao=>Gj k x ao) h aA I J ak m gd K fa eg
def jd (l:List al):Prop:=∀i:Int,0≤i→i<l.length→bJ (U l i)=true∧(0<i→Op.bytesLess (U l (i- 1)) (U l i)=true)
structure Gk (e:ar) (many names:Int) (s t:Bool):Prop where
 h:(e.kind=1∧many=0∧names=0∧s=(e.s==[])∧t=(e.t==[]))∨(e.kind=2∧many=0∧names=0∧s=bJ e.s∧t=(e.t==[]))∨((e.kind=3∨e.kind=4)∧many=0∧names=0∧s=bJ e.s∧t=bJ e.t)∨
  ((e.kind=5∨e.kind=6)∧many=2∧names=0∧s=(e.s==[])∧t=(e.t==[]))∨(e.kind=7∧many=3∧names=0∧s=(e.s==[])∧t=(e.t==[]))∨(e.kind=8∧many=e.a.length∧names=0∧s=(e.s==[])∧t=(e.t==[]))∨
  (e.kind=9∧jd e.n∧many=e.a.length∧names=e.a.length∧s=(e.s==[])∧t=(e.t==[]))∨(e.kind=10∧many=1∧names=0∧s=bJ e.s∧t=(e.t==[]))
def ih (e:ar):Prop:=
 (e.kind=1∧e.s=[]∧e.t=[]∧(e.v.kind≤3∧bH e.v=0)∧e.a=[]∧e.n=[])∨
 (e.v=cS∧((e.kind=2∧bJ e.s=true∧e.t=[]∧e.a=[]∧e.n=[])∨((e.kind=3∨e.kind=4)∧bJ e.s=true∧bJ e.t=true∧e.a=[]∧e.n=[])∨((e.kind=5∨e.kind=6)∧e.s=[]∧e.t=[]∧e.a.length=2∧e.n=[])∨
   (e.kind=7∧e.s=[]∧e.t=[]∧e.a.length=3∧e.n=[])∨(e.kind=8∧e.s=[]∧e.t=[]∧e.n=[])∨(e.kind=9∧e.s=[]∧e.t=[]∧e.a.length=e.n.length∧jd e.n)∨(e.kind=10∧bJ e.s=true∧e.t=[]∧e.a.length=1∧e.n=[])))
theorem ih.Gl {e:ar} {many names:Int} {s t:Bool} (w:Gk e many names s t):ih e↔s=true∧t=true∧((e.kind=1∧e.v.kind≤3∧bH e.v=0)∨(e.kind≠1∧e.v=cS))∧(e.a.length:Int)=many∧(e.n.length:Int)=names:=by
 have h3:(e.a.length:Int)=0↔e.a=[]:=by rw [←List.length_eq_zero_iff];omega
 have jo:(e.n.length:Int)=0↔e.n=[]:=by rw [←List.length_eq_zero_iff];omega
 unfold ih
 rcases w.h with ⟨ai,rfl,rfl,rfl,rfl⟩|⟨ai,rfl,rfl,rfl,rfl⟩|⟨ai|ai,rfl,rfl,rfl,rfl⟩|⟨ai|ai,rfl,rfl,rfl,rfl⟩|⟨ai,rfl,rfl,rfl,rfl⟩|⟨ai,rfl,rfl,rfl,rfl⟩|⟨ai,aJ,rfl,rfl,rfl,rfl⟩|⟨ai,rfl,rfl,rfl,rfl⟩<;>simp only [ai,h3,jo]<;>simp<;>grind
theorem ih.no {e:ar} (h:¬(1≤e.kind∧e.kind≤10)):¬ih e:=by
 unfold ih;omega
theorem ih.u5 {e:ar} (h:e.kind=9) (aJ:¬jd e.n):¬ih e:=by
 unfold ih;simp only [h];simp [aJ]
mutual
def kB:ar→Prop
 | .mk k v s t a n=>ih (.mk k v s t a n)∧je a
def je:List ar→Prop
 |[]=>True
 |e::r=>kB e∧je r
end
theorem sL (e:ar):kB e↔ih e∧je e.a:=by cases e with|mk k v s t a n=>simp only [kB,ar.a]
theorem Gm {l:List ar} {i:Int} (aA:0≤i) (ab:i<l.length):je (l.drop i.toNat)↔kB (U l i)∧je (l.drop (i+1).toNat):=by rw [iZ aA ab,je]
open Classical in
noncomputable def iK (e:ar):Int:=if kB e then 0 else 3
open Classical in
noncomputable def dm (e:ar):Int:=if 60<gu e∨6<hB e then 2 else iK e
theorem Bh (v:a6) (m:ae) (K:aa→ae→Prop) (ad:K (.bool (decide (v.kind≤3)&&(bH v==0))) m):bp Tryd.prog 78 [dd v] m K:=by
 refine enter (c:=dF [] [] [1] [] [] []) (vs:=[.aI (dd v)]) (L:=[]) (m:=m) false cw Tryd.mixed Tryd.func78 rfl (k:=1) (by show du [] _ _ _=true;decide+kernel) rfl (Good.nil m) ?_
 refine dc [] 2 ((decide (v.kind≤3))&&((bH v)==0)) ?_ ?_
 · repeat' first
    |exact ⟨⟨_,rfl,by grind [bT.val]⟩,rfl⟩
    |refine ax (fun _=>?_) (fun _=>?_)
    |refine dV (fun _=>Fk v) rfl ?_
 exact b7 rfl fun _=>ad
end Go.Proofs
end
section
namespace Go.Proofs
open Go Go.bb Go.b4
set_option maxRecDepth 100000
theorem u6 {e:ar}:iK e=0↔kB e:=by unfold iK;split<;>simp [*]
theorem Gn {e:ar} (h:kB e):iK e=0:=u6.2 h
theorem Bi {e:ar} (h:¬kB e):iK e=3:=by unfold iK;rw [if_neg h]
theorem Pm {e:ar} (h:iK e≠0):iK e=3:=Bi fun aL=>h (u6.2 aL)
theorem Bj {e:ar} (h:¬ih e):iK e=3:=Bi fun aL=>h ((sL e).1 aL).1
theorem Pn {e:ar} {i:Int} (aA:0≤i) (ab:i<e.a.length) (aM:je e.a↔je (e.a.drop i.toNat)) (h:iK (U e.a i)≠0):iK e=iK (U e.a i):=by
 rw [Pm h]
 refine Bi fun aL=>h (u6.2 ?_)
 exact ((Gm aA ab).1 (aM.1 ((sL e).1 aL).2)).1
theorem Po {e:ar} {i:Int} (aA:0≤i) (ab:i<e.a.length) (aM:je e.a↔je (e.a.drop i.toNat)) (h:iK (U e.a i)=0):je e.a↔je (e.a.drop (i+1).toNat):=
 aM.trans ((Gm aA ab).trans ⟨fun h=>h.2,fun J=>⟨u6.1 h,J⟩⟩)
theorem Pp {e:ar} {i:Int} (ab:(e.a.length:Int)≤i) (aM:je e.a↔je (e.a.drop i.toNat)) (h:ih e):iK e=0:=by
 rw [List.drop_eq_nil_of_le (by omega)] at aM
 exact Gn ((sL e).2 ⟨h,aM.2 (by simp only [je])⟩)
theorem Bk {e:ar} (h:kB e):ih e∧∀x∈e.a,kB x:=by
 refine ⟨((sL e).1 h).1,?_⟩
 have J:=((sL e).1 h).2
 generalize e.a=l at J
 induction l with
 |nil=>intro x ao;cases ao
 |cons a r aO=>
  simp only [je] at J
  intro x ao
  rcases List.mem_cons.1 ao with rfl|ao
  · exact J.1
  · exact aO J.2 x ao
open Classical in
theorem sM {e:ar} (h:dm e=0):kB e∧gu e≤60∧hB e≤6:=by
 unfold dm at h
 split at h
 · cases h
 · rename_i aL
   exact ⟨u6.1 h,by omega,by omega⟩
theorem Pq (e:ar):0≤dm e:=by
 unfold dm iK;split
 · decide
 · split<;>decide
mutual
def hk:ar→Nat
 | .mk _ v _ _ a n=>dq v+n.length+iL a+1
def iL:List ar→Nat
 |[]=>0
 |e::r=>hk e+iL r
end
theorem Pr {l:List al} {i:Int} (h:∀j:Int,0≤j→j<i→bJ (U l j)=true∧(0<j→Op.bytesLess (U l (j- 1)) (U l j)=true)) (I:bJ (U l i)=true) (J:0<i→Op.bytesLess (U l (i- 1)) (U l i)=true):
 ∀j:Int,0≤j→j<i+1→bJ (U l j)=true∧(0<j→Op.bytesLess (U l (j- 1)) (U l j)=true):=fun j aA aG=>by
 rcases Int.lt_or_le j i with aL|aL
 · exact h j aA aL
 · obtain rfl:j=i:=by omega
   exact ⟨I,J⟩
set_option maxHeartbeats 4000000 in
theorem Ps (k:Nat) (e:ar) (aO:∀x:ar,dN x<k→∀(m:ae) (K:aa→ae→Prop),K (.err 72 (iK x)) m→bp Tryd.prog 73 [cE x] m K) (a7:dN e<k+1) (m:ae) (K:aa→ae→Prop) (ad:K (.err 72 (iK e)) m):bp Tryd.prog 73 [cE e] m K:=by
 refine enter (c:=dF [] [0,23] [23,28,29] [] [] []) (vs:=[.aI (cE e)]) (L:=[]) (m:=m) true cw Tryd.mixed Tryd.func73 rfl (k:=1) (by show du [] _ _ _=true;decide+kernel) rfl (Good.nil m) ?_
 refine ⟨fun b2=>?_⟩
 have ob:e.v.s.length≤140737488355328:=(b2 0 3 (Nat.le_of_ble_eq_true rfl))
 have pX:e.v.l.length≤140737488355328:=dT (b2 0 4 (Nat.le_of_ble_eq_true rfl))
 have Bc:e.v.f.length≤140737488355328:=dT (b2 0 5 (Nat.le_of_ble_eq_true rfl))
 have Bd:e.s.length≤140737488355328:=(b2 0 6 (Nat.le_of_ble_eq_true rfl))
 have Be:e.t.length≤140737488355328:=(b2 0 7 (Nat.le_of_ble_eq_true rfl))
 have Bf:e.a.length≤140737488355328:=dT (b2 0 8 (Nat.le_of_ble_eq_true rfl))
 have Bg:e.n.length≤140737488355328:=dT (b2 0 9 (Nat.le_of_ble_eq_true rfl))
 refine uy (σ:=Int×Int×Bool×Bool) [(3,0),(4,0),(5,0),(6,0)] [1,3,4,5,6] 1 (fun ⟨o7,bW,jw,tb⟩=>([(1, .loc 0 0),(3,aK o7),(4,aK bW),(5,kt jw),(6,kt tb)],[.cells [aK e.kind,aK e.v.kind,aK e.v.n,aR e.v.s,aX (e.v.l.map cC),aX (e.v.f.map cL),aR e.s,aR e.t,aX (e.a.map cz),aX (e.n.map cp)]],m)) (fun ⟨o7,bW,jw,tb⟩=>Gk e o7 bW jw tb) ?_ ?_
 · rintro ⟨o7,bW,jw,tb⟩ nw
   refine dc [1,3,4,5,6] 9 (((e.kind==1)&&(decide (e.v.kind≤3)&&(bH e.v==0)))||((!(e.kind==1))&&(gm e.v cS))) ?_ ?_
   · repeat' first
      |exact ⟨⟨_,rfl,by grind [bT.val]⟩,rfl⟩
      |refine ax (fun _=>?_) (fun _=>?_)
      |refine dV (fun _=>Bh e.v) rfl ?_
      |refine dV (fun _=>NI e.v cS) rfl ?_
   refine aU ?_
   refine dc [1] 130 (((((!jw)||(!tb))||(!(((e.kind==1)&&(decide (e.v.kind≤3)&&(bH e.v==0)))||((!(e.kind==1))&&(gm e.v cS)))))||(!((e.a.length:Int)==o7)))||(!((e.n.length:Int)==bW))) ?_ ?_
   · repeat' first
      |exact ⟨⟨_,rfl,by grind [bT.val]⟩,rfl⟩
      |refine ax (fun _=>?_) (fun _=>?_)
      |refine cl ?_
   refine ax (fun I=>?_) (fun I=>?_)
   · replace I:((((jw=false)∨(tb=false))∨(((e.kind≠1)∨((decide (e.v.kind≤3)&&(bH e.v==0))=false))∧((e.kind=1)∨(gm e.v cS=false))))∨((e.a.length:Int)≠o7))∨((e.n.length:Int)≠bW):=((dD I).imp (fun q=>((dD q).imp (fun q=>((dD q).imp (fun q=>((dD q).imp (fun q=>(dt q)) (fun q=>(dt q)))) (fun q=>⟨((gT (b8 (dt q))).imp (fun q=>(ne_of_beq_false q)) (fun q=>q)),((gT (dC (dt q))).imp (fun q=>(eq_of_beq (dy q))) (fun q=>q))⟩))) (fun q=>(ne_of_beq_false (dt q))))) (fun q=>(ne_of_beq_false (dt q))))
     refine b7 rfl fun _=>?_
     show K (.err 72 3) m
     rw [Bj fun aL=>by have:=(ih.Gl nw).1 aL;have:=@qY e.v cS;grind] at ad;exact ad
   replace I:((((jw=true)∧(tb=true))∧(((e.kind=1)∧((decide (e.v.kind≤3)&&(bH e.v==0))=true))∨((e.kind≠1)∧(gm e.v cS=true))))∧((e.a.length:Int)=o7))∧((e.n.length:Int)=bW):=⟨⟨⟨⟨(dy (b8 (b8 (b8 (b8 I))))),(dy (dC (b8 (b8 (b8 I)))))⟩,((dD (dy (dC (b8 (b8 I))))).imp (fun q=>⟨(eq_of_beq (fC q)),(gS q)⟩) (fun q=>⟨(ne_of_beq_false (dt (fC q))),(gS q)⟩))⟩,(eq_of_beq (dy (dC (b8 I))))⟩,(eq_of_beq (dy (dC I)))⟩
   have oD:ih e:=(ih.Gl nw).2 (by have:=@qY e.v cS;grind)
   refine aU ?_
   refine cl ?_
   refine dE (σ:=Int) [] [133,134,135] 1 (fun i=>([(133,aX (e.a.map cz)),(134,aK (e.a.length:Int)),(135,aK i)],[.cells [aK e.kind,aK e.v.kind,aK e.v.n,aR e.v.s,aX (e.v.l.map cC),aX (e.v.f.map cL),aR e.s,aR e.t,aX (e.a.map cz),aX (e.n.map cp)]],m)) (fun i=>0≤i∧i≤e.a.length∧(je e.a↔je (e.a.drop i.toNat))) (fun i=>e.a.length- i.toNat) (0) ⟨rfl,rfl⟩ ?_ ?_
   · try dsimp only
     exact ⟨by omega,by omega,Iff.rfl⟩
   rintro i aW
   refine aU ?_
   refine ax (fun J=>?_) (fun J=>?_)
   · refine aU ?_
     refine fE cE er (by omega) ?_
     refine dV (fun _=>aO (U e.a i) (by have:=jy (cy (l:=e.a) (i:=i) aW.1 (by assumption));omega)) rfl ?_
     refine ax (fun ak=>?_) (fun ak=>?_)
     · refine ax (by omega) ?_
       refine ⟨(i+1),⟨rfl,rfl⟩,?_,?_⟩
       · try dsimp only
         exact ⟨by omega,by omega,Po aW.1 (by assumption) aW.2.2 (by omega)⟩
       try dsimp only
       omega
     refine b7 rfl fun _=>?_
     show K (.err 72 (iK (U e.a i))) m
     rw [Pn aW.1 (by assumption) aW.2.2 (by assumption)] at ad;exact ad
   refine b7 rfl fun _=>?_
   show K (.err 72 0) m
   rw [Pp (by omega) aW.2.2 oD] at ad;exact ad
 refine ax (fun aH=>?_) (fun aH=>?_)
 · refine ⟨(0,0,(e.s==([])),(e.t==([]))),⟨rfl,rfl⟩,⟨.inl ⟨by assumption,rfl,rfl,rfl,rfl⟩⟩⟩
 refine ax (fun aQ=>?_) (fun aQ=>?_)
 · refine dV (fun _=>pY e.s (by first|omega|exact rb)) rfl ?_
   refine ⟨(0,0,(bJ e.s),(e.t==([]))),⟨rfl,rfl⟩,⟨.inr (.inl ⟨by assumption,rfl,rfl,rfl,rfl⟩)⟩⟩
 refine aU ?_
 refine ax (fun bw=>?_) (fun bw=>?_)
 · refine ax (fun db=>?_) (fun db=>?_)
   · refine h9 (fun _=>pY e.s (by first|omega|exact rb)) ?_
     refine h9 (fun _=>pY e.t (by first|omega|exact rb)) ?_
     refine ⟨(0,0,(bJ e.s),(bJ e.t)),⟨rfl,rfl⟩,⟨.inr (.inr (.inl ⟨.inl (by assumption),rfl,rfl,rfl,rfl⟩))⟩⟩
   exact absurd bw db
 refine ax (fun cA=>?_) (fun cA=>?_)
 · refine h9 (fun _=>pY e.s (by first|omega|exact rb)) ?_
   refine h9 (fun _=>pY e.t (by first|omega|exact rb)) ?_
   refine ⟨(0,0,(bJ e.s),(bJ e.t)),⟨rfl,rfl⟩,⟨.inr (.inr (.inl ⟨.inr (by assumption),rfl,rfl,rfl,rfl⟩))⟩⟩
 refine aU ?_
 refine ax (fun dx=>?_) (fun dx=>?_)
 · refine ax (fun eY=>?_) (fun eY=>?_)
   · refine ⟨(2,0,(e.s==([])),(e.t==([]))),⟨rfl,rfl⟩,⟨.inr (.inr (.inr (.inl ⟨.inl (by assumption),rfl,rfl,rfl,rfl⟩)))⟩⟩
   exact absurd dx eY
 refine ax (fun hq=>?_) (fun hq=>?_)
 · refine ⟨(2,0,(e.s==([])),(e.t==([]))),⟨rfl,rfl⟩,⟨.inr (.inr (.inr (.inl ⟨.inr (by assumption),rfl,rfl,rfl,rfl⟩)))⟩⟩
 refine ax (fun l1=>?_) (fun l1=>?_)
 · refine ⟨(3,0,(e.s==([])),(e.t==([]))),⟨rfl,rfl⟩,⟨.inr (.inr (.inr (.inr (.inl ⟨by assumption,rfl,rfl,rfl,rfl⟩))))⟩⟩
 refine ax (fun re=>?_) (fun re=>?_)
 · refine cl ?_
   refine ⟨((e.a.length:Int),0,(e.s==([])),(e.t==([]))),⟨rfl,rfl⟩,⟨.inr (.inr (.inr (.inr (.inr (.inl ⟨by assumption,rfl,rfl,rfl,rfl⟩)))))⟩⟩
 refine ax (fun Bl=>?_) (fun Bl=>?_)
 · refine cl ?_
   refine cl ?_
   refine cl ?_
   refine dE (σ:=Int) [] [1,3,4,5,6,57,58,59] 1 (fun i=>([(1, .loc 0 0),(3,aK (e.a.length:Int)),(4,aK (e.a.length:Int)),(5,kt (e.s==([]))),(6,kt (e.t==([]))),(57,aX (e.n.map cp)),(58,aK (e.n.length:Int)),(59,aK i)],[.cells [aK e.kind,aK e.v.kind,aK e.v.n,aR e.v.s,aX (e.v.l.map cC),aX (e.v.f.map cL),aR e.s,aR e.t,aX (e.a.map cz),aX (e.n.map cp)]],m)) (fun i=>0≤i∧i≤e.n.length∧∀j:Int,0≤j→j<i→bJ (U e.n j)=true∧(0<j→Op.bytesLess (U e.n (j- 1)) (U e.n j)=true)) (fun i=>e.n.length- i.toNat) (0) ⟨rfl,rfl⟩ ?_ ?_
   · try dsimp only
     exact ⟨by omega,by omega,fun j aA aG=>by omega⟩
   rintro i aW
   refine aU ?_
   refine ax (fun xo=>?_) (fun xo=>?_)
   · refine aU ?_
     refine eF (by omega) ?_
     refine ⟨fun Pt=>?_⟩
     have rb:(U e.n i).length≤140737488355328:=DI (f:=cp) (Pt 57).2 (cy aW.1 (by assumption)) 0 (Nat.succ_pos _)
     refine dc [1,3,4,5,6,57,58,59] 80 ((!(bJ (U e.n i)))||((decide (0<i))&&(!(Op.bytesLess (U e.n (i- 1)) (U e.n i))))) ?_ ?_
     · repeat' first
        |exact ⟨⟨_,rfl,by grind [bT.val]⟩,rfl⟩
        |refine ax (fun _=>?_) (fun _=>?_)
        |refine dV (fun _=>pY (U e.n i) (by first|omega|exact rb)) rfl ?_
        |refine ax (by omega) ?_
        |refine eF (by omega) ?_
     refine ax (fun sN=>?_) (fun sN=>?_)
     · replace sN:(bJ (U e.n i)=false)∨((0<i)∧(Op.bytesLess (U e.n (i- 1)) (U e.n i)=false)):=((dD sN).imp (fun q=>(dt q)) (fun q=>⟨(of_decide_eq_true (fC q)),(dt (gS q))⟩))
       refine b7 rfl fun _=>?_
       show K (.err 72 3) m
       rw [Bj (ih.u5 (by assumption) fun aL=>by have:=aL i aW.1 (by assumption);grind)] at ad;exact ad
     replace sN:(bJ (U e.n i)=true)∧((i≤0)∨(Op.bytesLess (U e.n (i- 1)) (U e.n i)=true)):=⟨(dy (b8 sN)),((gT (dC sN)).imp (fun q=>(Int.not_lt.1 (of_decide_eq_false q))) (fun q=>(dy q)))⟩
     refine ax (by omega) ?_
     refine ⟨(i+1),⟨rfl,rfl⟩,?_,?_⟩
     · try dsimp only
       exact ⟨by omega,by omega,Pr aW.2.2 (by grind) (by grind)⟩
     try dsimp only
     omega
   refine ⟨((e.a.length:Int),(e.a.length:Int),(e.s==([])),(e.t==([]))),⟨rfl,rfl⟩,⟨.inr (.inr (.inr (.inr (.inr (.inr (.inl ⟨by assumption,fun j aA aG=>aW.2.2 j aA (by omega),rfl,rfl,rfl,rfl⟩))))))⟩⟩
 refine ax (fun Pu=>?_) (fun Pu=>?_)
 · refine dV (fun _=>pY e.s (by first|omega|exact rb)) rfl ?_
   refine ⟨(1,0,(bJ e.s),(e.t==([]))),⟨rfl,rfl⟩,⟨.inr (.inr (.inr (.inr (.inr (.inr (.inr ⟨by assumption,rfl,rfl,rfl,rfl⟩))))))⟩⟩
 refine b7 rfl fun _=>?_
 show K (.err 72 3) m
 rw [Bj (ih.no (by omega))] at ad;exact ad
theorem Gp:∀(k:Nat) (e:ar),dN e<k→∀(m:ae) (K:aa→ae→Prop),K (.err 72 (iK e)) m→bp Tryd.prog 73 [cE e] m K
 |0,_,h=>absurd h (Nat.not_lt_zero _)
 |k+1,e,h=>fun m K ad=>Ps k e (fun x ao=>Gp k x ao) h m K ad
theorem Pv {e:ar} (h:¬(hB e+1≤7∧gu e≤60)):dm e=2:=by unfold dm;rw [if_pos (by omega)]
theorem Gq {e:ar} (h:hB e+1≤7∧gu e≤60):dm e=iK e:=by unfold dm;rw [if_neg (by omega)]
set_option maxHeartbeats 1000000 in
theorem xp (e:ar) (m:ae) (K:aa→ae→Prop) (ad:K (.err 72 (dm e)) m):bp Tryd.prog 41 [cE e] m K:=by
 refine enter (c:=dF [] [] [] [] [] []) (vs:=[.aI (cE e)]) (L:=[]) (m:=m) true cw Tryd.mixed Tryd.func41 rfl (k:=1) (by show du [] _ _ _=true;decide+kernel) rfl (Good.nil m) ?_
 refine aU ?_
 refine cc 72 [1] (σ:=(Int) ⊕ (Int)) (Sum.elim (fun gX=>gX=60- gu e∧hB e+1≤7∧gu e≤60) (fun gX=>¬(hB e+1≤7∧gu e≤60)∧-1≤gX∧gX≤60)) (Sum.elim (fun gX=> .b (.lit true)) (fun gX=> .b (.lit false))) (Sum.elim (fun gX=>[.cells [aK gX]]) (fun gX=>[.cells [aK gX]])) rfl (fun x=>by rcases x with _|_<;>rfl) (fun bs aq gd an K ad=>Gj (dN e+1) e (Nat.lt_succ_self _) 1 60 (by omega) (by omega) (by omega) (by omega) (bs.getD 1 0) aq gd K (fun f aL=>ad (.inl f) aL) (fun f aL=>ad (.inr f) aL)) ?_
 rintro (gX|gX) bA
 · try dsimp only [Sum.elim_inl,Sum.elim_inr] at bA
   dsimp only [Sum.elim_inl,Sum.elim_inr]
   refine dV (fun _=>Gp (dN e+1) e (Nat.lt_succ_self _)) rfl ?_
   refine b7 rfl fun _=>?_
   show K (.err 72 (iK e)) m
   rw [Gq ⟨bA.2.1,bA.2.2⟩] at ad;exact ad
 try dsimp only [Sum.elim_inl,Sum.elim_inr] at bA
 dsimp only [Sum.elim_inl,Sum.elim_inr]
 refine b7 rfl fun _=>?_
 show K (.err 72 2) m
 rw [Pv bA.1] at ad;exact ad
end Go.Proofs
end
