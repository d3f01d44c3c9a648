import Derived.Test.YtnahenbiipdlkaaGreatDoorPx2
section
namespace Go.Proofs
open Go Go.bg Go.cz
set_option maxRecDepth 100000
abbrev fR (e:au):a7:= .agg [ax e.kind,ax e.v.kind,ax e.v.n,ay e.v.s,aH (e.v.l.map cn),aH (e.v.f.map cB),ay e.s,ay e.t,aH (e.a.map bY),aH (e.n.map cm)]
instance:Inhabited (bP au):=⟨.bad 0 0⟩
section
variable (f:Int→bP au) (l:List Tok) (n:Int)
def nI {α β:Type} [Inhabited β] (xs:List α) (a:Int) (g:Int→bP β):bP β:=if xs=[] then g a else (b8 l n 4 [44] a).bind fun _ a=>g a
def lY:Nat→Int→List au→bP au
 |0,a,_=> .bad 5 (cp l n a)
 |k+1,a,xs=>if bq l 4 [93] a=true then .ok (.mk 8 dB [] [] xs []) (a+1) else nI l n xs a fun a=>(f a).bind fun x a=>lY k a (xs++[x])
def yw (cw:List ar) (m:ar):Prop:=0<(cw.length:Int)∧Op.bytesLess (I cw ((cw.length:Int)- 1)) m=false
instance (cw:List ar) (m:ar):Decidable (yw cw m):=by unfold yw;infer_instance
def kV:Nat→Int→List ar→List au→bP au
 |0,a,_,_=> .bad 5 (cp l n a)
 |k+1,a,cw,xs=>if bq l 4 [125] a=true then .ok (.mk 9 dB [] [] xs cw) (a+1) else nI l n xs a fun a=>(b8 l n 1 [] a).bind fun m a=>
   if yw cw m then .bad 3 (cp l n a) else (b8 l n 4 [58] a).bind fun _ a=>(f a).bind fun x a=>kV k a (cw++[m]) (xs++[x])
def nJ (a:Int):bP au:=(f a).bind fun x a=>
 if bq l 4 [43] a=true then (f (a+1)).bind fun y a=>(b8 l n 4 [41] a).bind fun _ a=> .ok (.mk 5 dB [] [] [x,y] []) a
 else if bq l 4 [61,61] a=true then (f (a+1)).bind fun y a=>(b8 l n 4 [41] a).bind fun _ a=> .ok (.mk 6 dB [] [] [x,y] []) a
 else if bq l 4 [63] a=true then (f (a+1)).bind fun y a=>(b8 l n 4 [58] a).bind fun _ a=>(f a).bind fun z a=>(b8 l n 4 [41] a).bind fun _ a=> .ok (.mk 7 dB [] [] [x,y,z] []) a
 else .bad 5 (cp l n a)
def iD (a:Int):bP au:=
 if bq l 1 [110,117,108,108] a=true then .ok (jA dB) (a+1)
 else if bq l 1 [116,114,117,101] a=true then .ok (jA (.mk 3 1 [] [] [])) (a+1)
 else if bq l 1 [102,97,108,115,101] a=true then .ok (jA (.mk 3 0 [] [] [])) (a+1)
 else if bq l 1 [105,110] a=true then (b8 l n 4 [46] (a+1)).bind fun _ a=>(b8 l n 1 [] a).bind fun s a=> .ok (.mk 2 dB s [] [] []) a
 else if bq l 1 [114,101,115] a=true then (qU l n (a+1)).bind fun st a=> .ok (.mk 3 dB st.1 st.2 [] []) a
 else if bq l 1 [115,116,97,99,107] a=true then (qU l n (a+1)).bind fun st a=> .ok (.mk 4 dB st.1 st.2 [] []) a
 else if bq l 1 [103,101,116] a=true then (f (a+1)).bind fun x a=>(b8 l n 1 [] a).bind fun s a=> .ok (.mk 10 dB s [] [x] []) a
 else .bad 5 (cp l n a)
end
def cr (l:List Tok) (n:Int):Nat→Int→bP au
 |0,a=> .bad 2 (cp l n a)
 |k+1,a=>
  if bq l 4 [40] a=true then nJ (cr l n k) l n (a+1)
  else if bq l 4 [91] a=true then lY (cr l n k) l n (l.length+1) (a+1) []
  else if bq l 4 [123] a=true then kV (cr l n k) l n (l.length+1) (a+1) [] []
  else if bq l 4 [45] a=true then kU l n (-1) (a+1)
  else if bq l 2 [] a=true then kU l n 1 a
  else if bq l 3 [] a=true then .ok (jA (.mk 2 0 (I l a).2.2 [] [])) (a+1)
  else iD (cr l n k) l n a
theorem cJ {l:List Tok} {k:Int} {s:ar} {a:Int} (h:bq l k s a=false):¬bq l k s a=true:=by rw [h];decide
theorem aX.stuck {l:List Tok} {α:Type} {p:bP α} {x:α} {a e q:Int} (h:e≠0) (aJ:0≤e) (aT:a≤l.length):aX l p x a e q a e q:=⟨fun z=>absurd z h,fun _=>⟨rfl,rfl,rfl⟩,Int.le_refl _,aT,aJ,fun z=>absurd z h⟩
set_option maxHeartbeats 1000000 in
theorem Ks (l:List Tok) (n a e q:Int) (d:Int) (r:Nat) (av:l.length≤5000) (aJ:0≤a) (aT:a≤l.length) (he:0≤e) (ak:e≠0) (m:ae) (gd:eC [r] m) (K:ab→ae→Prop) (U:K (bU gA) (ae.aS m [(r, .cells [.slice false (l.map bm), .int .i64 a, .int .i64 n, .err 115 e, .int .i64 q])])):bh Tryz.prog 180 [.ptr ⟨r,0,none⟩, .int .i64 d] (ae.aS m [(r, .cells [.slice false (l.map bm), .int .i64 a, .int .i64 n, .err 115 e, .int .i64 q])]) K:=by
 refine enter (c:=cT [] [] [] [] [] [r]) (vs:=[.loc 0 0, .aI (.int .i64 d)]) (L:=[bA l n a e q]) (m:=m) false b2 Tryz.mixed Tryz.func180 rfl (k:=2) (by show cO [] _ _ _=true;decide+kernel) rfl (gd.gZ rfl) ?_
 refine aB ?_
 refine dw [0] [bA l n a e q] (.b (.lit false)) rfl (fun bs ai gd=>fun K U=>iC l n a e q 1 ([110,117,108,108]:List UInt8) (bs.getD 0 0) av (by omega) (by omega) (by omega) ai gd K (fun z=>absurd z (by omega)) fun _=>U) ?_
 refine dw [0] [bA l n a e q] (.b (.lit false)) rfl (fun bs ai gd=>fun K U=>iC l n a e q 1 ([116,114,117,101]:List UInt8) (bs.getD 0 0) av (by omega) (by omega) (by omega) ai gd K (fun z=>absurd z (by omega)) fun _=>U) ?_
 refine dw [0] [bA l n a e q] (.b (.lit false)) rfl (fun bs ai gd=>fun K U=>iC l n a e q 1 ([102,97,108,115,101]:List UInt8) (bs.getD 0 0) av (by omega) (by omega) (by omega) ai gd K (fun z=>absurd z (by omega)) fun _=>U) ?_
 refine dw [0] [bA l n a e q] (.b (.lit false)) rfl (fun bs ai gd=>fun K U=>iC l n a e q 1 ([105,110]:List UInt8) (bs.getD 0 0) av (by omega) (by omega) (by omega) ai gd K (fun z=>absurd z (by omega)) fun _=>U) ?_
 refine dw [0] [bA l n a e q] (.b (.lit false)) rfl (fun bs ai gd=>fun K U=>iC l n a e q 1 ([114,101,115]:List UInt8) (bs.getD 0 0) av (by omega) (by omega) (by omega) ai gd K (fun z=>absurd z (by omega)) fun _=>U) ?_
 refine dw [0] [bA l n a e q] (.b (.lit false)) rfl (fun bs ai gd=>fun K U=>iC l n a e q 1 ([115,116,97,99,107]:List UInt8) (bs.getD 0 0) av (by omega) (by omega) (by omega) ai gd K (fun z=>absurd z (by omega)) fun _=>U) ?_
 refine dw [0] [bA l n a e q] (.b (.lit false)) rfl (fun bs ai gd=>fun K U=>iC l n a e q 1 ([103,101,116]:List UInt8) (bs.getD 0 0) av (by omega) (by omega) (by omega) ai gd K (fun z=>absurd z (by omega)) fun _=>U) ?_
 refine bx 115 [0] (σ:=Int×Int) (fun ⟨bb,bo⟩=>(e=0→bb=5∧bo=cp l n a)∧(e≠0→bb=e∧bo=q)∧0<bb) (fun ⟨bb,bo⟩=> .da []) (fun ⟨bb,bo⟩=>[bA l n a bb bo]) rfl (fun _=>rfl) (fun bs ai gd aq K U=>o9 l n a e q 5 (bs.getD 0 0) (by decide) av (by omega) (by omega) (by omega) ai gd K (fun z=>U (5,cp l n a) ⟨fun _=>⟨rfl,rfl⟩,fun y=>absurd z y,by decide⟩) (fun z=>U (e,q) ⟨fun y=>absurd y z,fun _=>⟨rfl,rfl⟩,by omega⟩)) ?_
 rintro ⟨bb,bo⟩ bp
 dsimp only at bp
 obtain ⟨ly,ku,mP⟩:=bp
 refine rt rfl fun _=>?_
 show K (.agg [.int .i64 0, .int .i64 0, .int .i64 0, .str ([]), .slice false [], .slice false [], .str ([]), .str ([]), .slice false [], .slice false []]) (ae.aS m [(r, .cells [.slice false (l.map bm), .int .i64 a, .int .i64 n, .err 115 bb, .int .i64 bo])])
 obtain ⟨rfl,rfl⟩:=ku ak
 exact U
set_option maxHeartbeats 2000000 in
theorem TA (l:List Tok) (n a e q:Int) (k:Nat) (d:Int) (r:Nat) (aO:∀a e q d:Int,d=7- (k:Int)→0≤a→a≤l.length→0≤e→∀(r:Nat) (m:ae),eC [r] m→cW m→∀(K:ab→ae→Prop),(∀bH bZ bR cj,aX l (cr l n k a) bH a e q bZ bR cj→K (bU bH) (ae.aS m [(r, .cells [.slice false (l.map bm), .int .i64 bZ, .int .i64 n, .err 115 bR, .int .i64 cj])]))→bh Tryz.prog 127 [.ptr ⟨r,0,none⟩, .int .i64 d] (ae.aS m [(r, .cells [.slice false (l.map bm), .int .i64 a, .int .i64 n, .err 115 e, .int .i64 q])]) K) (av:l.length≤5000) (aJ:0≤a) (aT:a≤l.length) (he:0≤e) (ak:e=0) (al:k≤7) (aY:d+1=7- (k:Int)) (m:ae) (gd:eC [r] m) (K:ab→ae→Prop) (aP:cW m) (U:∀bH bZ bR cj,aX l (iD (cr l n k) l n a) bH a e q bZ bR cj→K (bU bH) (ae.aS m [(r, .cells [.slice false (l.map bm), .int .i64 bZ, .int .i64 n, .err 115 bR, .int .i64 cj])])):bh Tryz.prog 180 [.ptr ⟨r,0,none⟩, .int .i64 d] (ae.aS m [(r, .cells [.slice false (l.map bm), .int .i64 a, .int .i64 n, .err 115 e, .int .i64 q])]) K:=by
 refine enter (c:=cT [] [] [] [18999] [18] [r]) (vs:=[.loc 0 0, .aI (.int .i64 d)]) (L:=[bA l n a e q]) (m:=m) false b2 Tryz.mixed Tryz.func180 rfl (k:=2) (by show cO [18999] _ _ _=true;decide+kernel) rfl (gd.gZ rfl) ?_
 refine aB ?_
 refine bx 115 [0] (σ:=(Unit) ⊕ (Unit)) (Sum.elim (fun _=>e=0∧bq l 1 ([110,117,108,108]:List UInt8) a=true) (fun _=>e=0→bq l 1 ([110,117,108,108]:List UInt8) a=false)) (Sum.elim (fun _=> .b (.lit true)) (fun _=> .b (.lit false))) (Sum.elim (fun _=>[bA l n (a+1) e q]) (fun _=>[bA l n a e q])) rfl (fun x=>by rcases x with _|_<;>rfl) (fun bs ai gd aq K U=>iC l n a e q 1 ([110,117,108,108]:List UInt8) (bs.getD 0 0) av (by omega) (by omega) (by omega) ai gd K (fun z w=>U (.inl ()) ⟨z,w⟩) (fun z=>U (.inr ()) z)) ?_
 rintro (_|_) bp
 · try dsimp only [Sum.elim_inl,Sum.elim_inr] at bp
   dsimp only [Sum.elim_inl,Sum.elim_inr]
   have vC:=gm bp.2
   refine rt rfl fun _=>?_
   show K (.agg [.int .i64 1, .int .i64 0, .int .i64 0, .str ([]), .slice false [], .slice false [], .str ([]), .str ([]), .slice false [], .slice false []]) (ae.aS m [(r, .cells [.slice false (l.map bm), .int .i64 (a+1), .int .i64 n, .err 115 e, .int .i64 q])])
   refine U (jA dB) _ _ _ ?_
   rw [iD,if_pos bp.2]
   exact aX.one vC ak
 try dsimp only [Sum.elim_inl,Sum.elim_inr] at bp
 dsimp only [Sum.elim_inl,Sum.elim_inr]
 refine bx 115 [0] (σ:=(Unit) ⊕ (Unit)) (Sum.elim (fun _=>e=0∧bq l 1 ([116,114,117,101]:List UInt8) a=true) (fun _=>e=0→bq l 1 ([116,114,117,101]:List UInt8) a=false)) (Sum.elim (fun _=> .b (.lit true)) (fun _=> .b (.lit false))) (Sum.elim (fun _=>[bA l n (a+1) e q]) (fun _=>[bA l n a e q])) rfl (fun x=>by rcases x with _|_<;>rfl) (fun bs ai gd aq K U=>iC l n a e q 1 ([116,114,117,101]:List UInt8) (bs.getD 0 0) av (by omega) (by omega) (by omega) ai gd K (fun z w=>U (.inl ()) ⟨z,w⟩) (fun z=>U (.inr ()) z)) ?_
 rintro (_|_) cx
 · try dsimp only [Sum.elim_inl,Sum.elim_inr] at cx
   dsimp only [Sum.elim_inl,Sum.elim_inr]
   have Kt:=gm cx.2
   refine rt rfl fun _=>?_
   show K (.agg [.int .i64 1, .int .i64 3, .int .i64 1, .str ([]), .slice false [], .slice false [], .str ([]), .str ([]), .slice false [], .slice false []]) (ae.aS m [(r, .cells [.slice false (l.map bm), .int .i64 (a+1), .int .i64 n, .err 115 e, .int .i64 q])])
   refine U (jA (.mk 3 1 [] [] [])) _ _ _ ?_
   rw [iD,if_neg (cJ (bp ak)),if_pos cx.2]
   exact aX.one Kt ak
 try dsimp only [Sum.elim_inl,Sum.elim_inr] at cx
 dsimp only [Sum.elim_inl,Sum.elim_inr]
 refine bx 115 [0] (σ:=(Unit) ⊕ (Unit)) (Sum.elim (fun _=>e=0∧bq l 1 ([102,97,108,115,101]:List UInt8) a=true) (fun _=>e=0→bq l 1 ([102,97,108,115,101]:List UInt8) a=false)) (Sum.elim (fun _=> .b (.lit true)) (fun _=> .b (.lit false))) (Sum.elim (fun _=>[bA l n (a+1) e q]) (fun _=>[bA l n a e q])) rfl (fun x=>by rcases x with _|_<;>rfl) (fun bs ai gd aq K U=>iC l n a e q 1 ([102,97,108,115,101]:List UInt8) (bs.getD 0 0) av (by omega) (by omega) (by omega) ai gd K (fun z w=>U (.inl ()) ⟨z,w⟩) (fun z=>U (.inr ()) z)) ?_
 rintro (_|_) cP
 · try dsimp only [Sum.elim_inl,Sum.elim_inr] at cP
   dsimp only [Sum.elim_inl,Sum.elim_inr]
   have EN:=gm cP.2
   refine rt rfl fun _=>?_
   show K (.agg [.int .i64 1, .int .i64 3, .int .i64 0, .str ([]), .slice false [], .slice false [], .str ([]), .str ([]), .slice false [], .slice false []]) (ae.aS m [(r, .cells [.slice false (l.map bm), .int .i64 (a+1), .int .i64 n, .err 115 e, .int .i64 q])])
   refine U (jA (.mk 3 0 [] [] [])) _ _ _ ?_
   rw [iD,if_neg (cJ (bp ak)),if_neg (cJ (cx ak)),if_pos cP.2]
   exact aX.one EN ak
 try dsimp only [Sum.elim_inl,Sum.elim_inr] at cP
 dsimp only [Sum.elim_inl,Sum.elim_inr]
 refine bx 115 [0] (σ:=(Unit) ⊕ (Unit)) (Sum.elim (fun _=>e=0∧bq l 1 ([105,110]:List UInt8) a=true) (fun _=>e=0→bq l 1 ([105,110]:List UInt8) a=false)) (Sum.elim (fun _=> .b (.lit true)) (fun _=> .b (.lit false))) (Sum.elim (fun _=>[bA l n (a+1) e q]) (fun _=>[bA l n a e q])) rfl (fun x=>by rcases x with _|_<;>rfl) (fun bs ai gd aq K U=>iC l n a e q 1 ([105,110]:List UInt8) (bs.getD 0 0) av (by omega) (by omega) (by omega) ai gd K (fun z w=>U (.inl ()) ⟨z,w⟩) (fun z=>U (.inr ()) z)) ?_
 rintro (_|_) dd
 · try dsimp only [Sum.elim_inl,Sum.elim_inr] at dd
   dsimp only [Sum.elim_inl,Sum.elim_inr]
   have A3:=gm dd.2
   refine bx 115 [0] (σ:=ar×Int×Int×Int) (fun ⟨gX,e3,dU,eD⟩=>(aX l (b8 l n 4 ([46]:List UInt8) (a+1)) gX (a+1) e q e3 dU eD)∧(dU≠0→gX=[])) (fun ⟨gX,e3,dU,eD⟩=>ay gX) (fun ⟨gX,e3,dU,eD⟩=>[bA l n e3 dU eD]) rfl (fun _=>rfl) (fun bs ai gd aq K U=>jz l n (a+1) e q 4 ([46]:List UInt8) (bs.getD 0 0) av (by omega) (by omega) (by omega) ai gd K (fun bQ a8 a1 a6 aC ak=>U (bQ,a8,a1,a6) ⟨aC,ak⟩)) ?_
   rintro ⟨gX,e3,dU,eD⟩ dE
   dsimp only at dE
   obtain ⟨dE,A4⟩:=dE
   have A5:=dE.ba
   have A6:=dE.ad
   have yx:=dE.bB
   refine bx 115 [0] (σ:=ar×Int×Int×Int) (fun ⟨gh,dy,dt,dQ⟩=>aX l (b8 l n 1 [] e3) gh e3 dU eD dy dt dQ) (fun ⟨gh,dy,dt,dQ⟩=>ay gh) (fun ⟨gh,dy,dt,dQ⟩=>[bA l n dy dt dQ]) rfl (fun _=>rfl) (fun bs ai gd aq K U=>pb l n e3 dU eD (bs.getD 0 0) av (by omega) (by omega) (by omega) ai gd K (fun bQ a8 a1 a6 aC=>U (bQ,a8,a1,a6) aC)) ?_
   rintro ⟨gh,dy,dt,dQ⟩ ej
   dsimp only at ej
   have rY:=ej.ba
   have rZ:=ej.ad
   have r0:=ej.bB
   refine rt rfl fun _=>?_
   show K (.agg [.int .i64 2, .int .i64 0, .int .i64 0, .str ([]), .slice false [], .slice false [], .str gh, .str ([]), .slice false [], .slice false []]) (ae.aS m [(r, .cells [.slice false (l.map bm), .int .i64 dy, .int .i64 n, .err 115 dt, .int .i64 dQ])])
   refine U (.mk 2 dB gh [] [] []) _ _ _ ?_
   rw [iD,if_neg (cJ (bp ak)),if_neg (cJ (cx ak)),if_neg (cJ (cP ak)),if_pos dd.2]
   exact aX.from ak (by omega) (dE.bind (ej.map fun s=>au.mk 2 dB s [] [] []))
 try dsimp only [Sum.elim_inl,Sum.elim_inr] at dd
 dsimp only [Sum.elim_inl,Sum.elim_inr]
 refine bx 115 [0] (σ:=(Unit) ⊕ (Unit)) (Sum.elim (fun _=>e=0∧bq l 1 ([114,101,115]:List UInt8) a=true) (fun _=>e=0→bq l 1 ([114,101,115]:List UInt8) a=false)) (Sum.elim (fun _=> .b (.lit true)) (fun _=> .b (.lit false))) (Sum.elim (fun _=>[bA l n (a+1) e q]) (fun _=>[bA l n a e q])) rfl (fun x=>by rcases x with _|_<;>rfl) (fun bs ai gd aq K U=>iC l n a e q 1 ([114,101,115]:List UInt8) (bs.getD 0 0) av (by omega) (by omega) (by omega) ai gd K (fun z w=>U (.inl ()) ⟨z,w⟩) (fun z=>U (.inr ()) z)) ?_
 rintro (_|_) dR
 · try dsimp only [Sum.elim_inl,Sum.elim_inr] at dR
   dsimp only [Sum.elim_inl,Sum.elim_inr]
   have TB:=gm dR.2
   refine bx 115 [0] (σ:=ar×ar×Int×Int×Int) (fun ⟨fI,tA,fX,gi,gB⟩=>aX l (qU l n (a+1)) (fI,tA) (a+1) e q fX gi gB) (fun ⟨fI,tA,fX,gi,gB⟩=> .aI (.tuple [.str fI, .str tA])) (fun ⟨fI,tA,fX,gi,gB⟩=>[bA l n fX gi gB]) rfl (fun _=>rfl) (fun bs ai gd aq K U=>Kn l n (a+1) e q (bs.getD 0 0) av (by omega) (by omega) (by omega) ai gd K (fun bQ EO a8 a1 a6 aC=>U (bQ,EO,a8,a1,a6) aC)) ?_
   rintro ⟨fI,tA,fX,gi,gB⟩ ed
   dsimp only at ed
   have A7:=ed.ba
   have A8:=ed.ad
   have A9:=ed.bB
   refine rt rfl fun _=>?_
   show K (.agg [.int .i64 3, .int .i64 0, .int .i64 0, .str ([]), .slice false [], .slice false [], .str fI, .str tA, .slice false [], .slice false []]) (ae.aS m [(r, .cells [.slice false (l.map bm), .int .i64 fX, .int .i64 n, .err 115 gi, .int .i64 gB])])
   refine U (.mk 3 dB fI tA [] []) _ _ _ ?_
   rw [iD,if_neg (cJ (bp ak)),if_neg (cJ (cx ak)),if_neg (cJ (cP ak)),if_neg (cJ (dd ak)),if_pos dR.2]
   exact aX.from ak (by omega) (ed.map fun st=>au.mk 3 dB st.1 st.2 [] [])
 try dsimp only [Sum.elim_inl,Sum.elim_inr] at dR
 dsimp only [Sum.elim_inl,Sum.elim_inr]
 refine bx 115 [0] (σ:=(Unit) ⊕ (Unit)) (Sum.elim (fun _=>e=0∧bq l 1 ([115,116,97,99,107]:List UInt8) a=true) (fun _=>e=0→bq l 1 ([115,116,97,99,107]:List UInt8) a=false)) (Sum.elim (fun _=> .b (.lit true)) (fun _=> .b (.lit false))) (Sum.elim (fun _=>[bA l n (a+1) e q]) (fun _=>[bA l n a e q])) rfl (fun x=>by rcases x with _|_<;>rfl) (fun bs ai gd aq K U=>iC l n a e q 1 ([115,116,97,99,107]:List UInt8) (bs.getD 0 0) av (by omega) (by omega) (by omega) ai gd K (fun z w=>U (.inl ()) ⟨z,w⟩) (fun z=>U (.inr ()) z)) ?_
 rintro (_|_) fi
 · try dsimp only [Sum.elim_inl,Sum.elim_inr] at fi
   dsimp only [Sum.elim_inl,Sum.elim_inr]
   have Xi:=gm fi.2
   refine bx 115 [0] (σ:=ar×ar×Int×Int×Int) (fun ⟨e4,tB,eJ,eK,fa⟩=>aX l (qU l n (a+1)) (e4,tB) (a+1) e q eJ eK fa) (fun ⟨e4,tB,eJ,eK,fa⟩=> .aI (.tuple [.str e4, .str tB])) (fun ⟨e4,tB,eJ,eK,fa⟩=>[bA l n eJ eK fa]) rfl (fun _=>rfl) (fun bs ai gd aq K U=>Kn l n (a+1) e q (bs.getD 0 0) av (by omega) (by omega) (by omega) ai gd K (fun bQ EO a8 a1 a6 aC=>U (bQ,EO,a8,a1,a6) aC)) ?_
   rintro ⟨e4,tB,eJ,eK,fa⟩ et
   dsimp only at et
   have vG:=et.ba
   have vH:=et.ad
   have vI:=et.bB
   refine rt rfl fun _=>?_
   show K (.agg [.int .i64 4, .int .i64 0, .int .i64 0, .str ([]), .slice false [], .slice false [], .str e4, .str tB, .slice false [], .slice false []]) (ae.aS m [(r, .cells [.slice false (l.map bm), .int .i64 eJ, .int .i64 n, .err 115 eK, .int .i64 fa])])
   refine U (.mk 4 dB e4 tB [] []) _ _ _ ?_
   rw [iD,if_neg (cJ (bp ak)),if_neg (cJ (cx ak)),if_neg (cJ (cP ak)),if_neg (cJ (dd ak)),if_neg (cJ (dR ak)),if_pos fi.2]
   exact aX.from ak (by omega) (et.map fun st=>au.mk 4 dB st.1 st.2 [] [])
 try dsimp only [Sum.elim_inl,Sum.elim_inr] at fi
 dsimp only [Sum.elim_inl,Sum.elim_inr]
 refine bx 115 [0] (σ:=(Unit) ⊕ (Unit)) (Sum.elim (fun _=>e=0∧bq l 1 ([103,101,116]:List UInt8) a=true) (fun _=>e=0→bq l 1 ([103,101,116]:List UInt8) a=false)) (Sum.elim (fun _=> .b (.lit true)) (fun _=> .b (.lit false))) (Sum.elim (fun _=>[bA l n (a+1) e q]) (fun _=>[bA l n a e q])) rfl (fun x=>by rcases x with _|_<;>rfl) (fun bs ai gd aq K U=>iC l n a e q 1 ([103,101,116]:List UInt8) (bs.getD 0 0) av (by omega) (by omega) (by omega) ai gd K (fun z w=>U (.inl ()) ⟨z,w⟩) (fun z=>U (.inr ()) z)) ?_
 rintro (_|_) fb
 · try dsimp only [Sum.elim_inl,Sum.elim_inr] at fb
   dsimp only [Sum.elim_inl,Sum.elim_inr]
   have EP:=gm fb.2
   refine ag (by omega) ?_
   refine bx 115 [0] (σ:=au×Int×Int×Int) (fun ⟨dF,dN,dO,eu⟩=>aX l (cr l n k (a+1)) dF (a+1) e q dN dO eu) (fun ⟨dF,dN,dO,eu⟩=>fR dF) (fun ⟨dF,dN,dO,eu⟩=>[bA l n dN dO eu]) rfl (fun _=>rfl) (fun bs ai gd aq K U=>aO (a+1) e q (d+1) (by omega) (by omega) (by omega) (by omega) (bs.getD 0 0) ai gd (cW.up aq aP) K (fun c1 a8 a1 a6 aC=>U (c1,a8,a1,a6) aC)) ?_
   rintro ⟨dF,dN,dO,eu⟩ eR
   dsimp only at eR
   have tC:=eR.ba
   have tD:=eR.ad
   have tE:=eR.bB
   refine hS b2 Tryz.mixed (σ:=Int×Int×Int×ar) (.f 0 (.o 1 (.s 2 (.s 3 (.s 4 (.s 5 .d)))) (.o 2 (.o 1 (.s 3 (.s 4 (.s 5 .d))) (.o 3 (.s 1 (.s 4 (.s 5 .d))) .z)) .z))) [] [4] 3 (fun ⟨a9,ee,ef,vJ⟩=>([(4, .loc 1 0)],[bA l n a9 ee ef, .cells [ax 10,ax 0,ax 0,ay ([]), .own [], .own [],ay vJ,ay ([]),aH [.agg [.int .i64 dF.kind, .int .i64 dF.v.kind, .int .i64 dF.v.n, .str dF.v.s, .slice false (dF.v.l.map cn), .slice false (dF.v.f.map cB), .str dF.s, .str dF.t, .slice false (dF.a.map bY), .slice false (dF.n.map cm)]], .own []], .cells [ax dF.kind,ax dF.v.kind,ax dF.v.n,ay dF.v.s,aH (dF.v.l.map cn),aH (dF.v.f.map cB),ay dF.s,ay dF.t,aH (dF.a.map bY),aH (dF.n.map cm)]],m)) (fun ⟨a9,ee,ef,vJ⟩=>aX l (b8 l n 1 [] dN) vJ dN dO eu a9 ee ef) (by decide+kernel) ?_ ?_
   · rintro ⟨a9,ee,ef,vJ⟩ Ku
     try dsimp only at Ku
     refine rt rfl fun _=>?_
     show K (.agg [.int .i64 10, .int .i64 0, .int .i64 0, .str ([]), .slice false [], .slice false [], .str vJ, .str ([]), .slice false [.agg [.int .i64 dF.kind, .int .i64 dF.v.kind, .int .i64 dF.v.n, .str dF.v.s, .slice false (dF.v.l.map cn), .slice false (dF.v.f.map cB), .str dF.s, .str dF.t, .slice false (dF.a.map bY), .slice false (dF.n.map cm)]], .slice false []]) (ae.aS m [(r, .cells [.slice false (l.map bm), .int .i64 a9, .int .i64 n, .err 115 ee, .int .i64 ef])])
     refine cL (U (.mk 10 dB vJ [] [dF] []) _ _ _ ?_) ?_
     · rw [iD,if_neg (cJ (bp ak)),if_neg (cJ (cx ak)),if_neg (cJ (cP ak)),if_neg (cJ (dd ak)),if_neg (cJ (dR ak)),if_neg (cJ (fi ak)),if_pos fb.2]
       exact aX.from ak (by omega) (eR.bind (Ku.map fun s=>au.mk 10 dB s [] [dF] []))
     · simp only [bU,au.a,List.map_cons,List.map_nil,cy];rfl
   repeat' first
    |refine ⟨(hz,fe,fz,hU),⟨rfl,rfl⟩,gP⟩
    |(refine bx 115 [0] (σ:=ar×Int×Int×Int) (fun ⟨hU,hz,fe,fz⟩=>aX l (b8 l n 1 [] dN) hU dN dO eu hz fe fz) (fun ⟨hU,hz,fe,fz⟩=>ay hU) (fun ⟨hU,hz,fe,fz⟩=>[bA l n hz fe fz]) rfl (fun _=>rfl) (fun bs ai gd aq K U=>pb l n dN dO eu (bs.getD 0 0) av (by omega) (by omega) (by omega) ai gd K (fun bQ a8 a1 a6 aC=>U (bQ,a8,a1,a6) aC)) ?_;rintro ⟨hU,hz,fe,fz⟩ gP;dsimp only at gP;have ER:=gP.ba;have ES:=gP.ad;have ET:=gP.bB)
    |refine ⟨?_,?_,trivial⟩
 try dsimp only [Sum.elim_inl,Sum.elim_inr] at fb
 dsimp only [Sum.elim_inl,Sum.elim_inr]
 refine bx 115 [0] (σ:=Int×Int) (fun ⟨gH,gQ⟩=>(e=0→gH=5∧gQ=cp l n a)∧(e≠0→gH=e∧gQ=q)∧0<gH) (fun ⟨gH,gQ⟩=> .da []) (fun ⟨gH,gQ⟩=>[bA l n a gH gQ]) rfl (fun _=>rfl) (fun bs ai gd aq K U=>o9 l n a e q 5 (bs.getD 0 0) (by decide) av (by omega) (by omega) (by omega) ai gd K (fun z=>U (5,cp l n a) ⟨fun _=>⟨rfl,rfl⟩,fun y=>absurd z y,by decide⟩) (fun z=>U (e,q) ⟨fun y=>absurd y z,fun _=>⟨rfl,rfl⟩,by omega⟩)) ?_
 rintro ⟨gH,gQ⟩ hN
 dsimp only at hN
 obtain ⟨TC,TD,TE⟩:=hN
 refine rt rfl fun _=>?_
 show K (.agg [.int .i64 0, .int .i64 0, .int .i64 0, .str ([]), .slice false [], .slice false [], .str ([]), .str ([]), .slice false [], .slice false []]) (ae.aS m [(r, .cells [.slice false (l.map bm), .int .i64 a, .int .i64 n, .err 115 gH, .int .i64 gQ])])
 refine U gA _ _ _ ?_
 rw [iD,if_neg (cJ (bp ak)),if_neg (cJ (cx ak)),if_neg (cJ (cP ak)),if_neg (cJ (dd ak)),if_neg (cJ (dR ak)),if_neg (cJ (fi ak)),if_neg (cJ (fb ak))]
 exact aX.bad _ aT TC TD TE
end Go.Proofs
end
section
namespace Go.Proofs
open Go Go.bg Go.cz
set_option maxRecDepth 100000
set_option maxHeartbeats 2000000 in
theorem TF (l:List Tok) (n a e q:Int) (k:Nat) (d:Int) (r:Nat) (aO:∀a e q d:Int,d=7- (k:Int)→0≤a→a≤l.length→0≤e→∀(r:Nat) (m:ae),eC [r] m→cW m→∀(K:ab→ae→Prop),(∀bH bZ bR cj,aX l (cr l n k a) bH a e q bZ bR cj→K (bU bH) (ae.aS m [(r, .cells [.slice false (l.map bm), .int .i64 bZ, .int .i64 n, .err 115 bR, .int .i64 cj])]))→bh Tryz.prog 127 [.ptr ⟨r,0,none⟩, .int .i64 d] (ae.aS m [(r, .cells [.slice false (l.map bm), .int .i64 a, .int .i64 n, .err 115 e, .int .i64 q])]) K) (av:l.length≤5000) (aJ:0≤a) (aT:a≤l.length) (he:0≤e) (al:k≤7) (aY:d+1=7- (k:Int)) (m:ae) (gd:eC [r] m) (K:ab→ae→Prop) (aP:cW m) (U:∀bH bZ bR cj,aX l (nJ (cr l n k) l n a) bH a e q bZ bR cj→K (bU bH) (ae.aS m [(r, .cells [.slice false (l.map bm), .int .i64 bZ, .int .i64 n, .err 115 bR, .int .i64 cj])])):bh Tryz.prog 177 [.ptr ⟨r,0,none⟩, .int .i64 d] (ae.aS m [(r, .cells [.slice false (l.map bm), .int .i64 a, .int .i64 n, .err 115 e, .int .i64 q])]) K:=by
 refine enter (c:=cT [1000013] [] [] [9999,11999] [9,11] [r]) (vs:=[.loc 0 0, .aI (.int .i64 d)]) (L:=[bA l n a e q]) (m:=m) false b2 Tryz.mixed Tryz.func177 rfl (k:=2) (by show cO [9999,11999] _ _ _=true;decide+kernel) rfl (gd.gZ rfl) ?_
 refine ag (by omega) ?_
 refine bx 115 [0] (σ:=au×Int×Int×Int) (fun ⟨bj,bO,bb,bo⟩=>aX l (cr l n k a) bj a e q bO bb bo) (fun ⟨bj,bO,bb,bo⟩=>fR bj) (fun ⟨bj,bO,bb,bo⟩=>[bA l n bO bb bo]) rfl (fun _=>rfl) (fun bs ai gd aq K U=>aO a e q (d+1) (by omega) (by omega) (by omega) (by omega) (bs.getD 0 0) ai gd (cW.up aq aP) K (fun c1 a8 a1 a6 aC=>U (c1,a8,a1,a6) aC)) ?_
 rintro ⟨bj,bO,bb,bo⟩ bp
 dsimp only at bp
 have pW:=bp.ba
 have mz:=bp.ad
 have pX:=bp.bB
 refine Rx (s:=12) [ax 5,ax 0,ax 0,ay ([]), .own [], .own [],ay ([]),ay ([])] [.own []] [.agg [.int .i64 bj.kind, .int .i64 bj.v.kind, .int .i64 bj.v.n, .str bj.v.s, .slice false (bj.v.l.map cn), .slice false (bj.v.f.map cB), .str bj.s, .str bj.t, .slice false (bj.a.map bY), .slice false (bj.n.map cm)]] rfl rfl rfl (by simp only [List.forall_mem_cons];exact ⟨rfl,rfl,rfl,rfl,rfl,rfl,fun _ h=>by cases h⟩) (fun bs X sS=>(by simp only [List.forall_mem_cons];exact ⟨rfl,sS,fun _ h=>by cases h⟩)) (fun _ _ _ _=>rfl) (fun _=>rfl) rfl rfl ?_
 refine aB ?_
 refine bx 115 [0] (σ:=(Unit) ⊕ (Unit)) (Sum.elim (fun _=>bb=0∧bq l 4 ([43]:List UInt8) bO=true) (fun _=>bb=0→bq l 4 ([43]:List UInt8) bO=false)) (Sum.elim (fun _=> .b (.lit true)) (fun _=> .b (.lit false))) (Sum.elim (fun _=>[bA l n (bO+1) bb bo]) (fun _=>[bA l n bO bb bo])) rfl (fun x=>by rcases x with _|_<;>rfl) (fun bs ai gd aq K U=>iC l n bO bb bo 4 ([43]:List UInt8) (bs.getD 0 0) av (by omega) (by omega) (by omega) ai gd K (fun z w=>U (.inl ()) ⟨z,w⟩) (fun z=>U (.inr ()) z)) ?_
 rintro (_|_) cx
 · try dsimp only [Sum.elim_inl,Sum.elim_inr] at cx
   dsimp only [Sum.elim_inl,Sum.elim_inr]
   have Kt:=gm cx.2
   refine hS b2 Tryz.mixed (σ:=Int×Int×Int×au) (.f 0 (.f 2 (.f 3 (.o 1 (.s 4 (.s 5 (.s 6 (.s 7 (.f 8 (.s 9 .d)))))) (.o 4 (.o 1 (.s 5 (.s 6 (.s 7 (.f 8 (.s 9 .d))))) (.o 5 (.o 1 (.s 6 (.s 7 (.f 8 (.s 9 .d)))) (.o 6 (.s 1 (.s 7 (.f 8 (.s 9 .d)))) .z)) .z)) .z))))) [] [0,4,6] 4 (fun ⟨a9,ee,ef,eE⟩=>([(0, .loc 0 0),(4, .loc 1 0),(6, .loc 3 0)],[bA l n a9 ee ef, .cells [ax 0,ax 0,ax 0,ay ([]), .own [], .own [],ay ([]),ay ([]), .own [], .own []], .cells [ax bj.kind,ax bj.v.kind,ax bj.v.n,ay bj.v.s,aH (bj.v.l.map cn),aH (bj.v.f.map cB),ay bj.s,ay bj.t,aH (bj.a.map bY),aH (bj.n.map cm)], .cells [ax 5,ax 0,ax 0,ay ([]), .own [], .own [],ay ([]),ay ([]), .own ((([bj]:List au)++([eE]:List au)).map bY), .own []]],m)) (fun ⟨a9,ee,ef,eE⟩=>aX l (cr l n k (bO+1)) eE (bO+1) bb bo a9 ee ef) (by decide+kernel) ?_ ?_
   · rintro ⟨a9,ee,ef,eE⟩ e9
     try dsimp only at e9
     have vK:=e9.ba
     have vL:=e9.ad
     have vM:=e9.bB
     refine bx 115 [0] (σ:=ar×Int×Int×Int) (fun ⟨fH,c8,de,dM⟩=>(aX l (b8 l n 4 ([41]:List UInt8) a9) fH a9 ee ef c8 de dM)∧(de≠0→fH=[])) (fun ⟨fH,c8,de,dM⟩=>ay fH) (fun ⟨fH,c8,de,dM⟩=>[bA l n c8 de dM]) rfl (fun _=>rfl) (fun bs ai gd aq K U=>jz l n a9 ee ef 4 ([41]:List UInt8) (bs.getD 0 0) av (by omega) (by omega) (by omega) ai gd K (fun bQ a8 a1 a6 aC ak=>U (bQ,a8,a1,a6) ⟨aC,ak⟩)) ?_
     rintro ⟨fH,c8,de,dM⟩ dd
     dsimp only at dd
     obtain ⟨dd,Kv⟩:=dd
     have vD:=dd.ba
     have vE:=dd.ad
     have vF:=dd.bB
     refine rt rfl fun _=>?_
     show K (.agg [.int .i64 5, .int .i64 0, .int .i64 0, .str ([]), .slice false [], .slice false [], .str ([]), .str ([]), .slice false ((([bj]:List au)++([eE]:List au)).map bY), .slice false []]) (ae.aS m [(r, .cells [.slice false (l.map bm), .int .i64 c8, .int .i64 n, .err 115 de, .int .i64 dM])])
     refine cL (U (.mk 5 dB [] [] [bj,eE] []) _ _ _ ?_) ?_
     · rw [nJ]
       refine bp.bind ?_
       rw [if_pos cx.2]
       exact aX.from cx.1 (by omega) (e9.bind (dd.map fun _=>au.mk 5 dB [] [] [bj,eE] []))
     · simp only [bU,au.a,List.map_cons,List.map_nil,List.map_append,List.cons_append,List.nil_append,cy];rfl
   repeat' first
    |refine ⟨(fs,dX,er,iO),⟨rfl,rfl⟩,cP⟩
    |(refine bx 115 [0] (σ:=au×Int×Int×Int) (fun ⟨iO,fs,dX,er⟩=>aX l (cr l n k (bO+1)) iO (bO+1) bb bo fs dX er) (fun ⟨iO,fs,dX,er⟩=>fR iO) (fun ⟨iO,fs,dX,er⟩=>[bA l n fs dX er]) rfl (fun _=>rfl) (fun bs ai gd aq K U=>aO (bO+1) bb bo (d+1) (by omega) (by omega) (by omega) (by omega) (bs.getD 0 0) ai gd (cW.up aq aP) K (fun c1 a8 a1 a6 aC=>U (c1,a8,a1,a6) aC)) ?_;rintro ⟨iO,fs,dX,er⟩ cP;dsimp only at cP;have yu:=cP.ba;have yv:=cP.ad;have tx:=cP.bB)
    |refine ap bY ([bj]:List au) ([iO]:List au) (by simp only [List.map_cons,List.map_nil,cy];try rfl) (by simp only [List.map_cons,List.map_nil,cy];try rfl) (fun a=>by rw [cy];exact ⟨rfl,rfl⟩) (by (simp only [List.length_append,List.length_cons,List.length_nil];omega)) ?_
    |refine ag (by omega) ?_
    |refine ⟨?_,?_,trivial⟩
 try dsimp only [Sum.elim_inl,Sum.elim_inr] at cx
 dsimp only [Sum.elim_inl,Sum.elim_inr]
 refine bx 115 [0] (σ:=(Unit) ⊕ (Unit)) (Sum.elim (fun _=>bb=0∧bq l 4 ([61,61]:List UInt8) bO=true) (fun _=>bb=0→bq l 4 ([61,61]:List UInt8) bO=false)) (Sum.elim (fun _=> .b (.lit true)) (fun _=> .b (.lit false))) (Sum.elim (fun _=>[bA l n (bO+1) bb bo]) (fun _=>[bA l n bO bb bo])) rfl (fun x=>by rcases x with _|_<;>rfl) (fun bs ai gd aq K U=>iC l n bO bb bo 4 ([61,61]:List UInt8) (bs.getD 0 0) av (by omega) (by omega) (by omega) ai gd K (fun z w=>U (.inl ()) ⟨z,w⟩) (fun z=>U (.inr ()) z)) ?_
 rintro (_|_) dE
 · try dsimp only [Sum.elim_inl,Sum.elim_inr] at dE
   dsimp only [Sum.elim_inl,Sum.elim_inr]
   have TG:=gm dE.2
   refine hS b2 Tryz.mixed (σ:=Int×Int×Int×au) (.f 0 (.f 2 (.f 3 (.o 1 (.s 4 (.s 5 (.s 6 (.s 7 (.f 8 (.s 9 .d)))))) (.o 4 (.o 1 (.s 5 (.s 6 (.s 7 (.f 8 (.s 9 .d))))) (.o 5 (.o 1 (.s 6 (.s 7 (.f 8 (.s 9 .d)))) (.o 6 (.s 1 (.s 7 (.f 8 (.s 9 .d)))) .z)) .z)) .z))))) [] [0,4,6] 4 (fun ⟨a9,ee,ef,eE⟩=>([(0, .loc 0 0),(4, .loc 1 0),(6, .loc 3 0)],[bA l n a9 ee ef, .cells [ax 0,ax 0,ax 0,ay ([]), .own [], .own [],ay ([]),ay ([]), .own [], .own []], .cells [ax bj.kind,ax bj.v.kind,ax bj.v.n,ay bj.v.s,aH (bj.v.l.map cn),aH (bj.v.f.map cB),ay bj.s,ay bj.t,aH (bj.a.map bY),aH (bj.n.map cm)], .cells [ax 6,ax 0,ax 0,ay ([]), .own [], .own [],ay ([]),ay ([]), .own ((([bj]:List au)++([eE]:List au)).map bY), .own []]],m)) (fun ⟨a9,ee,ef,eE⟩=>aX l (cr l n k (bO+1)) eE (bO+1) bb bo a9 ee ef) (by decide+kernel) ?_ ?_
   · rintro ⟨a9,ee,ef,eE⟩ e9
     try dsimp only at e9
     have vK:=e9.ba
     have vL:=e9.ad
     have vM:=e9.bB
     refine bx 115 [0] (σ:=ar×Int×Int×Int) (fun ⟨jR,hO,ev,eS⟩=>(aX l (b8 l n 4 ([41]:List UInt8) a9) jR a9 ee ef hO ev eS)∧(ev≠0→jR=[])) (fun ⟨jR,hO,ev,eS⟩=>ay jR) (fun ⟨jR,hO,ev,eS⟩=>[bA l n hO ev eS]) rfl (fun _=>rfl) (fun bs ai gd aq K U=>jz l n a9 ee ef 4 ([41]:List UInt8) (bs.getD 0 0) av (by omega) (by omega) (by omega) ai gd K (fun bQ a8 a1 a6 aC ak=>U (bQ,a8,a1,a6) ⟨aC,ak⟩)) ?_
     rintro ⟨jR,hO,ev,eS⟩ dR
     dsimp only at dR
     obtain ⟨dR,Kw⟩:=dR
     have EU:=dR.ba
     have EV:=dR.ad
     have yy:=dR.bB
     refine rt rfl fun _=>?_
     show K (.agg [.int .i64 6, .int .i64 0, .int .i64 0, .str ([]), .slice false [], .slice false [], .str ([]), .str ([]), .slice false ((([bj]:List au)++([eE]:List au)).map bY), .slice false []]) (ae.aS m [(r, .cells [.slice false (l.map bm), .int .i64 hO, .int .i64 n, .err 115 ev, .int .i64 eS])])
     refine cL (U (.mk 6 dB [] [] [bj,eE] []) _ _ _ ?_) ?_
     · rw [nJ]
       refine bp.bind ?_
       rw [if_neg (cJ (cx dE.1)),if_pos dE.2]
       exact aX.from dE.1 (by omega) (e9.bind (dR.map fun _=>au.mk 6 dB [] [] [bj,eE] []))
     · simp only [bU,au.a,List.map_cons,List.map_nil,List.map_append,List.cons_append,List.nil_append,cy];rfl
   repeat' first
    |refine ⟨(dy,dt,dQ,eY),⟨rfl,rfl⟩,ej⟩
    |(refine bx 115 [0] (σ:=au×Int×Int×Int) (fun ⟨eY,dy,dt,dQ⟩=>aX l (cr l n k (bO+1)) eY (bO+1) bb bo dy dt dQ) (fun ⟨eY,dy,dt,dQ⟩=>fR eY) (fun ⟨eY,dy,dt,dQ⟩=>[bA l n dy dt dQ]) rfl (fun _=>rfl) (fun bs ai gd aq K U=>aO (bO+1) bb bo (d+1) (by omega) (by omega) (by omega) (by omega) (bs.getD 0 0) ai gd (cW.up aq aP) K (fun c1 a8 a1 a6 aC=>U (c1,a8,a1,a6) aC)) ?_;rintro ⟨eY,dy,dt,dQ⟩ ej;dsimp only at ej;have rY:=ej.ba;have rZ:=ej.ad;have r0:=ej.bB)
    |refine ap bY ([bj]:List au) ([eY]:List au) (by simp only [List.map_cons,List.map_nil,cy];try rfl) (by simp only [List.map_cons,List.map_nil,cy];try rfl) (fun a=>by rw [cy];exact ⟨rfl,rfl⟩) (by (simp only [List.length_append,List.length_cons,List.length_nil];omega)) ?_
    |refine ag (by omega) ?_
    |refine ⟨?_,?_,trivial⟩
 try dsimp only [Sum.elim_inl,Sum.elim_inr] at dE
 dsimp only [Sum.elim_inl,Sum.elim_inr]
 refine bx 115 [0] (σ:=(Unit) ⊕ (Unit)) (Sum.elim (fun _=>bb=0∧bq l 4 ([63]:List UInt8) bO=true) (fun _=>bb=0→bq l 4 ([63]:List UInt8) bO=false)) (Sum.elim (fun _=> .b (.lit true)) (fun _=> .b (.lit false))) (Sum.elim (fun _=>[bA l n (bO+1) bb bo]) (fun _=>[bA l n bO bb bo])) rfl (fun x=>by rcases x with _|_<;>rfl) (fun bs ai gd aq K U=>iC l n bO bb bo 4 ([63]:List UInt8) (bs.getD 0 0) av (by omega) (by omega) (by omega) ai gd K (fun z w=>U (.inl ()) ⟨z,w⟩) (fun z=>U (.inr ()) z)) ?_
 rintro (_|_) ed
 · try dsimp only [Sum.elim_inl,Sum.elim_inr] at ed
   dsimp only [Sum.elim_inl,Sum.elim_inr]
   have Kx:=gm ed.2
   refine hS b2 Tryz.mixed (σ:=Int×Int×Int×au) (.f 0 (.f 2 (.f 3 (.o 1 (.s 4 (.s 5 (.s 6 (.s 7 (.f 8 (.s 9 .d)))))) (.o 4 (.o 1 (.s 5 (.s 6 (.s 7 (.f 8 (.s 9 .d))))) (.o 5 (.o 1 (.s 6 (.s 7 (.f 8 (.s 9 .d)))) (.o 6 (.s 1 (.s 7 (.f 8 (.s 9 .d)))) .z)) .z)) .z))))) [] [0,1,4,6] 4 (fun ⟨nK,f9,ov,lZ⟩=>([(0, .loc 0 0),(1,ax d),(4, .loc 1 0),(6, .loc 3 0)],[bA l n nK f9 ov, .cells [ax 0,ax 0,ax 0,ay ([]), .own [], .own [],ay ([]),ay ([]), .own [], .own []], .cells [ax bj.kind,ax bj.v.kind,ax bj.v.n,ay bj.v.s,aH (bj.v.l.map cn),aH (bj.v.f.map cB),ay bj.s,ay bj.t,aH (bj.a.map bY),aH (bj.n.map cm)], .cells [ax 7,ax 0,ax 0,ay ([]), .own [], .own [],ay ([]),ay ([]), .own ((([bj]:List au)++([lZ]:List au)).map bY), .own []]],m)) (fun ⟨nK,f9,ov,lZ⟩=>aX l (cr l n k (bO+1)) lZ (bO+1) bb bo nK f9 ov) (by decide+kernel) ?_ ?_
   · rintro ⟨nK,f9,ov,lZ⟩ h9
     try dsimp only at h9
     have Ky:=h9.ba
     have Kz:=h9.ad
     have KA:=h9.bB
     refine bx 115 [0] (σ:=ar×Int×Int×Int) (fun ⟨e4,eJ,eK,fa⟩=>(aX l (b8 l n 4 ([58]:List UInt8) nK) e4 nK f9 ov eJ eK fa)∧(eK≠0→e4=[])) (fun ⟨e4,eJ,eK,fa⟩=>ay e4) (fun ⟨e4,eJ,eK,fa⟩=>[bA l n eJ eK fa]) rfl (fun _=>rfl) (fun bs ai gd aq K U=>jz l n nK f9 ov 4 ([58]:List UInt8) (bs.getD 0 0) av (by omega) (by omega) (by omega) ai gd K (fun bQ a8 a1 a6 aC ak=>U (bQ,a8,a1,a6) ⟨aC,ak⟩)) ?_
     rintro ⟨e4,eJ,eK,fa⟩ et
     dsimp only at et
     obtain ⟨et,Ba⟩:=et
     have vG:=et.ba
     have vH:=et.ad
     have vI:=et.bB
     refine hS b2 Tryz.mixed (σ:=Int×Int×Int×au) (.f 0 (.f 2 (.f 3 (.o 1 (.s 4 (.s 5 (.s 6 (.s 7 (.f 8 (.s 9 .d)))))) (.o 4 (.o 1 (.s 5 (.s 6 (.s 7 (.f 8 (.s 9 .d))))) (.o 5 (.o 1 (.s 6 (.s 7 (.f 8 (.s 9 .d)))) (.o 6 (.s 1 (.s 7 (.f 8 (.s 9 .d)))) .z)) .z)) .z))))) [] [0,4,6] 4 (fun ⟨a9,ee,ef,eE⟩=>([(0, .loc 0 0),(4, .loc 1 0),(6, .loc 3 0)],[bA l n a9 ee ef, .cells [ax 0,ax 0,ax 0,ay ([]), .own [], .own [],ay ([]),ay ([]), .own [], .own []], .cells [ax bj.kind,ax bj.v.kind,ax bj.v.n,ay bj.v.s,aH (bj.v.l.map cn),aH (bj.v.f.map cB),ay bj.s,ay bj.t,aH (bj.a.map bY),aH (bj.n.map cm)], .cells [ax 7,ax 0,ax 0,ay ([]), .own [], .own [],ay ([]),ay ([]), .own (((([bj]:List au)++([lZ]:List au))++([eE]:List au)).map bY), .own []]],m)) (fun ⟨a9,ee,ef,eE⟩=>aX l (cr l n k eJ) eE eJ eK fa a9 ee ef) (by decide+kernel) ?_ ?_
     · rintro ⟨a9,ee,ef,eE⟩ e9
       try dsimp only at e9
       have vK:=e9.ba
       have vL:=e9.ad
       have vM:=e9.bB
       refine bx 115 [0] (σ:=ar×Int×Int×Int) (fun ⟨gI,dN,dO,eu⟩=>(aX l (b8 l n 4 ([41]:List UInt8) a9) gI a9 ee ef dN dO eu)∧(dO≠0→gI=[])) (fun ⟨gI,dN,dO,eu⟩=>ay gI) (fun ⟨gI,dN,dO,eu⟩=>[bA l n dN dO eu]) rfl (fun _=>rfl) (fun bs ai gd aq K U=>jz l n a9 ee ef 4 ([41]:List UInt8) (bs.getD 0 0) av (by omega) (by omega) (by omega) ai gd K (fun bQ a8 a1 a6 aC ak=>U (bQ,a8,a1,a6) ⟨aC,ak⟩)) ?_
       rintro ⟨gI,dN,dO,eu⟩ eR
       dsimp only at eR
       obtain ⟨eR,EW⟩:=eR
       have tC:=eR.ba
       have tD:=eR.ad
       have tE:=eR.bB
       refine rt rfl fun _=>?_
       show K (.agg [.int .i64 7, .int .i64 0, .int .i64 0, .str ([]), .slice false [], .slice false [], .str ([]), .str ([]), .slice false (((([bj]:List au)++([lZ]:List au))++([eE]:List au)).map bY), .slice false []]) (ae.aS m [(r, .cells [.slice false (l.map bm), .int .i64 dN, .int .i64 n, .err 115 dO, .int .i64 eu])])
       refine cL (U (.mk 7 dB [] [] [bj,lZ,eE] []) _ _ _ ?_) ?_
       · rw [nJ]
         refine bp.bind ?_
         rw [if_neg (cJ (cx ed.1)),if_neg (cJ (dE ed.1)),if_pos ed.2]
         exact aX.from ed.1 (by omega) (h9.bind (et.bind (e9.bind (eR.map fun _=>au.mk 7 dB [] [] [bj,lZ,eE] []))))
       · simp only [bU,au.a,List.map_cons,List.map_nil,List.map_append,List.cons_append,List.nil_append,cy];rfl
     repeat' first
      |refine ⟨(gn,gC,gJ,fY),⟨rfl,rfl⟩,fb⟩
      |(refine bx 115 [0] (σ:=au×Int×Int×Int) (fun ⟨fY,gn,gC,gJ⟩=>aX l (cr l n k eJ) fY eJ eK fa gn gC gJ) (fun ⟨fY,gn,gC,gJ⟩=>fR fY) (fun ⟨fY,gn,gC,gJ⟩=>[bA l n gn gC gJ]) rfl (fun _=>rfl) (fun bs ai gd aq K U=>aO eJ eK fa (d+1) (by omega) (by omega) (by omega) (by omega) (bs.getD 0 0) ai gd (cW.up aq aP) K (fun c1 a8 a1 a6 aC=>U (c1,a8,a1,a6) aC)) ?_;rintro ⟨fY,gn,gC,gJ⟩ fb;dsimp only at fb;have Bb:=fb.ba;have Bc:=fb.ad;have Bd:=fb.bB)
      |refine ap bY (([bj]:List au)++([lZ]:List au)) ([fY]:List au) rfl (by simp only [List.map_cons,List.map_nil,cy];try rfl) (fun a=>by rw [cy];exact ⟨rfl,rfl⟩) (by (simp only [List.length_append,List.length_cons,List.length_nil];omega)) ?_
      |refine ag (by omega) ?_
      |refine ⟨?_,?_,trivial⟩
   repeat' first
    |refine ⟨(fA,e5,ff,fZ),⟨rfl,rfl⟩,fi⟩
    |(refine bx 115 [0] (σ:=au×Int×Int×Int) (fun ⟨fZ,fA,e5,ff⟩=>aX l (cr l n k (bO+1)) fZ (bO+1) bb bo fA e5 ff) (fun ⟨fZ,fA,e5,ff⟩=>fR fZ) (fun ⟨fZ,fA,e5,ff⟩=>[bA l n fA e5 ff]) rfl (fun _=>rfl) (fun bs ai gd aq K U=>aO (bO+1) bb bo (d+1) (by omega) (by omega) (by omega) (by omega) (bs.getD 0 0) ai gd (cW.up aq aP) K (fun c1 a8 a1 a6 aC=>U (c1,a8,a1,a6) aC)) ?_;rintro ⟨fZ,fA,e5,ff⟩ fi;dsimp only at fi;have yz:=fi.ba;have yA:=fi.ad;have vN:=fi.bB)
    |refine ap bY ([bj]:List au) ([fZ]:List au) (by simp only [List.map_cons,List.map_nil,cy];try rfl) (by simp only [List.map_cons,List.map_nil,cy];try rfl) (fun a=>by rw [cy];exact ⟨rfl,rfl⟩) (by (simp only [List.length_append,List.length_cons,List.length_nil];omega)) ?_
    |refine ag (by omega) ?_
    |refine ⟨?_,?_,trivial⟩
 try dsimp only [Sum.elim_inl,Sum.elim_inr] at ed
 dsimp only [Sum.elim_inl,Sum.elim_inr]
 refine bx 115 [0] (σ:=Int×Int) (fun ⟨fe,fz⟩=>(bb=0→fe=5∧fz=cp l n bO)∧(bb≠0→fe=bb∧fz=bo)∧0<fe) (fun ⟨fe,fz⟩=> .da []) (fun ⟨fe,fz⟩=>[bA l n bO fe fz]) rfl (fun _=>rfl) (fun bs ai gd aq K U=>o9 l n bO bb bo 5 (bs.getD 0 0) (by decide) av (by omega) (by omega) (by omega) ai gd K (fun z=>U (5,cp l n bO) ⟨fun _=>⟨rfl,rfl⟩,fun y=>absurd z y,by decide⟩) (fun z=>U (bb,bo) ⟨fun y=>absurd y z,fun _=>⟨rfl,rfl⟩,by omega⟩)) ?_
 rintro ⟨fe,fz⟩ gP
 dsimp only at gP
 obtain ⟨EX,Be,EY⟩:=gP
 refine hS b2 Tryz.mixed (σ:=Int×Int×Int×au) (.f 0 (.f 2 (.f 3 (.o 1 (.s 4 (.s 5 (.s 6 (.s 7 (.f 8 (.s 9 .d)))))) (.o 4 (.o 1 (.s 5 (.s 6 (.s 7 (.f 8 (.s 9 .d))))) (.o 5 (.o 1 (.s 6 (.s 7 (.f 8 (.s 9 .d)))) (.o 6 (.s 1 (.s 7 (.f 8 (.s 9 .d)))) .z)) .z)) .z))))) [] [0,4,6] 4 (fun ⟨a9,ee,ef,eE⟩=>([(0, .loc 0 0),(4, .loc 1 0),(6, .loc 3 0)],[bA l n a9 ee ef, .cells [ax 0,ax 0,ax 0,ay ([]), .own [], .own [],ay ([]),ay ([]), .own [], .own []], .cells [ax bj.kind,ax bj.v.kind,ax bj.v.n,ay bj.v.s,aH (bj.v.l.map cn),aH (bj.v.f.map cB),ay bj.s,ay bj.t,aH (bj.a.map bY),aH (bj.n.map cm)], .cells [ax 5,ax 0,ax 0,ay ([]), .own [], .own [],ay ([]),ay ([]), .own ((([bj]:List au)++([eE]:List au)).map bY), .own []]],m)) (fun ⟨a9,ee,ef,eE⟩=>aX l (cr l n k bO) eE bO fe fz a9 ee ef) (by decide+kernel) ?_ ?_
 · rintro ⟨a9,ee,ef,eE⟩ e9
   try dsimp only at e9
   have vK:=e9.ba
   have vL:=e9.ad
   have vM:=e9.bB
   refine bx 115 [0] (σ:=ar×Int×Int×Int) (fun ⟨nL,nM,iP,jB⟩=>(aX l (b8 l n 4 ([41]:List UInt8) a9) nL a9 ee ef nM iP jB)∧(iP≠0→nL=[])) (fun ⟨nL,nM,iP,jB⟩=>ay nL) (fun ⟨nL,nM,iP,jB⟩=>[bA l n nM iP jB]) rfl (fun _=>rfl) (fun bs ai gd aq K U=>jz l n a9 ee ef 4 ([41]:List UInt8) (bs.getD 0 0) av (by omega) (by omega) (by omega) ai gd K (fun bQ a8 a1 a6 aC ak=>U (bQ,a8,a1,a6) ⟨aC,ak⟩)) ?_
   rintro ⟨nL,nM,iP,jB⟩ kv
   dsimp only at kv
   obtain ⟨kv,TH⟩:=kv
   have TI:=kv.ba
   have TJ:=kv.ad
   have TK:=kv.bB
   refine rt rfl fun _=>?_
   show K (.agg [.int .i64 5, .int .i64 0, .int .i64 0, .str ([]), .slice false [], .slice false [], .str ([]), .str ([]), .slice false ((([bj]:List au)++([eE]:List au)).map bY), .slice false []]) (ae.aS m [(r, .cells [.slice false (l.map bm), .int .i64 nM, .int .i64 n, .err 115 iP, .int .i64 jB])])
   refine cL (U (.mk 5 dB [] [] [bj,eE] []) _ _ _ ?_) ?_
   · obtain ⟨rfl,rfl,rfl⟩:=e9.st (by omega)
     obtain ⟨rfl,rfl,rfl⟩:=kv.st (by omega)
     rw [nJ]
     refine bp.bind ?_
     by_cases ak:bb=0
     · rw [if_neg (cJ (cx ak)),if_neg (cJ (dE ak)),if_neg (cJ (ed ak))]
       exact aX.bad _ (by omega) EX Be EY
     · obtain ⟨rfl,rfl⟩:=Be ak
       exact aX.stuck ak (by omega) (by omega)
   · simp only [bU,au.a,List.map_cons,List.map_nil,List.map_append,List.cons_append,List.nil_append,cy];rfl
 repeat' first
  |refine ⟨(hP,gH,gQ,ga),⟨rfl,rfl⟩,hN⟩
  |(refine bx 115 [0] (σ:=au×Int×Int×Int) (fun ⟨ga,hP,gH,gQ⟩=>aX l (cr l n k bO) ga bO fe fz hP gH gQ) (fun ⟨ga,hP,gH,gQ⟩=>fR ga) (fun ⟨ga,hP,gH,gQ⟩=>[bA l n hP gH gQ]) rfl (fun _=>rfl) (fun bs ai gd aq K U=>aO bO fe fz (d+1) (by omega) (by omega) (by omega) (by omega) (bs.getD 0 0) ai gd (cW.up aq aP) K (fun c1 a8 a1 a6 aC=>U (c1,a8,a1,a6) aC)) ?_;rintro ⟨ga,hP,gH,gQ⟩ hN;dsimp only at hN;have EZ:=hN.ba;have E0:=hN.ad;have E1:=hN.bB)
  |refine ap bY ([bj]:List au) ([ga]:List au) (by simp only [List.map_cons,List.map_nil,cy];try rfl) (by simp only [List.map_cons,List.map_nil,cy];try rfl) (fun a=>by rw [cy];exact ⟨rfl,rfl⟩) (by (simp only [List.length_append,List.length_cons,List.length_nil];omega)) ?_
  |refine ag (by omega) ?_
  |refine ⟨?_,?_,trivial⟩
end Go.Proofs
end
section
namespace Go.Proofs
open Go Go.bg Go.cz
set_option maxRecDepth 100000
structure dV {eT:Type} (P:bP eT) (e q:Int) (Q:bP eT):Prop where
 y:e=0→P=Q
 z:e≠0→P.f=e∧P.p=q
section
variable {l:List Tok} {α eT:Type} {P R:bP eT} {p:bP α} {x:α} {ct aF cq a2 az bl f s:Int}
theorem dV.step [Inhabited eT] {g:α→Int→bP eT} (c:dV P aF cq (p.bind g)) (o:aX l p x ct aF cq a2 az bl):dV P az bl (g x a2):=by
 by_cases ak:aF=0
 · have J:=o.ok ak
   have ao:=c.y ak
   refine ⟨fun h=>?_,fun h=>?_⟩
   · obtain ⟨rfl,rfl⟩:=J.y h
     rw [ao,bP.bind,if_pos (by rw [←J.f];exact h)]
   · rw [ao,bP.bind,if_neg (by rw [←J.f];exact h)]
     exact ⟨J.f.symm,(J.z h).symm⟩
 · obtain ⟨_,rfl,rfl⟩:=o.st ak
   exact ⟨fun h=>absurd h ak,c.z⟩
theorem dV.fail [Inhabited eT] (c:dV P aF cq (.bad f s)) (J:aF=0→az=f∧bl=s) (aa:aF≠0→az=aF∧bl=cq) (aj:0<az):dV P az bl R:=by
 refine ⟨fun h=>by omega,fun _=>?_⟩
 by_cases ak:aF=0
 · obtain ⟨rfl,rfl⟩:=J ak;rw [c.y ak];exact ⟨rfl,rfl⟩
 · obtain ⟨rfl,rfl⟩:=aa ak;exact c.z ak
theorem dV.to {Q hX:bP eT} (c:dV P aF cq Q) (h:aF=0→Q=hX):dV P aF cq hX:=⟨fun z=>(c.y z).trans (h z),c.z⟩
theorem dV.done {a e q:Int} {y:eT} (c:dV P aF cq (.ok y (ct+1))) (ak:aF=0) (he:e=0) (aT:a≤ct) (h:ct<l.length):aX l P y a e q (ct+1) aF cq:=
 ⟨fun _=>by rw [c.y ak];exact ⟨ak,fun _=>⟨rfl,rfl⟩,fun h=>absurd ak h⟩,fun h=>absurd he h,by omega,by omega,by omega,fun _=>by omega⟩
theorem dV.bad {Q:bP eT} {a e q:Int} {y:eT} (c:dV P aF cq Q) (ak:aF≠0) (he:e=0) (aT:a≤ct) (h:ct≤l.length) (aM:0≤aF):aX l P y a e q ct aF cq:=
 ⟨fun _=>⟨(c.z ak).1.symm,fun h=>absurd h ak,fun _=>(c.z ak).2.symm⟩,fun h=>absurd he h,aT,h,aM,fun h=>absurd h ak⟩
end
theorem tF {α β:Type} [Inhabited β] {l:List Tok} {n a:Int} {xs:List α} {g:Int→bP β} (h:0<(xs.length:Int)):nI l n xs a g=(b8 l n 4 [44] a).bind fun _ a=>g a:=by
 rw [nI,if_neg (fun e=>by subst e;simp at h)]
theorem tG {α β:Type} [Inhabited β] {l:List Tok} {n a:Int} {xs:List α} {g:Int→bP β} (h:(xs.length:Int)≤0):nI l n xs a g=g a:=by
 rw [nI,if_pos (List.eq_nil_of_length_eq_zero (by omega))]
section
variable (f:Int→bP au) (l:List Tok) (n:Int) (k:Nat) (cw:List ar) (xs:List au)
def recC (m:ar) (a:Int):bP au:=(b8 l n 4 [58] a).bind fun _ a=>(f a).bind fun x a=>kV f l n k a (cw++[m]) (xs++[x])
def E2 (m:ar) (a:Int):bP au:=if yw cw m then .bad 3 (cp l n a) else recC f l n k cw xs m a
def yB (a:Int):bP au:=(b8 l n 1 [] a).bind fun m a=>E2 f l n k cw xs m a
end
theorem E3 {f:Int→bP au} {l:List Tok} {n a:Int} {k:Nat} {cw:List ar} {xs:List au} {m:ar} (h:yw cw m):E2 f l n k cw xs m a= .bad 3 (cp l n a):=if_pos h
theorem E4 {f:Int→bP au} {l:List Tok} {n a:Int} {k:Nat} {cw:List ar} {xs:List au} {m:ar} (h:(cw.length:Int)≤0∨Op.bytesLess (I cw ((cw.length:Int)- 1)) m=true):E2 f l n k cw xs m a=recC f l n k cw xs m a:=
 if_neg fun ah=>by
  obtain ⟨hW,j1⟩:=ah
  rcases h with h|h
  · omega
  · rw [j1] at h;cases h
theorem yC {f:Int→bP au} {l:List Tok} {n a:Int} {k:Nat} {cw:List ar} {xs:List au} (h:bq l 4 [125] a=false):kV f l n (k+1) a cw xs=nI l n xs a fun a=>yB f l n k cw xs a:=by
 rw [kV,if_neg (cJ h)];rfl
theorem KB {f:Int→bP au} {l:List Tok} {n a:Int} {k:Nat} {cw:List ar} {xs:List au} (h:bq l 4 [125] a=true):kV f l n (k+1) a cw xs= .ok (.mk 9 dB [] [] xs cw) (a+1):=by
 rw [kV,if_pos h]
theorem E5 {f:Int→bP au} {l:List Tok} {n a:Int} {k:Nat} {xs:List au} (h:bq l 4 [93] a=false):lY f l n (k+1) a xs=nI l n xs a fun a=>(f a).bind fun x a=>lY f l n k a (xs++[x]):=by
 rw [lY,if_neg (cJ h)]
theorem KC {f:Int→bP au} {l:List Tok} {n a:Int} {k:Nat} {xs:List au} (h:bq l 4 [93] a=true):lY f l n (k+1) a xs= .ok (.mk 8 dB [] [] xs []) (a+1):=by
 rw [lY,if_pos h]
set_option maxHeartbeats 4000000 in
theorem TL (l:List Tok) (n a e q:Int) (k:Nat) (d:Int) (r:Nat) (aO:∀a e q d:Int,d=7- (k:Int)→0≤a→a≤l.length→0≤e→∀(r:Nat) (m:ae),eC [r] m→cW m→∀(K:ab→ae→Prop),(∀bH bZ bR cj,aX l (cr l n k a) bH a e q bZ bR cj→K (bU bH) (ae.aS m [(r, .cells [.slice false (l.map bm), .int .i64 bZ, .int .i64 n, .err 115 bR, .int .i64 cj])]))→bh Tryz.prog 127 [.ptr ⟨r,0,none⟩, .int .i64 d] (ae.aS m [(r, .cells [.slice false (l.map bm), .int .i64 a, .int .i64 n, .err 115 e, .int .i64 q])]) K) (av:l.length≤5000) (aJ:0≤a) (aT:a≤l.length) (he:0≤e) (al:k≤7) (aY:d+1=7- (k:Int)) (ak:e=0) (m:ae) (gd:eC [r] m) (K:ab→ae→Prop) (aP:cW m) (U:∀bH bZ bR cj,aX l (kV (cr l n k) l n (l.length+1) a [] []) bH a e q bZ bR cj→K (bU bH) (ae.aS m [(r, .cells [.slice false (l.map bm), .int .i64 bZ, .int .i64 n, .err 115 bR, .int .i64 cj])])):bh Tryz.prog 178 [.ptr ⟨r,0,none⟩, .int .i64 d] (ae.aS m [(r, .cells [.slice false (l.map bm), .int .i64 a, .int .i64 n, .err 115 e, .int .i64 q])]) K:=by
 refine enter (c:=cT [] [] [7] [11999] [11] [r]) (vs:=[.loc 0 0, .aI (.int .i64 d)]) (L:=[bA l n a e q]) (m:=m) false b2 Tryz.mixed Tryz.func178 rfl (k:=2) (by show cO [11999] _ _ _=true;decide+kernel) rfl (gd.gZ rfl) ?_
 refine aB ?_
 refine cH (σ:=Int×Int×Int×List au×List ar) [] [0,1,4,5] 3 (fun ⟨a2,az,bl,xs,cw⟩=>([(0, .loc 0 0),(1,ax d),(4, .loc 1 0),(5, .loc 2 0)],[bA l n a2 az bl, .cells [ax 0,ax 0,ax 0,ay ([]), .own [], .own [],ay ([]),ay ([]), .own [], .own []], .cells [ax 9,ax 0,ax 0,ay ([]:ar), .own [], .own [],ay ([]:ar),ay ([]:ar), .own (xs.map bY), .own (cw.map cm)]],m)) (fun ⟨a2,az,bl,xs,cw⟩=>0≤a2∧a≤a2∧a2≤l.length∧0≤az∧(az=0→(xs.length:Int)≤a2∧(cw.length:Int)≤a2)∧xs.length≤5001∧cw.length≤5001∧∃bV:Nat,(az=0→l.length- a2<bV)∧dV (kV (cr l n k) l n (l.length+1) a [] []) az bl (kV (cr l n k) l n bV a2 cw xs)) (fun ⟨a2,az,bl,xs,cw⟩=>if az=0 then l.length- a2.toNat+1 else 0) (a,e,q,[],[]) ⟨rfl,rfl⟩ ?_ ?_
 · try dsimp only
   exact ⟨by omega,by omega,by omega,by omega,fun _=>⟨by simp;omega,by simp;omega⟩,by simp,by simp,l.length+1,fun _=>by omega,⟨fun _=>rfl,fun h=>absurd ak h⟩⟩
 rintro ⟨a2,az,bl,xs,cw⟩ aE
 dsimp only at aE
 obtain ⟨i1,i2,i3,i4,i5,i6,i7,bV,i8,i9⟩:=aE
 refine aB ?_
 refine bx 115 [0] (σ:=(Unit) ⊕ (Unit)) (Sum.elim (fun _=>az=0∧bq l 4 ([125]:List UInt8) a2=true) (fun _=>az=0→bq l 4 ([125]:List UInt8) a2=false)) (Sum.elim (fun _=> .b (.lit true)) (fun _=> .b (.lit false))) (Sum.elim (fun _=>[bA l n (a2+1) az bl]) (fun _=>[bA l n a2 az bl])) rfl (fun x=>by rcases x with _|_<;>rfl) (fun bs ai gd aq K U=>iC l n a2 az bl 4 ([125]:List UInt8) (bs.getD 0 0) av (by omega) (by omega) (by omega) ai gd K (fun z w=>U (.inl ()) ⟨z,w⟩) (fun z=>U (.inr ()) z)) ?_
 rintro (_|_) bp
 · try dsimp only [Sum.elim_inl,Sum.elim_inr] at bp
   dsimp only [Sum.elim_inl,Sum.elim_inr]
   have vC:=gm bp.2
   refine rt rfl fun _=>?_
   show K (.agg [.int .i64 9, .int .i64 0, .int .i64 0, .str ([]:ar), .slice false [], .slice false [], .str ([]:ar), .str ([]:ar), .slice false (xs.map bY), .slice false (cw.map cm)]) (ae.aS m [(r, .cells [.slice false (l.map bm), .int .i64 (a2+1), .int .i64 n, .err 115 az, .int .i64 bl])])
   obtain ⟨bV,rfl⟩:∃k,bV=k+1:=⟨bV- 1,by have:=i8 bp.1;omega⟩
   refine cL (U (.mk 9 dB [] [] xs cw) _ _ _ ?_) ?_
   · exact dV.done (i9.to fun _=>KB bp.2) bp.1 ak (by omega) vC
   · simp only [bU,au.a,au.n];rfl
 try dsimp only [Sum.elim_inl,Sum.elim_inr] at bp
 dsimp only [Sum.elim_inl,Sum.elim_inr]
 refine ag (fun J=>?_) (fun J=>?_)
 · obtain ⟨bV,rfl⟩:∃k,bV=k+1:=⟨bV- 1,by have:=i8 J;omega⟩
   rw [yC (bp J)] at i9
   have i10:=i8 J
   have i11:=i5 J
   refine rN (σ:=Int×Int×Int) [] [0,1,4,5] 3 (fun ⟨ia,f3,jc⟩=>([(0, .loc 0 0),(1,ax d),(4, .loc 1 0),(5, .loc 2 0)],[bA l n ia f3 jc, .cells [ax 0,ax 0,ax 0,ay ([]), .own [], .own [],ay ([]),ay ([]), .own [], .own []], .cells [ax 9,ax 0,ax 0,ay ([]:ar), .own [], .own [],ay ([]:ar),ay ([]:ar), .own (xs.map bY), .own (cw.map cm)]],m)) (fun ⟨ia,f3,jc⟩=>a2≤ia∧ia≤l.length∧0≤f3∧dV (kV (cr l n k) l n (l.length+1) a [] []) f3 jc (yB (cr l n k) l n bV cw xs ia)) ?_ ?_
   · rintro ⟨ia,f3,jc⟩ mG
     refine bx 115 [0] (σ:=ar×Int×Int×Int) (fun ⟨db,dj,b3,cg⟩=>aX l (b8 l n 1 [] ia) db ia f3 jc dj b3 cg) (fun ⟨db,dj,b3,cg⟩=>ay db) (fun ⟨db,dj,b3,cg⟩=>[bA l n dj b3 cg]) rfl (fun _=>rfl) (fun bs ai gd aq K U=>pb l n ia f3 jc (bs.getD 0 0) av (by omega) (by omega) (by omega) ai gd K (fun bQ a8 a1 a6 aC=>U (bQ,a8,a1,a6) aC)) ?_
     rintro ⟨db,dj,b3,cg⟩ cx
     dsimp only at cx
     have qV:=cx.ba
     have ig:=cx.ad
     have qW:=cx.bB
     refine rN (σ:=Int×Int×Int) [] [0,1,4,5,6] 3 (fun ⟨c3,g3,pR⟩=>([(0, .loc 0 0),(1,ax d),(4, .loc 1 0),(5, .loc 2 0),(6,ay db)],[bA l n c3 g3 pR, .cells [ax 0,ax 0,ax 0,ay ([]), .own [], .own [],ay ([]),ay ([]), .own [], .own []], .cells [ax 9,ax 0,ax 0,ay ([]:ar), .own [], .own [],ay ([]:ar),ay ([]:ar), .own (xs.map bY), .own (cw.map cm)]],m)) (fun ⟨c3,g3,pR⟩=>ia≤c3∧c3≤l.length∧0≤g3∧dV (kV (cr l n k) l n (l.length+1) a [] []) g3 pR (recC (cr l n k) l n bV cw xs db c3)) ?_ ?_
     · rintro ⟨c3,g3,pR⟩ qX
       refine bx 115 [0] (σ:=ar×Int×Int×Int) (fun ⟨h7,fs,dX,er⟩=>(aX l (b8 l n 4 ([58]:List UInt8) c3) h7 c3 g3 pR fs dX er)∧(dX≠0→h7=[])) (fun ⟨h7,fs,dX,er⟩=>ay h7) (fun ⟨h7,fs,dX,er⟩=>[bA l n fs dX er]) rfl (fun _=>rfl) (fun bs ai gd aq K U=>jz l n c3 g3 pR 4 ([58]:List UInt8) (bs.getD 0 0) av (by omega) (by omega) (by omega) ai gd K (fun bQ a8 a1 a6 aC ak=>U (bQ,a8,a1,a6) ⟨aC,ak⟩)) ?_
       rintro ⟨h7,fs,dX,er⟩ cP
       dsimp only at cP
       obtain ⟨cP,n3⟩:=cP
       have yu:=cP.ba
       have yv:=cP.ad
       have tx:=cP.bB
       refine ap cm cw ([db]:List (List UInt8)) rfl rfl (fun _=>⟨rfl,rfl⟩) (by (simp only [List.length_append,List.length_cons,List.length_nil];omega)) ?_
       refine hS b2 Tryz.mixed (σ:=Int×Int×Int×au) (.f 0 (.f 2 (.f 3 (.o 1 (.s 4 (.s 5 (.s 6 (.s 7 (.f 8 (.s 9 .d)))))) (.o 4 (.o 1 (.s 5 (.s 6 (.s 7 (.f 8 (.s 9 .d))))) (.o 5 (.o 1 (.s 6 (.s 7 (.f 8 (.s 9 .d)))) (.o 6 (.s 1 (.s 7 (.f 8 (.s 9 .d)))) .z)) .z)) .z))))) [] [0,1,4,5] 3 (fun ⟨a9,ee,ef,eE⟩=>([(0, .loc 0 0),(1,ax d),(4, .loc 1 0),(5, .loc 2 0)],[bA l n a9 ee ef, .cells [ax 0,ax 0,ax 0,ay ([]), .own [], .own [],ay ([]),ay ([]), .own [], .own []], .cells [ax 9,ax 0,ax 0,ay ([]:ar), .own [], .own [],ay ([]:ar),ay ([]:ar), .own ((xs++([eE]:List au)).map bY), .own ((cw++([db]:List (List UInt8))).map cm)]],m)) (fun ⟨a9,ee,ef,eE⟩=>aX l (cr l n k fs) eE fs dX er a9 ee ef) (by decide+kernel) ?_ ?_
       · rintro ⟨a9,ee,ef,eE⟩ e9
         try dsimp only at e9
         have vK:=e9.ba
         have vL:=e9.ad
         have vM:=e9.bB
         refine ⟨(a9,ee,ef,xs++([eE]:List au),cw++([db]:List (List UInt8))),⟨rfl,rfl⟩,?_,?_⟩
         · try dsimp only
           have bc:=e9.gt
           have c:=dV.step (dV.step qX.2.2.2 cP) e9
           simp only [List.length_append,List.length_cons,List.length_nil]
           exact ⟨by omega,by omega,by omega,by omega,fun aU=>by have:=bc aU;omega,by omega,by omega,bV,fun aU=>by have:=bc aU;omega,c⟩
         try dsimp only
         rw [if_pos J]
         have bc:=e9.gt
         split<;>omega
       repeat' first
        |refine ⟨(c8,de,dM,hi),⟨rfl,rfl⟩,dd⟩
        |(refine bx 115 [0] (σ:=au×Int×Int×Int) (fun ⟨hi,c8,de,dM⟩=>aX l (cr l n k fs) hi fs dX er c8 de dM) (fun ⟨hi,c8,de,dM⟩=>fR hi) (fun ⟨hi,c8,de,dM⟩=>[bA l n c8 de dM]) rfl (fun _=>rfl) (fun bs ai gd aq K U=>aO fs dX er (d+1) (by omega) (by omega) (by omega) (by omega) (bs.getD 0 0) ai gd (cW.up aq aP) K (fun c1 a8 a1 a6 aC=>U (c1,a8,a1,a6) aC)) ?_;rintro ⟨hi,c8,de,dM⟩ dd;dsimp only at dd;have vD:=dd.ba;have vE:=dd.ad;have vF:=dd.bB)
        |refine ap bY xs ([hi]:List au) rfl (by simp only [List.map_cons,List.map_nil,cy];try rfl) (fun a=>by rw [cy];exact ⟨rfl,rfl⟩) (by (simp only [List.length_append,List.length_cons,List.length_nil];omega)) ?_
        |refine ag (by omega) ?_
        |refine ⟨?_,?_,trivial⟩
     refine bN ?_
     refine cf [0,1,4,5,6] 41 ((decide (0<(cw.length:Int)))&&(!(Op.bytesLess (I cw ((cw.length:Int)- 1)) db))) ?_ ?_
     · repeat' first
        |exact ⟨⟨_,rfl,by grind [bD.val]⟩,rfl⟩
        |refine ag (fun _=>?_) (fun _=>?_)
        |refine ag (by omega) ?_
        |refine cX (by omega) ?_
     refine ag (fun aa=>?_) (fun aa=>?_)
     · replace aa:(0<(cw.length:Int))∧(Op.bytesLess (I cw ((cw.length:Int)- 1)) db=false):=⟨(of_decide_eq_true (dH aa)),(dz (eA aa))⟩
       refine bx 115 [0] (σ:=Int×Int) (fun ⟨dU,eD⟩=>(b3=0→dU=3∧eD=cp l n dj)∧(b3≠0→dU=b3∧eD=cg)∧0<dU) (fun ⟨dU,eD⟩=> .da []) (fun ⟨dU,eD⟩=>[bA l n dj dU eD]) rfl (fun _=>rfl) (fun bs ai gd aq K U=>o9 l n dj b3 cg 3 (bs.getD 0 0) (by decide) av (by omega) (by omega) (by omega) ai gd K (fun z=>U (3,cp l n dj) ⟨fun _=>⟨rfl,rfl⟩,fun y=>absurd z y,by decide⟩) (fun z=>U (b3,cg) ⟨fun y=>absurd y z,fun _=>⟨rfl,rfl⟩,by omega⟩)) ?_
       rintro ⟨dU,eD⟩ dE
       dsimp only at dE
       obtain ⟨TM,TN,TO⟩:=dE
       refine ⟨(dj,dU,eD),⟨rfl,rfl⟩,⟨by omega,by omega,by omega,dV.fail ((dV.step mG.2.2.2 cx).to fun _=>E3 aa) TM TN TO⟩⟩
     replace aa:((cw.length:Int)≤0)∨(Op.bytesLess (I cw ((cw.length:Int)- 1)) db=true):=((eB aa).imp (fun q=>(Int.not_lt.1 (of_decide_eq_false q))) (fun q=>(du q)))
     refine ⟨(dj,b3,cg),⟨rfl,rfl⟩,⟨by omega,by omega,by omega,(dV.step mG.2.2.2 cx).to fun _=>E4 aa⟩⟩
   refine bN ?_
   refine ag (fun aj=>?_) (fun aj=>?_)
   · refine bx 115 [0] (σ:=ar×Int×Int×Int) (fun ⟨gh,dy,dt,dQ⟩=>(aX l (b8 l n 4 ([44]:List UInt8) a2) gh a2 az bl dy dt dQ)∧(dt≠0→gh=[])) (fun ⟨gh,dy,dt,dQ⟩=>ay gh) (fun ⟨gh,dy,dt,dQ⟩=>[bA l n dy dt dQ]) rfl (fun _=>rfl) (fun bs ai gd aq K U=>jz l n a2 az bl 4 ([44]:List UInt8) (bs.getD 0 0) av (by omega) (by omega) (by omega) ai gd K (fun bQ a8 a1 a6 aC ak=>U (bQ,a8,a1,a6) ⟨aC,ak⟩)) ?_
     rintro ⟨gh,dy,dt,dQ⟩ ej
     dsimp only at ej
     obtain ⟨ej,TP⟩:=ej
     have rY:=ej.ba
     have rZ:=ej.ad
     have r0:=ej.bB
     refine ⟨(dy,dt,dQ),⟨rfl,rfl⟩,⟨by omega,by omega,by omega,dV.step (p:=b8 l n 4 [44] a2) (x:=gh) (g:=fun _ a=>yB (cr l n k) l n bV cw xs a) (i9.to fun _=>tF aj) ej⟩⟩
   refine ⟨(a2,az,bl),⟨rfl,rfl⟩,⟨by omega,by omega,by omega,i9.to fun _=>tG aj⟩⟩
 refine rt rfl fun _=>?_
 show K (.agg [.int .i64 9, .int .i64 0, .int .i64 0, .str ([]:ar), .slice false [], .slice false [], .str ([]:ar), .str ([]:ar), .slice false (xs.map bY), .slice false (cw.map cm)]) (ae.aS m [(r, .cells [.slice false (l.map bm), .int .i64 a2, .int .i64 n, .err 115 az, .int .i64 bl])])
 refine cL (U (.mk 9 dB [] [] xs cw) _ _ _ ?_) ?_
 · exact dV.bad i9 J ak (by omega) (by omega) (by omega)
 · simp only [bU,au.a,au.n];rfl
end Go.Proofs
end
section
namespace Go.Proofs
open Go Go.bg Go.cz
set_option maxRecDepth 100000
theorem TQ {l:List Tok} {n k a e q ct aF cq:Int} {s x:ar} (ak:e=0) (aq:bq l k s a=true) (o:aX l (b8 l n k s a) x a e q ct aF cq):x=(I l a).2.2∧ct=a+1∧aF=0:=by
 have h:=o.ok ak
 rw [b8,if_pos aq] at h
 have bM:aF=0:=h.f
 obtain ⟨J,aa⟩:=h.y bM
 exact ⟨J,aa,bM⟩
theorem aX.TR {l:List Tok} {α:Type} {x:α} {a e q aF cq:Int} (aJ:a<l.length) (he:e=0) (J:aF=0):aX l (.ok x (a+1):bP α) x a e q (a+1) aF cq:=
 ⟨fun _=>⟨J,fun _=>⟨rfl,rfl⟩,fun h=>absurd J h⟩,fun h=>absurd he h,by omega,by omega,by omega,fun _=>by omega⟩
set_option maxHeartbeats 4000000 in
theorem TS (l:List Tok) (n a e q:Int) (k:Nat) (d:Int) (r:Nat) (aO:∀a e q d:Int,d=7- (k:Int)→0≤a→a≤l.length→0≤e→∀(r:Nat) (m:ae),eC [r] m→cW m→∀(K:ab→ae→Prop),(∀bH bZ bR cj,aX l (cr l n k a) bH a e q bZ bR cj→K (bU bH) (ae.aS m [(r, .cells [.slice false (l.map bm), .int .i64 bZ, .int .i64 n, .err 115 bR, .int .i64 cj])]))→bh Tryz.prog 127 [.ptr ⟨r,0,none⟩, .int .i64 d] (ae.aS m [(r, .cells [.slice false (l.map bm), .int .i64 a, .int .i64 n, .err 115 e, .int .i64 q])]) K) (av:l.length≤5000) (aJ:0≤a) (aT:a≤l.length) (he:0≤e) (hw:lx l) (al:k≤7) (aY:d+1=7- (k:Int)) (ak:e=0) (m:ae) (gd:eC [r] m) (K:ab→ae→Prop) (aP:cW m) (U:∀bH bZ bR cj,aX l (cr l n (k+1) a) bH a e q bZ bR cj→K (bU bH) (ae.aS m [(r, .cells [.slice false (l.map bm), .int .i64 bZ, .int .i64 n, .err 115 bR, .int .i64 cj])])):bh Tryz.prog 127 [.ptr ⟨r,0,none⟩, .int .i64 d] (ae.aS m [(r, .cells [.slice false (l.map bm), .int .i64 a, .int .i64 n, .err 115 e, .int .i64 q])]) K:=by
 refine enter (c:=cT [] [] [] [11999] [11] [r]) (vs:=[.loc 0 0, .aI (.int .i64 d)]) (L:=[bA l n a e q]) (m:=m) false b2 Tryz.mixed Tryz.func127 rfl (k:=2) (by show cO [11999] _ _ _=true;decide+kernel) rfl (gd.gZ rfl) ?_
 refine aB ?_
 refine ag (fun J=>?_) (fun J=>?_)
 · omega
 refine aB ?_
 refine ag (fun aa=>?_) (fun aa=>?_)
 · refine bx 115 [0] (σ:=(Unit) ⊕ (Unit)) (Sum.elim (fun _=>e=0∧bq l 4 ([40]:List UInt8) a=true) (fun _=>e=0→bq l 4 ([40]:List UInt8) a=false)) (Sum.elim (fun _=> .b (.lit true)) (fun _=> .b (.lit false))) (Sum.elim (fun _=>[bA l n (a+1) e q]) (fun _=>[bA l n a e q])) rfl (fun x=>by rcases x with _|_<;>rfl) (fun bs ai gd aq K U=>iC l n a e q 4 ([40]:List UInt8) (bs.getD 0 0) av (by omega) (by omega) (by omega) ai gd K (fun z w=>U (.inl ()) ⟨z,w⟩) (fun z=>U (.inr ()) z)) ?_
   rintro (_|_) bp
   · try dsimp only [Sum.elim_inl,Sum.elim_inr] at bp
     dsimp only [Sum.elim_inl,Sum.elim_inr]
     have vC:=gm bp.2
     refine bx 115 [0] (σ:=au×Int×Int×Int) (fun ⟨eZ,dj,b3,cg⟩=>aX l (nJ (cr l n k) l n (a+1)) eZ (a+1) e q dj b3 cg) (fun ⟨eZ,dj,b3,cg⟩=>fR eZ) (fun ⟨eZ,dj,b3,cg⟩=>[bA l n dj b3 cg]) rfl (fun _=>rfl) (fun bs ai gd aq K U=>TF l n (a+1) e q k d (bs.getD 0 0) aO av (by omega) (by omega) (by omega) al aY ai gd K (cW.up aq aP) (fun c1 a8 a1 a6 aC=>U (c1,a8,a1,a6) aC)) ?_
     rintro ⟨eZ,dj,b3,cg⟩ cx
     dsimp only at cx
     have qV:=cx.ba
     have ig:=cx.ad
     have qW:=cx.bB
     refine rt rfl fun _=>?_
     show K (.agg [.int .i64 eZ.kind, .int .i64 eZ.v.kind, .int .i64 eZ.v.n, .str eZ.v.s, .slice false (eZ.v.l.map cn), .slice false (eZ.v.f.map cB), .str eZ.s, .str eZ.t, .slice false (eZ.a.map bY), .slice false (eZ.n.map cm)]) (ae.aS m [(r, .cells [.slice false (l.map bm), .int .i64 dj, .int .i64 n, .err 115 b3, .int .i64 cg])])
     refine U eZ _ _ _ ?_
     rw [cr,if_pos bp.2]
     exact aX.from ak (by omega) cx
   try dsimp only [Sum.elim_inl,Sum.elim_inr] at bp
   dsimp only [Sum.elim_inl,Sum.elim_inr]
   refine bx 115 [0] (σ:=(Unit) ⊕ (Unit)) (Sum.elim (fun _=>e=0∧bq l 4 ([91]:List UInt8) a=true) (fun _=>e=0→bq l 4 ([91]:List UInt8) a=false)) (Sum.elim (fun _=> .b (.lit true)) (fun _=> .b (.lit false))) (Sum.elim (fun _=>[bA l n (a+1) e q]) (fun _=>[bA l n a e q])) rfl (fun x=>by rcases x with _|_<;>rfl) (fun bs ai gd aq K U=>iC l n a e q 4 ([91]:List UInt8) (bs.getD 0 0) av (by omega) (by omega) (by omega) ai gd K (fun z w=>U (.inl ()) ⟨z,w⟩) (fun z=>U (.inr ()) z)) ?_
   rintro (_|_) cP
   · try dsimp only [Sum.elim_inl,Sum.elim_inr] at cP
     dsimp only [Sum.elim_inl,Sum.elim_inr]
     have EN:=gm cP.2
     refine aB ?_
     refine cH (σ:=Int×Int×Int×List au) [] [0,1,4,5] 3 (fun ⟨a2,az,bl,xs⟩=>([(0, .loc 0 0),(1,ax d),(4, .loc 1 0),(5, .loc 2 0)],[bA l n a2 az bl, .cells [ax 0,ax 0,ax 0,ay ([]), .own [], .own [],ay ([]),ay ([]), .own [], .own []], .cells [ax 8,ax 0,ax 0,ay ([]:ar), .own [], .own [],ay ([]:ar),ay ([]:ar), .own (xs.map bY), .own []]],m)) (fun ⟨a2,az,bl,xs⟩=>0≤a2∧a+1≤a2∧a2≤l.length∧0≤az∧(az=0→(xs.length:Int)≤a2)∧xs.length≤5001∧∃bV:Nat,(az=0→l.length- a2<bV)∧dV (lY (cr l n k) l n (l.length+1) (a+1) []) az bl (lY (cr l n k) l n bV a2 xs)) (fun ⟨a2,az,bl,xs⟩=>if az=0 then l.length- a2.toNat+1 else 0) (a+1,e,q,[]) ⟨rfl,rfl⟩ ?_ ?_
     · try dsimp only
       exact ⟨by omega,by omega,by omega,by omega,fun _=>by simp;omega,by simp,l.length+1,fun _=>by omega,⟨fun _=>rfl,fun h=>absurd ak h⟩⟩
     rintro ⟨a2,az,bl,xs⟩ aE
     dsimp only at aE
     obtain ⟨i1,i2,i3,i4,i5,i6,bV,i8,i9⟩:=aE
     refine aB ?_
     refine bx 115 [0] (σ:=(Unit) ⊕ (Unit)) (Sum.elim (fun _=>az=0∧bq l 4 ([93]:List UInt8) a2=true) (fun _=>az=0→bq l 4 ([93]:List UInt8) a2=false)) (Sum.elim (fun _=> .b (.lit true)) (fun _=> .b (.lit false))) (Sum.elim (fun _=>[bA l n (a2+1) az bl]) (fun _=>[bA l n a2 az bl])) rfl (fun x=>by rcases x with _|_<;>rfl) (fun bs ai gd aq K U=>iC l n a2 az bl 4 ([93]:List UInt8) (bs.getD 0 0) av (by omega) (by omega) (by omega) ai gd K (fun z w=>U (.inl ()) ⟨z,w⟩) (fun z=>U (.inr ()) z)) ?_
     rintro (_|_) dd
     · try dsimp only [Sum.elim_inl,Sum.elim_inr] at dd
       dsimp only [Sum.elim_inl,Sum.elim_inr]
       have A3:=gm dd.2
       refine rt rfl fun _=>?_
       show K (.agg [.int .i64 8, .int .i64 0, .int .i64 0, .str ([]:ar), .slice false [], .slice false [], .str ([]:ar), .str ([]:ar), .slice false (xs.map bY), .slice false []]) (ae.aS m [(r, .cells [.slice false (l.map bm), .int .i64 (a2+1), .int .i64 n, .err 115 az, .int .i64 bl])])
       obtain ⟨bV,rfl⟩:∃k,bV=k+1:=⟨bV- 1,by have:=i8 dd.1;omega⟩
       refine cL (U (.mk 8 dB [] [] xs []) _ _ _ ?_) ?_
       · rw [cr,if_neg (cJ (bp ak)),if_pos cP.2]
         exact aX.from ak (by omega) (dV.done (a:=a+1) (e:=e) (q:=q) (i9.to fun _=>KC dd.2) dd.1 ak (by omega) A3)
       · simp only [bU,au.a,au.n];rfl
     try dsimp only [Sum.elim_inl,Sum.elim_inr] at dd
     dsimp only [Sum.elim_inl,Sum.elim_inr]
     refine ag (fun aj=>?_) (fun aj=>?_)
     · obtain ⟨bV,rfl⟩:∃k,bV=k+1:=⟨bV- 1,by have:=i8 aj;omega⟩
       rw [E5 (dd aj)] at i9
       have i10:=i8 aj
       have i11:=i5 aj
       refine aB ?_
       refine bN ?_
       refine ag (fun aG=>?_) (fun aG=>?_)
       · refine bx 115 [0] (σ:=ar×Int×Int×Int) (fun ⟨gX,e3,dU,eD⟩=>(aX l (b8 l n 4 ([44]:List UInt8) a2) gX a2 az bl e3 dU eD)∧(dU≠0→gX=[])) (fun ⟨gX,e3,dU,eD⟩=>ay gX) (fun ⟨gX,e3,dU,eD⟩=>[bA l n e3 dU eD]) rfl (fun _=>rfl) (fun bs ai gd aq K U=>jz l n a2 az bl 4 ([44]:List UInt8) (bs.getD 0 0) av (by omega) (by omega) (by omega) ai gd K (fun bQ a8 a1 a6 aC ak=>U (bQ,a8,a1,a6) ⟨aC,ak⟩)) ?_
         rintro ⟨gX,e3,dU,eD⟩ dE
         dsimp only at dE
         obtain ⟨dE,A4⟩:=dE
         have A5:=dE.ba
         have A6:=dE.ad
         have yx:=dE.bB
         refine hS b2 Tryz.mixed (σ:=Int×Int×Int×au) (.f 0 (.f 2 (.f 3 (.o 1 (.s 4 (.s 5 (.s 6 (.s 7 (.f 8 (.s 9 .d)))))) (.o 4 (.o 1 (.s 5 (.s 6 (.s 7 (.f 8 (.s 9 .d))))) (.o 5 (.o 1 (.s 6 (.s 7 (.f 8 (.s 9 .d)))) (.o 6 (.s 1 (.s 7 (.f 8 (.s 9 .d)))) .z)) .z)) .z))))) [] [0,1,4,5] 3 (fun ⟨a9,ee,ef,eE⟩=>([(0, .loc 0 0),(1,ax d),(4, .loc 1 0),(5, .loc 2 0)],[bA l n a9 ee ef, .cells [ax 0,ax 0,ax 0,ay ([]), .own [], .own [],ay ([]),ay ([]), .own [], .own []], .cells [ax 8,ax 0,ax 0,ay ([]:ar), .own [], .own [],ay ([]:ar),ay ([]:ar), .own ((xs++([eE]:List au)).map bY), .own []]],m)) (fun ⟨a9,ee,ef,eE⟩=>aX l (cr l n k e3) eE e3 dU eD a9 ee ef) (by decide+kernel) ?_ ?_
         · rintro ⟨a9,ee,ef,eE⟩ e9
           try dsimp only at e9
           have vK:=e9.ba
           have vL:=e9.ad
           have vM:=e9.bB
           refine ⟨(a9,ee,ef,xs++([eE]:List au)),⟨rfl,rfl⟩,?_,?_⟩
           · try dsimp only
             have bc:=e9.gt
             have c:=dV.step (dV.step (p:=b8 l n 4 [44] a2) (x:=gX) (g:=fun _ a=>(cr l n k a).bind fun x a=>lY (cr l n k) l n bV a (xs++[x])) (i9.to fun _=>tF aG) dE) e9
             simp only [List.length_append,List.length_cons,List.length_nil]
             exact ⟨by omega,by omega,by omega,by omega,fun aU=>by have:=bc aU;omega,by omega,bV,fun aU=>by have:=bc aU;omega,c⟩
           try dsimp only
           rw [if_pos aj]
           have bc:=e9.gt
           split<;>omega
         repeat' first
          |refine ⟨(dy,dt,dQ,eY),⟨rfl,rfl⟩,ej⟩
          |(refine bx 115 [0] (σ:=au×Int×Int×Int) (fun ⟨eY,dy,dt,dQ⟩=>aX l (cr l n k e3) eY e3 dU eD dy dt dQ) (fun ⟨eY,dy,dt,dQ⟩=>fR eY) (fun ⟨eY,dy,dt,dQ⟩=>[bA l n dy dt dQ]) rfl (fun _=>rfl) (fun bs ai gd aq K U=>aO e3 dU eD (d+1) (by omega) (by omega) (by omega) (by omega) (bs.getD 0 0) ai gd (cW.up aq aP) K (fun c1 a8 a1 a6 aC=>U (c1,a8,a1,a6) aC)) ?_;rintro ⟨eY,dy,dt,dQ⟩ ej;dsimp only at ej;have rY:=ej.ba;have rZ:=ej.ad;have r0:=ej.bB)
          |refine ap bY xs ([eY]:List au) rfl (by simp only [List.map_cons,List.map_nil,cy];try rfl) (fun a=>by rw [cy];exact ⟨rfl,rfl⟩) (by (simp only [List.length_append,List.length_cons,List.length_nil];omega)) ?_
          |refine ag (by omega) ?_
          |refine ⟨?_,?_,trivial⟩
       refine hS b2 Tryz.mixed (σ:=Int×Int×Int×au) (.f 0 (.f 2 (.f 3 (.o 1 (.s 4 (.s 5 (.s 6 (.s 7 (.f 8 (.s 9 .d)))))) (.o 4 (.o 1 (.s 5 (.s 6 (.s 7 (.f 8 (.s 9 .d))))) (.o 5 (.o 1 (.s 6 (.s 7 (.f 8 (.s 9 .d)))) (.o 6 (.s 1 (.s 7 (.f 8 (.s 9 .d)))) .z)) .z)) .z))))) [] [0,1,4,5] 3 (fun ⟨a9,ee,ef,eE⟩=>([(0, .loc 0 0),(1,ax d),(4, .loc 1 0),(5, .loc 2 0)],[bA l n a9 ee ef, .cells [ax 0,ax 0,ax 0,ay ([]), .own [], .own [],ay ([]),ay ([]), .own [], .own []], .cells [ax 8,ax 0,ax 0,ay ([]:ar), .own [], .own [],ay ([]:ar),ay ([]:ar), .own ((xs++([eE]:List au)).map bY), .own []]],m)) (fun ⟨a9,ee,ef,eE⟩=>aX l (cr l n k a2) eE a2 az bl a9 ee ef) (by decide+kernel) ?_ ?_
       · rintro ⟨a9,ee,ef,eE⟩ e9
         try dsimp only at e9
         have vK:=e9.ba
         have vL:=e9.ad
         have vM:=e9.bB
         refine ⟨(a9,ee,ef,xs++([eE]:List au)),⟨rfl,rfl⟩,?_,?_⟩
         · try dsimp only
           have bc:=e9.gt
           have c:=dV.step (i9.to fun _=>tG aG) e9
           simp only [List.length_append,List.length_cons,List.length_nil]
           exact ⟨by omega,by omega,by omega,by omega,fun aU=>by have:=bc aU;omega,by omega,bV,fun aU=>by have:=bc aU;omega,c⟩
         try dsimp only
         rw [if_pos aj]
         have bc:=e9.gt
         split<;>omega
       repeat' first
        |refine ⟨(hO,ev,eS,tH),⟨rfl,rfl⟩,dR⟩
        |(refine bx 115 [0] (σ:=au×Int×Int×Int) (fun ⟨tH,hO,ev,eS⟩=>aX l (cr l n k a2) tH a2 az bl hO ev eS) (fun ⟨tH,hO,ev,eS⟩=>fR tH) (fun ⟨tH,hO,ev,eS⟩=>[bA l n hO ev eS]) rfl (fun _=>rfl) (fun bs ai gd aq K U=>aO a2 az bl (d+1) (by omega) (by omega) (by omega) (by omega) (bs.getD 0 0) ai gd (cW.up aq aP) K (fun c1 a8 a1 a6 aC=>U (c1,a8,a1,a6) aC)) ?_;rintro ⟨tH,hO,ev,eS⟩ dR;dsimp only at dR;have EU:=dR.ba;have EV:=dR.ad;have yy:=dR.bB)
        |refine ap bY xs ([tH]:List au) rfl (by simp only [List.map_cons,List.map_nil,cy];try rfl) (fun a=>by rw [cy];exact ⟨rfl,rfl⟩) (by (simp only [List.length_append,List.length_cons,List.length_nil];omega)) ?_
        |refine ag (by omega) ?_
        |refine ⟨?_,?_,trivial⟩
     refine rt rfl fun _=>?_
     show K (.agg [.int .i64 8, .int .i64 0, .int .i64 0, .str ([]:ar), .slice false [], .slice false [], .str ([]:ar), .str ([]:ar), .slice false (xs.map bY), .slice false []]) (ae.aS m [(r, .cells [.slice false (l.map bm), .int .i64 a2, .int .i64 n, .err 115 az, .int .i64 bl])])
     refine cL (U (.mk 8 dB [] [] xs []) _ _ _ ?_) ?_
     · rw [cr,if_neg (cJ (bp ak)),if_pos cP.2]
       exact aX.from ak (by omega) (dV.bad (a:=a+1) (e:=e) (q:=q) i9 aj ak (by omega) (by omega) (by omega))
     · simp only [bU,au.a,au.n];rfl
   try dsimp only [Sum.elim_inl,Sum.elim_inr] at cP
   dsimp only [Sum.elim_inl,Sum.elim_inr]
   refine bx 115 [0] (σ:=(Unit) ⊕ (Unit)) (Sum.elim (fun _=>e=0∧bq l 4 ([123]:List UInt8) a=true) (fun _=>e=0→bq l 4 ([123]:List UInt8) a=false)) (Sum.elim (fun _=> .b (.lit true)) (fun _=> .b (.lit false))) (Sum.elim (fun _=>[bA l n (a+1) e q]) (fun _=>[bA l n a e q])) rfl (fun x=>by rcases x with _|_<;>rfl) (fun bs ai gd aq K U=>iC l n a e q 4 ([123]:List UInt8) (bs.getD 0 0) av (by omega) (by omega) (by omega) ai gd K (fun z w=>U (.inl ()) ⟨z,w⟩) (fun z=>U (.inr ()) z)) ?_
   rintro (_|_) ed
   · try dsimp only [Sum.elim_inl,Sum.elim_inr] at ed
     dsimp only [Sum.elim_inl,Sum.elim_inr]
     have Kx:=gm ed.2
     refine bx 115 [0] (σ:=au×Int×Int×Int) (fun ⟨fZ,fA,e5,ff⟩=>aX l (kV (cr l n k) l n (l.length+1) (a+1) [] []) fZ (a+1) e q fA e5 ff) (fun ⟨fZ,fA,e5,ff⟩=>fR fZ) (fun ⟨fZ,fA,e5,ff⟩=>[bA l n fA e5 ff]) rfl (fun _=>rfl) (fun bs ai gd aq K U=>TL l n (a+1) e q k d (bs.getD 0 0) aO av (by omega) (by omega) (by omega) al aY ak ai gd K (cW.up aq aP) (fun c1 a8 a1 a6 aC=>U (c1,a8,a1,a6) aC)) ?_
     rintro ⟨fZ,fA,e5,ff⟩ fi
     dsimp only at fi
     have yz:=fi.ba
     have yA:=fi.ad
     have vN:=fi.bB
     refine rt rfl fun _=>?_
     show K (.agg [.int .i64 fZ.kind, .int .i64 fZ.v.kind, .int .i64 fZ.v.n, .str fZ.v.s, .slice false (fZ.v.l.map cn), .slice false (fZ.v.f.map cB), .str fZ.s, .str fZ.t, .slice false (fZ.a.map bY), .slice false (fZ.n.map cm)]) (ae.aS m [(r, .cells [.slice false (l.map bm), .int .i64 fA, .int .i64 n, .err 115 e5, .int .i64 ff])])
     refine U fZ _ _ _ ?_
     rw [cr,if_neg (cJ (bp ak)),if_neg (cJ (cP ak)),if_pos ed.2]
     exact aX.from ak (by omega) fi
   try dsimp only [Sum.elim_inl,Sum.elim_inr] at ed
   dsimp only [Sum.elim_inl,Sum.elim_inr]
   refine bx 115 [0] (σ:=(Unit) ⊕ (Unit)) (Sum.elim (fun _=>e=0∧bq l 4 ([45]:List UInt8) a=true) (fun _=>e=0→bq l 4 ([45]:List UInt8) a=false)) (Sum.elim (fun _=> .b (.lit true)) (fun _=> .b (.lit false))) (Sum.elim (fun _=>[bA l n (a+1) e q]) (fun _=>[bA l n a e q])) rfl (fun x=>by rcases x with _|_<;>rfl) (fun bs ai gd aq K U=>iC l n a e q 4 ([45]:List UInt8) (bs.getD 0 0) av (by omega) (by omega) (by omega) ai gd K (fun z w=>U (.inl ()) ⟨z,w⟩) (fun z=>U (.inr ()) z)) ?_
   rintro (_|_) et
   · try dsimp only [Sum.elim_inl,Sum.elim_inr] at et
     dsimp only [Sum.elim_inl,Sum.elim_inr]
     have Xj:=gm et.2
     refine bx 115 [0] (σ:=au×Int×Int×Int) (fun ⟨fY,gn,gC,gJ⟩=>aX l (kU l n (-1) (a+1)) fY a e q gn gC gJ) (fun ⟨fY,gn,gC,gJ⟩=>fR fY) (fun ⟨fY,gn,gC,gJ⟩=>[bA l n gn gC gJ]) rfl (fun _=>rfl) (fun bs ai gd aq K U=>Kq l n (a+1) e q (-1) (bs.getD 0 0) av (by omega) (by omega) (by omega) hw (by omega) ak a (by omega) (by omega) (by omega) ai gd K (cW.up aq aP) (fun c1 a8 a1 a6 aC=>U (c1,a8,a1,a6) aC)) ?_
     rintro ⟨fY,gn,gC,gJ⟩ fb
     dsimp only at fb
     have Bb:=fb.ba
     have Bc:=fb.ad
     have Bd:=fb.bB
     refine rt rfl fun _=>?_
     show K (.agg [.int .i64 fY.kind, .int .i64 fY.v.kind, .int .i64 fY.v.n, .str fY.v.s, .slice false (fY.v.l.map cn), .slice false (fY.v.f.map cB), .str fY.s, .str fY.t, .slice false (fY.a.map bY), .slice false (fY.n.map cm)]) (ae.aS m [(r, .cells [.slice false (l.map bm), .int .i64 gn, .int .i64 n, .err 115 gC, .int .i64 gJ])])
     refine U fY _ _ _ ?_
     rw [cr,if_neg (cJ (bp ak)),if_neg (cJ (cP ak)),if_neg (cJ (ed ak)),if_pos et.2]
     exact fb
   try dsimp only [Sum.elim_inl,Sum.elim_inr] at et
   dsimp only [Sum.elim_inl,Sum.elim_inr]
   refine dw [0] [bA l n a e q] (jx (jb l 2 ([]) a e)) rfl (fun bs ai gd=>vB l n a e q 2 ([]) (bs.getD 0 0) av (by omega) (by omega) (by omega) ai gd) ?_
   refine ag (fun aR=>?_) (fun aR=>?_)
   · refine bx 115 [0] (σ:=au×Int×Int×Int) (fun ⟨dF,dN,dO,eu⟩=>aX l (kU l n 1 a) dF a e q dN dO eu) (fun ⟨dF,dN,dO,eu⟩=>fR dF) (fun ⟨dF,dN,dO,eu⟩=>[bA l n dN dO eu]) rfl (fun _=>rfl) (fun bs ai gd aq K U=>Kq l n a e q 1 (bs.getD 0 0) av (by omega) (by omega) (by omega) hw (by omega) ak a (by omega) (by omega) (by omega) ai gd K (cW.up aq aP) (fun c1 a8 a1 a6 aC=>U (c1,a8,a1,a6) aC)) ?_
     rintro ⟨dF,dN,dO,eu⟩ eR
     dsimp only at eR
     have tC:=eR.ba
     have tD:=eR.ad
     have tE:=eR.bB
     refine rt rfl fun _=>?_
     show K (.agg [.int .i64 dF.kind, .int .i64 dF.v.kind, .int .i64 dF.v.n, .str dF.v.s, .slice false (dF.v.l.map cn), .slice false (dF.v.f.map cB), .str dF.s, .str dF.t, .slice false (dF.a.map bY), .slice false (dF.n.map cm)]) (ae.aS m [(r, .cells [.slice false (l.map bm), .int .i64 dN, .int .i64 n, .err 115 dO, .int .i64 eu])])
     refine U dF _ _ _ ?_
     rw [cr,if_neg (cJ (bp ak)),if_neg (cJ (cP ak)),if_neg (cJ (ed ak)),if_neg (cJ (et ak)),if_pos (o8 aR).2]
     exact eR
   refine dw [0] [bA l n a e q] (jx (jb l 3 ([]) a e)) rfl (fun bs ai gd=>vB l n a e q 3 ([]) (bs.getD 0 0) av (by omega) (by omega) (by omega) ai gd) ?_
   refine ag (fun bu=>?_) (fun bu=>?_)
   · refine bx 115 [0] (σ:=ar×Int×Int×Int) (fun ⟨hU,hz,fe,fz⟩=>(aX l (b8 l n 3 ([]) a) hU a e q hz fe fz)∧(fe≠0→hU=[])) (fun ⟨hU,hz,fe,fz⟩=>ay hU) (fun ⟨hU,hz,fe,fz⟩=>[bA l n hz fe fz]) rfl (fun _=>rfl) (fun bs ai gd aq K U=>jz l n a e q 3 ([]) (bs.getD 0 0) av (by omega) (by omega) (by omega) ai gd K (fun bQ a8 a1 a6 aC ak=>U (bQ,a8,a1,a6) ⟨aC,ak⟩)) ?_
     rintro ⟨hU,hz,fe,fz⟩ gP
     dsimp only at gP
     obtain ⟨gP,KD⟩:=gP
     have ER:=gP.ba
     have ES:=gP.ad
     have ET:=gP.bB
     refine rt rfl fun _=>?_
     show K (.agg [.int .i64 1, .int .i64 2, .int .i64 0, .str hU, .slice false [], .slice false [], .str ([]), .str ([]), .slice false [], .slice false []]) (ae.aS m [(r, .cells [.slice false (l.map bm), .int .i64 hz, .int .i64 n, .err 115 fe, .int .i64 fz])])
     obtain ⟨cU,eP,eN⟩:=TQ ak (o8 bu).2 gP
     have cl:=gm (o8 bu).2
     subst cU;subst eP
     refine U (jA (.mk 2 0 (I l a).2.2 [] [])) _ _ _ ?_
     rw [cr,if_neg (cJ (bp ak)),if_neg (cJ (cP ak)),if_neg (cJ (ed ak)),if_neg (cJ (et ak)),if_neg (cJ (pV aR ak)),if_pos (o8 bu).2]
     exact aX.TR cl ak eN
   refine bx 115 [0] (σ:=au×Int×Int×Int) (fun ⟨ga,hP,gH,gQ⟩=>aX l (iD (cr l n k) l n a) ga a e q hP gH gQ) (fun ⟨ga,hP,gH,gQ⟩=>fR ga) (fun ⟨ga,hP,gH,gQ⟩=>[bA l n hP gH gQ]) rfl (fun _=>rfl) (fun bs ai gd aq K U=>TA l n a e q k d (bs.getD 0 0) aO av (by omega) (by omega) (by omega) ak al aY ai gd K (cW.up aq aP) (fun c1 a8 a1 a6 aC=>U (c1,a8,a1,a6) aC)) ?_
   rintro ⟨ga,hP,gH,gQ⟩ hN
   dsimp only at hN
   have EZ:=hN.ba
   have E0:=hN.ad
   have E1:=hN.bB
   refine rt rfl fun _=>?_
   show K (.agg [.int .i64 ga.kind, .int .i64 ga.v.kind, .int .i64 ga.v.n, .str ga.v.s, .slice false (ga.v.l.map cn), .slice false (ga.v.f.map cB), .str ga.s, .str ga.t, .slice false (ga.a.map bY), .slice false (ga.n.map cm)]) (ae.aS m [(r, .cells [.slice false (l.map bm), .int .i64 hP, .int .i64 n, .err 115 gH, .int .i64 gQ])])
   refine U ga _ _ _ ?_
   rw [cr,if_neg (cJ (bp ak)),if_neg (cJ (cP ak)),if_neg (cJ (ed ak)),if_neg (cJ (et ak)),if_neg (cJ (pV aR ak)),if_neg (cJ (pV bu ak))]
   exact hN
 exact absurd ak aa
end Go.Proofs
end
section
namespace Go.Proofs
open Go Go.bg Go.cz
set_option maxRecDepth 100000
set_option maxHeartbeats 2000000 in
theorem KE (l:List Tok) (n a e q:Int) (k:Nat) (d:Int) (r:Nat) (av:l.length≤5000) (aJ:0≤a) (aT:a≤l.length) (he:0≤e) (aU:e≠0∨(k=0∧d=7)) (m:ae) (gd:eC [r] m) (K:ab→ae→Prop) (aP:cW m) (U:∀bH bZ bR cj,aX l (cr l n k a) bH a e q bZ bR cj→K (bU bH) (ae.aS m [(r, .cells [.slice false (l.map bm), .int .i64 bZ, .int .i64 n, .err 115 bR, .int .i64 cj])])):bh Tryz.prog 127 [.ptr ⟨r,0,none⟩, .int .i64 d] (ae.aS m [(r, .cells [.slice false (l.map bm), .int .i64 a, .int .i64 n, .err 115 e, .int .i64 q])]) K:=by
 refine enter (c:=cT [] [] [] [] [] [r]) (vs:=[.loc 0 0, .aI (.int .i64 d)]) (L:=[bA l n a e q]) (m:=m) false b2 Tryz.mixed Tryz.func127 rfl (k:=2) (by show cO [] _ _ _=true;decide+kernel) rfl (gd.gZ rfl) ?_
 refine aB ?_
 refine ag (fun J=>?_) (fun J=>?_)
 · refine bx 115 [0] (σ:=Int×Int) (fun ⟨bb,bo⟩=>(e=0→bb=2∧bo=cp l n a)∧(e≠0→bb=e∧bo=q)∧0<bb) (fun ⟨bb,bo⟩=> .da []) (fun ⟨bb,bo⟩=>[bA l n a bb bo]) rfl (fun _=>rfl) (fun bs ai gd aq K U=>o9 l n a e q 2 (bs.getD 0 0) (by decide) av (by omega) (by omega) (by omega) ai gd K (fun z=>U (2,cp l n a) ⟨fun _=>⟨rfl,rfl⟩,fun y=>absurd z y,by decide⟩) (fun z=>U (e,q) ⟨fun y=>absurd y z,fun _=>⟨rfl,rfl⟩,by omega⟩)) ?_
   rintro ⟨bb,bo⟩ bp
   dsimp only at bp
   obtain ⟨ly,ku,mP⟩:=bp
   refine aB ?_
   refine ag (fun aa=>?_) (fun aa=>?_)
   · exact absurd aa (by omega)
   refine dw [0] [bA l n a bb bo] (fR gA) rfl (fun bs ai gd=>Ks l n a bb bo d (bs.getD 0 0) av (by omega) (by omega) (by omega) (by omega) ai gd) ?_
   refine rt rfl fun _=>?_
   show K (.agg [.int .i64 gA.kind, .int .i64 gA.v.kind, .int .i64 gA.v.n, .str gA.v.s, .slice false (gA.v.l.map cn), .slice false (gA.v.f.map cB), .str gA.s, .str gA.t, .slice false (gA.a.map bY), .slice false (gA.n.map cm)]) (ae.aS m [(r, .cells [.slice false (l.map bm), .int .i64 a, .int .i64 n, .err 115 bb, .int .i64 bo])])
   refine U gA _ _ _ ?_
   by_cases ak:e=0
   · obtain ⟨rfl,_⟩:=aU.resolve_left (fun h=>h ak)
     rw [cr]
     exact aX.bad _ aT ly ku mP
   · obtain ⟨rfl,rfl⟩:=ku ak
     exact aX.stuck ak he aT
 refine aB ?_
 refine ag (fun aj=>?_) (fun aj=>?_)
 · exact absurd aj (by omega)
 refine dw [0] [bA l n a e q] (fR gA) rfl (fun bs ai gd=>Ks l n a e q d (bs.getD 0 0) av (by omega) (by omega) (by omega) (by omega) ai gd) ?_
 refine rt rfl fun _=>?_
 show K (.agg [.int .i64 gA.kind, .int .i64 gA.v.kind, .int .i64 gA.v.n, .str gA.v.s, .slice false (gA.v.l.map cn), .slice false (gA.v.f.map cB), .str gA.s, .str gA.t, .slice false (gA.a.map bY), .slice false (gA.n.map cm)]) (ae.aS m [(r, .cells [.slice false (l.map bm), .int .i64 a, .int .i64 n, .err 115 e, .int .i64 q])])
 refine U gA _ _ _ ?_
 exact aX.stuck (by omega) he aT
theorem vO (l:List Tok) (n:Int) (av:l.length≤5000) (hw:lx l):∀(k:Nat),k≤7→∀a e q d:Int,d=7- (k:Int)→0≤a→a≤l.length→0≤e→∀(r:Nat) (m:ae),eC [r] m→cW m→∀(K:ab→ae→Prop),(∀bH bZ bR cj,aX l (cr l n k a) bH a e q bZ bR cj→K (bU bH) (ae.aS m [(r, .cells [.slice false (l.map bm), .int .i64 bZ, .int .i64 n, .err 115 bR, .int .i64 cj])]))→bh Tryz.prog 127 [.ptr ⟨r,0,none⟩, .int .i64 d] (ae.aS m [(r, .cells [.slice false (l.map bm), .int .i64 a, .int .i64 n, .err 115 e, .int .i64 q])]) K
 |0,_=>fun a e q d aY aJ aT he r m gd aP K U=>KE l n a e q 0 d r av aJ aT he (.inr ⟨rfl,by omega⟩) m gd K aP U
 |k+1,al=>fun a e q d aY aJ aT he r m gd aP K U=>by
  by_cases ak:e=0
  · exact TS l n a e q k d r (vO l n av hw k (by omega)) av aJ aT he hw (by omega) (by omega) ak m gd K aP U
  · exact KE l n a e q (k+1) d r av aJ aT he (.inl ak) m gd K aP U
end Go.Proofs
end
section
namespace Go.Proofs
open Go Go.bg Go.cz
set_option maxRecDepth 100000
theorem tI {l:List Tok} {a:Int} {w c:ar} (hw:bq l 1 [] a=true) (aw:(I l a).2.2=w) (h:w=c):bq l 1 c a=true:=by
 simp only [bq,Bool.and_eq_true,decide_eq_true_eq,beq_iff_eq,Bool.or_eq_true] at hw ⊢
 exact ⟨hw.1, .inr (aw.trans h)⟩
theorem hV {l:List Tok} {a:Int} {w c:ar} (aw:(I l a).2.2=w) (h:w≠c) (ao:c≠[]):bq l 1 c a=false:=by
 rw [Bool.eq_false_iff]
 intro ah
 simp only [bq,Bool.and_eq_true,decide_eq_true_eq,beq_iff_eq,Bool.or_eq_true] at ah
 rcases ah.2 with J|J
 · exact ao J
 · exact h (aw.symm.trans J)
set_option maxHeartbeats 4000000 in
theorem TT (l:List Tok) (n a e q:Int) (k:Nat) (d:Int) (w:ar) (r:Nat) (aO:∀a e q d:Int,d=7- (k:Int)→0≤a→a≤l.length→0≤e→∀(r:Nat) (m:ae),eC [r] m→∀(K:ab→ae→Prop),(∀bH bZ bR cj,aX l (cr l n k a) bH a e q bZ bR cj→K (bU bH) (ae.aS m [(r, .cells [.slice false (l.map bm), .int .i64 bZ, .int .i64 n, .int .i64 bR, .int .i64 cj])]))→bh Tryz.prog 130 [.ptr ⟨r,0,none⟩, .int .i64 d] (ae.aS m [(r, .cells [.slice false (l.map bm), .int .i64 a, .int .i64 n, .int .i64 e, .int .i64 q])]) K) (av:l.length≤5000) (aJ:0≤a) (aT:a≤l.length) (he:0≤e) (ak:e=0) (al:k≤7) (aY:d+1=7- (k:Int)) (hw:bq l 1 [] a=true) (aw:(I l a).2.2=w) (m:ae) (gd:eC [r] m) (K:ab→ae→Prop) (U:∀bH bZ bR cj,aX l (iD (cr l n k) l n a) bH a e q bZ bR cj→K (bU bH) (ae.aS m [(r, .cells [.slice false (l.map bm), .int .i64 bZ, .int .i64 n, .int .i64 bR, .int .i64 cj])])):bh Tryz.prog 183 [.ptr ⟨r,0,none⟩, .int .i64 d, .str w] (ae.aS m [(r, .cells [.slice false (l.map bm), .int .i64 a, .int .i64 n, .int .i64 e, .int .i64 q])]) K:=by
 have cl:=gm hw
 refine enter (c:=cT [] [] [] [] [] [r]) (vs:=[.loc 0 0, .aI (.int .i64 d), .aI (.str w)]) (L:=[b5 l n a e q]) (m:=m) false b2 Tryz.mixed Tryz.func183 rfl (k:=3) (by show cO [] _ _ _=true;decide+kernel) rfl (gd.gZ rfl) ?_
 refine aB ?_
 refine aB ?_
 refine ag (fun J=>?_) (fun J=>?_)
 · refine ag (fun aa=>?_) (fun aa=>?_)
   · refine ag (by omega) ?_
     refine aB ?_
     refine ag (fun aj=>?_) (fun aj=>?_)
     · refine ag (fun aG=>?_) (fun aG=>?_)
       · exact absurd (aj.symm.trans aG) (by decide)
       refine rt rfl fun _=>?_
       show K (.agg [.int .i64 1, .int .i64 0, .int .i64 0, .str ([]), .slice false [], .slice false [], .str ([]), .str ([]), .slice false [], .slice false []]) (ae.aS m [(r, .cells [.slice false (l.map bm), .int .i64 (a+1), .int .i64 n, .int .i64 e, .int .i64 q])])
       refine cL (U (jA dB) _ _ _ ?_) ?_
       · rw [iD,if_pos (tI hw aw J)]
         exact aX.one cl ak
       · simp only [bU,au.a,List.map_cons,List.map_nil,List.map_append,List.cons_append,List.nil_append,cy];rfl
     exact absurd aa aj
   exact absurd J aa
 refine ag (fun aR=>?_) (fun aR=>?_)
 · refine ag (fun bu=>?_) (fun bu=>?_)
   · refine ag (by omega) ?_
     refine aB ?_
     refine ag (fun cD=>?_) (fun cD=>?_)
     · exact absurd (bu.symm.trans cD) (by decide)
     refine ag (fun cK=>?_) (fun cK=>?_)
     · refine rt rfl fun _=>?_
       show K (.agg [.int .i64 1, .int .i64 3, .int .i64 1, .str ([]), .slice false [], .slice false [], .str ([]), .str ([]), .slice false [], .slice false []]) (ae.aS m [(r, .cells [.slice false (l.map bm), .int .i64 (a+1), .int .i64 n, .int .i64 e, .int .i64 q])])
       refine cL (U (jA (.mk 3 1 [] [] [])) _ _ _ ?_) ?_
       · rw [iD,if_neg (cJ (hV aw J (by decide))),if_pos (tI hw aw aR)]
         exact aX.one cl ak
       · simp only [bU,au.a,List.map_cons,List.map_nil,List.map_append,List.cons_append,List.nil_append,cy];rfl
     exact absurd bu cK
   exact absurd aR bu
 refine ag (fun cC=>?_) (fun cC=>?_)
 · refine ag (by omega) ?_
   refine aB ?_
   refine ag (fun eg=>?_) (fun eg=>?_)
   · exact absurd (cC.symm.trans eg) (by decide)
   refine ag (fun fJ=>?_) (fun fJ=>?_)
   · exact absurd (cC.symm.trans fJ) (by decide)
   refine rt rfl fun _=>?_
   show K (.agg [.int .i64 1, .int .i64 3, .int .i64 0, .str ([]), .slice false [], .slice false [], .str ([]), .str ([]), .slice false [], .slice false []]) (ae.aS m [(r, .cells [.slice false (l.map bm), .int .i64 (a+1), .int .i64 n, .int .i64 e, .int .i64 q])])
   refine cL (U (jA (.mk 3 0 [] [] [])) _ _ _ ?_) ?_
   · rw [iD,if_neg (cJ (hV aw J (by decide))),if_neg (cJ (hV aw aR (by decide))),if_pos (tI hw aw cC)]
     exact aX.one cl ak
   · simp only [bU,au.a,List.map_cons,List.map_nil,List.map_append,List.cons_append,List.nil_append,cy];rfl
 refine ag (fun fL=>?_) (fun fL=>?_)
 · refine ag (by omega) ?_
   refine bx 115 [0] (σ:=ar×Int×Int×Int) (fun ⟨dA,bO,bb,bo⟩=>(aX l (b8 l n 4 ([46]:List UInt8) (a+1)) dA (a+1) e q bO bb bo)∧(bb≠0→dA=[])) (fun ⟨dA,bO,bb,bo⟩=>ay dA) (fun ⟨dA,bO,bb,bo⟩=>[b5 l n bO bb bo]) rfl (fun _=>rfl) (fun bs ai gd aq K U=>gO l n (a+1) e q 4 ([46]:List UInt8) (bs.getD 0 0) av (by omega) (by omega) (by omega) ai gd K (fun bQ a8 a1 a6 aC ak=>U (bQ,a8,a1,a6) ⟨aC,ak⟩)) ?_
   rintro ⟨dA,bO,bb,bo⟩ bp
   dsimp only at bp
   obtain ⟨bp,px⟩:=bp
   have pW:=bp.ba
   have mz:=bp.ad
   have pX:=bp.bB
   refine bx 115 [0] (σ:=ar×Int×Int×Int) (fun ⟨db,dj,b3,cg⟩=>(aX l (b8 l n 1 ([]) bO) db bO bb bo dj b3 cg)∧(b3≠0→db=[])) (fun ⟨db,dj,b3,cg⟩=>ay db) (fun ⟨db,dj,b3,cg⟩=>[b5 l n dj b3 cg]) rfl (fun _=>rfl) (fun bs ai gd aq K U=>gO l n bO bb bo 1 ([]) (bs.getD 0 0) av (by omega) (by omega) (by omega) ai gd K (fun bQ a8 a1 a6 aC ak=>U (bQ,a8,a1,a6) ⟨aC,ak⟩)) ?_
   rintro ⟨db,dj,b3,cg⟩ cx
   dsimp only at cx
   obtain ⟨cx,zo⟩:=cx
   have qV:=cx.ba
   have ig:=cx.ad
   have qW:=cx.bB
   refine rt rfl fun _=>?_
   show K (.agg [.int .i64 2, .int .i64 0, .int .i64 0, .str ([]), .slice false [], .slice false [], .str db, .str ([]), .slice false [], .slice false []]) (ae.aS m [(r, .cells [.slice false (l.map bm), .int .i64 dj, .int .i64 n, .int .i64 b3, .int .i64 cg])])
   refine cL (U (.mk 2 dB db [] [] []) _ _ _ ?_) ?_
   · rw [iD,if_neg (cJ (hV aw J (by decide))),if_neg (cJ (hV aw aR (by decide))),if_neg (cJ (hV aw cC (by decide))),if_pos (tI hw aw fL)]
     exact aX.from ak (by omega) (bp.bind (cx.map fun s=>au.mk 2 dB s [] [] []))
   · simp only [bU,au.a,List.map_cons,List.map_nil,List.map_append,List.cons_append,List.nil_append,cy];rfl
 refine aB ?_
 refine ag (fun hs=>?_) (fun hs=>?_)
 · refine ag (fun ky=>?_) (fun ky=>?_)
   · refine ag (by omega) ?_
     refine bx 115 [0] (σ:=ar×Int×Int×Int) (fun ⟨h7,fs,dX,er⟩=>(aX l (b8 l n 4 ([46]:List UInt8) (a+1)) h7 (a+1) e q fs dX er)∧(dX≠0→h7=[])) (fun ⟨h7,fs,dX,er⟩=>ay h7) (fun ⟨h7,fs,dX,er⟩=>[b5 l n fs dX er]) rfl (fun _=>rfl) (fun bs ai gd aq K U=>gO l n (a+1) e q 4 ([46]:List UInt8) (bs.getD 0 0) av (by omega) (by omega) (by omega) ai gd K (fun bQ a8 a1 a6 aC ak=>U (bQ,a8,a1,a6) ⟨aC,ak⟩)) ?_
     rintro ⟨h7,fs,dX,er⟩ cP
     dsimp only at cP
     obtain ⟨cP,n3⟩:=cP
     have yu:=cP.ba
     have yv:=cP.ad
     have tx:=cP.bB
     refine aB ?_
     refine ag (fun jd=>?_) (fun jd=>?_)
     · exact absurd (ky.symm.trans jd) (by decide)
     refine bx 115 [0] (σ:=ar×Int×Int×Int) (fun ⟨fH,c8,de,dM⟩=>(aX l (b8 l n 1 ([]) fs) fH fs dX er c8 de dM)∧(de≠0→fH=[])) (fun ⟨fH,c8,de,dM⟩=>ay fH) (fun ⟨fH,c8,de,dM⟩=>[b5 l n c8 de dM]) rfl (fun _=>rfl) (fun bs ai gd aq K U=>gO l n fs dX er 1 ([]) (bs.getD 0 0) av (by omega) (by omega) (by omega) ai gd K (fun bQ a8 a1 a6 aC ak=>U (bQ,a8,a1,a6) ⟨aC,ak⟩)) ?_
     rintro ⟨fH,c8,de,dM⟩ dd
     dsimp only at dd
     obtain ⟨dd,Kv⟩:=dd
     have vD:=dd.ba
     have vE:=dd.ad
     have vF:=dd.bB
     refine bx 115 [0] (σ:=ar×Int×Int×Int) (fun ⟨gX,e3,dU,eD⟩=>(aX l (b8 l n 4 ([46]:List UInt8) c8) gX c8 de dM e3 dU eD)∧(dU≠0→gX=[])) (fun ⟨gX,e3,dU,eD⟩=>ay gX) (fun ⟨gX,e3,dU,eD⟩=>[b5 l n e3 dU eD]) rfl (fun _=>rfl) (fun bs ai gd aq K U=>gO l n c8 de dM 4 ([46]:List UInt8) (bs.getD 0 0) av (by omega) (by omega) (by omega) ai gd K (fun bQ a8 a1 a6 aC ak=>U (bQ,a8,a1,a6) ⟨aC,ak⟩)) ?_
     rintro ⟨gX,e3,dU,eD⟩ dE
     dsimp only at dE
     obtain ⟨dE,A4⟩:=dE
     have A5:=dE.ba
     have A6:=dE.ad
     have yx:=dE.bB
     refine bx 115 [0] (σ:=ar×Int×Int×Int) (fun ⟨gh,dy,dt,dQ⟩=>(aX l (b8 l n 1 ([]) e3) gh e3 dU eD dy dt dQ)∧(dt≠0→gh=[])) (fun ⟨gh,dy,dt,dQ⟩=>ay gh) (fun ⟨gh,dy,dt,dQ⟩=>[b5 l n dy dt dQ]) rfl (fun _=>rfl) (fun bs ai gd aq K U=>gO l n e3 dU eD 1 ([]) (bs.getD 0 0) av (by omega) (by omega) (by omega) ai gd K (fun bQ a8 a1 a6 aC ak=>U (bQ,a8,a1,a6) ⟨aC,ak⟩)) ?_
     rintro ⟨gh,dy,dt,dQ⟩ ej
     dsimp only at ej
     obtain ⟨ej,TP⟩:=ej
     have rY:=ej.ba
     have rZ:=ej.ad
     have r0:=ej.bB
     refine rt rfl fun _=>?_
     show K (.agg [.int .i64 3, .int .i64 0, .int .i64 0, .str ([]), .slice false [], .slice false [], .str fH, .str gh, .slice false [], .slice false []]) (ae.aS m [(r, .cells [.slice false (l.map bm), .int .i64 dy, .int .i64 n, .int .i64 dt, .int .i64 dQ])])
     refine cL (U (.mk 3 dB fH gh [] []) _ _ _ ?_) ?_
     · rw [iD,if_neg (cJ (hV aw J (by decide))),if_neg (cJ (hV aw aR (by decide))),if_neg (cJ (hV aw cC (by decide))),if_neg (cJ (hV aw fL (by decide))),if_pos (tI hw aw hs)]
       exact aX.from ak (by omega) (aX.map (fun st=>au.mk 3 dB st.1 st.2 [] []) (show aX l (qU l n (a+1)) (fH,gh) _ _ _ _ _ _ from cP.bind (dd.bind (dE.bind (ej.map fun t=>(fH,t))))))
     · simp only [bU,au.a,List.map_cons,List.map_nil,List.map_append,List.cons_append,List.nil_append,cy];rfl
   exact absurd hs ky
 refine ag (fun lz=>?_) (fun lz=>?_)
 · refine ag (by omega) ?_
   refine bx 115 [0] (σ:=ar×Int×Int×Int) (fun ⟨jR,hO,ev,eS⟩=>(aX l (b8 l n 4 ([46]:List UInt8) (a+1)) jR (a+1) e q hO ev eS)∧(ev≠0→jR=[])) (fun ⟨jR,hO,ev,eS⟩=>ay jR) (fun ⟨jR,hO,ev,eS⟩=>[b5 l n hO ev eS]) rfl (fun _=>rfl) (fun bs ai gd aq K U=>gO l n (a+1) e q 4 ([46]:List UInt8) (bs.getD 0 0) av (by omega) (by omega) (by omega) ai gd K (fun bQ a8 a1 a6 aC ak=>U (bQ,a8,a1,a6) ⟨aC,ak⟩)) ?_
   rintro ⟨jR,hO,ev,eS⟩ dR
   dsimp only at dR
   obtain ⟨dR,Kw⟩:=dR
   have EU:=dR.ba
   have EV:=dR.ad
   have yy:=dR.bB
   refine aB ?_
   refine ag (fun Bf=>?_) (fun Bf=>?_)
   · refine bx 115 [0] (σ:=ar×Int×Int×Int) (fun ⟨fI,fX,gi,gB⟩=>(aX l (b8 l n 1 ([]) hO) fI hO ev eS fX gi gB)∧(gi≠0→fI=[])) (fun ⟨fI,fX,gi,gB⟩=>ay fI) (fun ⟨fI,fX,gi,gB⟩=>[b5 l n fX gi gB]) rfl (fun _=>rfl) (fun bs ai gd aq K U=>gO l n hO ev eS 1 ([]) (bs.getD 0 0) av (by omega) (by omega) (by omega) ai gd K (fun bQ a8 a1 a6 aC ak=>U (bQ,a8,a1,a6) ⟨aC,ak⟩)) ?_
     rintro ⟨fI,fX,gi,gB⟩ ed
     dsimp only at ed
     obtain ⟨ed,KF⟩:=ed
     have A7:=ed.ba
     have A8:=ed.ad
     have A9:=ed.bB
     refine bx 115 [0] (σ:=ar×Int×Int×Int) (fun ⟨ir,fA,e5,ff⟩=>(aX l (b8 l n 4 ([46]:List UInt8) fX) ir fX gi gB fA e5 ff)∧(e5≠0→ir=[])) (fun ⟨ir,fA,e5,ff⟩=>ay ir) (fun ⟨ir,fA,e5,ff⟩=>[b5 l n fA e5 ff]) rfl (fun _=>rfl) (fun bs ai gd aq K U=>gO l n fX gi gB 4 ([46]:List UInt8) (bs.getD 0 0) av (by omega) (by omega) (by omega) ai gd K (fun bQ a8 a1 a6 aC ak=>U (bQ,a8,a1,a6) ⟨aC,ak⟩)) ?_
     rintro ⟨ir,fA,e5,ff⟩ fi
     dsimp only at fi
     obtain ⟨fi,TU⟩:=fi
     have yz:=fi.ba
     have yA:=fi.ad
     have vN:=fi.bB
     refine bx 115 [0] (σ:=ar×Int×Int×Int) (fun ⟨e4,eJ,eK,fa⟩=>(aX l (b8 l n 1 ([]) fA) e4 fA e5 ff eJ eK fa)∧(eK≠0→e4=[])) (fun ⟨e4,eJ,eK,fa⟩=>ay e4) (fun ⟨e4,eJ,eK,fa⟩=>[b5 l n eJ eK fa]) rfl (fun _=>rfl) (fun bs ai gd aq K U=>gO l n fA e5 ff 1 ([]) (bs.getD 0 0) av (by omega) (by omega) (by omega) ai gd K (fun bQ a8 a1 a6 aC ak=>U (bQ,a8,a1,a6) ⟨aC,ak⟩)) ?_
     rintro ⟨e4,eJ,eK,fa⟩ et
     dsimp only at et
     obtain ⟨et,Ba⟩:=et
     have vG:=et.ba
     have vH:=et.ad
     have vI:=et.bB
     refine rt rfl fun _=>?_
     show K (.agg [.int .i64 4, .int .i64 0, .int .i64 0, .str ([]), .slice false [], .slice false [], .str fI, .str e4, .slice false [], .slice false []]) (ae.aS m [(r, .cells [.slice false (l.map bm), .int .i64 eJ, .int .i64 n, .int .i64 eK, .int .i64 fa])])
     refine cL (U (.mk 4 dB fI e4 [] []) _ _ _ ?_) ?_
     · rw [iD,if_neg (cJ (hV aw J (by decide))),if_neg (cJ (hV aw aR (by decide))),if_neg (cJ (hV aw cC (by decide))),if_neg (cJ (hV aw fL (by decide))),if_neg (cJ (hV aw hs (by decide))),if_pos (tI hw aw lz)]
       exact aX.from ak (by omega) (aX.map (fun st=>au.mk 4 dB st.1 st.2 [] []) (show aX l (qU l n (a+1)) (fI,e4) _ _ _ _ _ _ from dR.bind (ed.bind (fi.bind (et.map fun t=>(fI,t))))))
     · simp only [bU,au.a,List.map_cons,List.map_nil,List.map_append,List.cons_append,List.nil_append,cy];rfl
   exact absurd lz Bf
 refine ag (fun E6=>?_) (fun E6=>?_)
 · refine ag (by omega) ?_
   refine ag (by omega) ?_
   refine bx 115 [0] (σ:=au×Int×Int×Int) (fun ⟨fY,gn,gC,gJ⟩=>aX l (cr l n k (a+1)) fY (a+1) e q gn gC gJ) (fun ⟨fY,gn,gC,gJ⟩=>fR fY) (fun ⟨fY,gn,gC,gJ⟩=>[b5 l n gn gC gJ]) rfl (fun _=>rfl) (fun bs ai gd aq K U=>aO (a+1) e q (d+1) (by omega) (by omega) (by omega) (by omega) (bs.getD 0 0) ai gd K (fun c1 a8 a1 a6 aC=>U (c1,a8,a1,a6) aC)) ?_
   rintro ⟨fY,gn,gC,gJ⟩ fb
   dsimp only at fb
   have Bb:=fb.ba
   have Bc:=fb.ad
   have Bd:=fb.bB
   refine ap bY ([]) ([fY]:List au) (by simp only [List.map_cons,List.map_nil,cy];try rfl) (by simp only [List.map_cons,List.map_nil,cy];try rfl) (fun a=>by rw [cy];exact ⟨rfl,rfl⟩) (by (simp only [List.length_append,List.length_cons,List.length_nil];omega)) ?_
   refine bx 115 [0] (σ:=ar×Int×Int×Int) (fun ⟨gI,dN,dO,eu⟩=>(aX l (b8 l n 1 ([]) gn) gI gn gC gJ dN dO eu)∧(dO≠0→gI=[])) (fun ⟨gI,dN,dO,eu⟩=>ay gI) (fun ⟨gI,dN,dO,eu⟩=>[b5 l n dN dO eu]) rfl (fun _=>rfl) (fun bs ai gd aq K U=>gO l n gn gC gJ 1 ([]) (bs.getD 0 0) av (by omega) (by omega) (by omega) ai gd K (fun bQ a8 a1 a6 aC ak=>U (bQ,a8,a1,a6) ⟨aC,ak⟩)) ?_
   rintro ⟨gI,dN,dO,eu⟩ eR
   dsimp only at eR
   obtain ⟨eR,EW⟩:=eR
   have tC:=eR.ba
   have tD:=eR.ad
   have tE:=eR.bB
   refine rt rfl fun _=>?_
   show K (.agg [.int .i64 10, .int .i64 0, .int .i64 0, .str ([]), .slice false [], .slice false [], .str gI, .str ([]), .slice false (([fY]:List au).map bY), .slice false []]) (ae.aS m [(r, .cells [.slice false (l.map bm), .int .i64 dN, .int .i64 n, .int .i64 dO, .int .i64 eu])])
   refine cL (U (.mk 10 dB gI [] [fY] []) _ _ _ ?_) ?_
   · rw [iD,if_neg (cJ (hV aw J (by decide))),if_neg (cJ (hV aw aR (by decide))),if_neg (cJ (hV aw cC (by decide))),if_neg (cJ (hV aw fL (by decide))),if_neg (cJ (hV aw hs (by decide))),if_neg (cJ (hV aw lz (by decide))),if_pos (tI hw aw E6)]
     exact aX.from ak (by omega) (fb.bind (eR.map fun s=>au.mk 10 dB s [] [fY] []))
   · simp only [bU,au.a,List.map_cons,List.map_nil,List.map_append,List.cons_append,List.nil_append,cy];rfl
 refine bx 115 [0] (σ:=Int×Int) (fun ⟨fe,fz⟩=>(e=0→fe=5∧fz=cp l n a)∧(e≠0→fe=e∧fz=q)∧0<fe) (fun ⟨fe,fz⟩=> .da []) (fun ⟨fe,fz⟩=>[b5 l n a fe fz]) rfl (fun _=>rfl) (fun bs ai gd aq K U=>mO l n a e q 5 (bs.getD 0 0) (by decide) av (by omega) (by omega) (by omega) ai gd K (fun z=>U (5,cp l n a) ⟨fun _=>⟨rfl,rfl⟩,fun y=>absurd z y,by decide⟩) (fun z=>U (e,q) ⟨fun y=>absurd y z,fun _=>⟨rfl,rfl⟩,by omega⟩)) ?_
 rintro ⟨fe,fz⟩ gP
 dsimp only at gP
 obtain ⟨EX,Be,EY⟩:=gP
 refine rt rfl fun _=>?_
 show K (.agg [.int .i64 0, .int .i64 0, .int .i64 0, .str ([]), .slice false [], .slice false [], .str ([]), .str ([]), .slice false [], .slice false []]) (ae.aS m [(r, .cells [.slice false (l.map bm), .int .i64 a, .int .i64 n, .int .i64 fe, .int .i64 fz])])
 refine cL (U (gA) _ _ _ ?_) ?_
 · rw [iD,if_neg (cJ (hV aw J (by decide))),if_neg (cJ (hV aw aR (by decide))),if_neg (cJ (hV aw cC (by decide))),if_neg (cJ (hV aw fL (by decide))),if_neg (cJ (hV aw hs (by decide))),if_neg (cJ (hV aw lz (by decide))),if_neg (cJ (hV aw E6 (by decide)))]
   exact aX.bad _ aT EX Be EY
 · simp only [bU,au.a,List.map_cons,List.map_nil,List.map_append,List.cons_append,List.nil_append,cy];rfl
end Go.Proofs
end
