import Derived.Test.YtnahenbiipdlkaaGreatDoorProg
import Derived.Test.YtnahenbiipdlkaaGreatDoorSv9
import Derived.Test.YtnahenbiipdlkaaGreatDoorWyA
import Derived.Test.YtnahenbiipdlkaaGreatDoorGr6
section
namespace Go.Proofs
open Go Go.ba
set_option maxRecDepth 100000
def hZ (needs:List (List Int)) (j:Int):Prop:=0≤j∧j<needs.length
def qw (needs:List (List Int)) (D:Int→Int):Prop:=∀j,hZ needs j→1≤D j∧D j≤needs.length∧(∀k∈I needs j,D k+1≤D j)∧(D j=1∨∃k∈I needs j,D k+1=D j)
def wi (needs:List (List Int)) (h8:Int→Prop):Prop:=∀j,h8 j→hZ needs j∧∃k∈I needs j,h8 k
def jT (needs:List (List Int)) (D:Int→Int) (w:Int):List (List Int):=((upto w).map fun v=>(upto needs.length).filter fun i=>D i==v+1).filter (· !=[])
theorem rV {needs:List (List Int)} (h:jC needs=true) {j k:Int} (aA:hZ needs j) (ak:k∈I needs j):hZ needs k:=by
 have:=List.all_eq_true.1 (List.all_eq_true.1 h _ (cb aA.1 aA.2)) k ak
 simpa [hZ] using this
structure jD (needs:List (List Int)) (lv:List Int) (r i:Int):Prop where
 len:lv.length=needs.length
 l1:∀j,hZ needs j→0≤I lv j∧I lv j≤needs.length
 dep:∀D,qw needs D→∀j,hZ needs j→I lv j≤D j∧(D j≤I lv j∨(if j<i then r+1 else r)≤I lv j)
 tB:∀h8,wi needs h8→∀j,h8 j→(if j<i then r+1 else r)≤I lv j
def n5 (lv dd:List Int) (up:Int):Prop:=1≤up∧(∀k∈dd,1+I lv k≤up)∧(up=1∨∃k∈dd,up=1+I lv k)
theorem n5.nil (lv:List Int):n5 lv [] 1:=⟨by omega,by simp, .inl rfl⟩
theorem n5.snoc {lv dd:List Int} {up k:Int} (h:n5 lv dd up) (aG:0≤I lv k):n5 lv (dd++[k]) (if 1+I lv k>up then 1+I lv k else up):=by
 refine ⟨by split<;>have:=h.1<;>omega,fun x aq=>?_,?_⟩
 · rcases List.mem_append.1 aq with aq|aq
   · have:=h.2.1 x aq;split<;>omega
   · simp at aq;subst aq;split<;>omega
 · split
   · exact .inr ⟨k,by simp,rfl⟩
   · rcases h.2.2 with e|⟨x,aq,e⟩
     · exact .inl e
     · exact .inr ⟨x,by simp [aq],e⟩
theorem jD.H4 {needs:List (List Int)} {lv:List Int} {r i up:Int} (bL:jC needs=true) (h:jD needs lv r i) (ad:hZ needs i) (hu:n5 lv (I needs i) up) {D:Int→Int} (jg:qw needs D):up≤D i∧(D i≤up∨r+1≤up):=by
 have bo:=jg i ad
 constructor
 · rcases hu.2.2 with e|⟨k,ak,e⟩
   · omega
   · have J:=(h.dep D jg k (rV bL ad ak)).1
     have aa:=bo.2.2.1 k ak
     omega
 · rcases bo.2.2.2 with e|⟨k,ak,e⟩
   · left;have:=hu.1;omega
   · have J:=(h.dep D jg k (rV bL ad ak)).2
     have aa:=hu.2.1 k ak
     rcases J with J|J
     · left;omega
     · right
       have:r≤if k<i then r+1 else r:=by split<;>omega
       omega
theorem jD.step {needs:List (List Int)} {lv:List Int} {r i up:Int} (bL:jC needs=true) (h:jD needs lv r i) (ad:hZ needs i) (hu:n5 lv (I needs i) up) (aI:up≤needs.length):jD needs (lv.set i.toNat up) r (i+1):=by
 have rr:∀j,hZ needs j→I (lv.set i.toNat up) j=if j=i then up else I lv j:=fun j aA=>H3 ad.1 (by rw [h.len];exact ad.2) aA.1
 refine ⟨by simp [h.len],fun j aA=>?_,fun D jg j aA=>?_,fun h8 hh j aA=>?_⟩
 · rw [rr j aA];split
   · have:=hu.1;omega
   · exact h.l1 j aA
 · rw [rr j aA]
   by_cases e:j=i
   · subst e
     rw [if_pos rfl,if_pos (by omega)]
     exact h.H4 bL ad hu jg
   · rw [if_neg e]
     have:=h.dep D jg j aA
     have aC:(j<i+1)↔(j<i):=by omega
     simp only [aC];exact this
 · have jr:=hh j aA
   rw [rr j jr.1]
   by_cases e:j=i
   · subst e
     rw [if_pos rfl,if_pos (by omega)]
     obtain ⟨k,ak,RS⟩:=jr.2
     have J:=h.tB h8 hh k RS
     have aa:=hu.2.1 k ak
     have:r≤if k<j then r+1 else r:=by split<;>omega
     omega
   · rw [if_neg e]
     have:=h.tB h8 hh j aA
     have aC:(j<i+1)↔(j<i):=by omega
     simp only [aC];exact this
theorem jD.none {needs:List (List Int)} {lv:List Int} {r i up:Int} (bL:jC needs=true) (h:jD needs lv r i) (ad:hZ needs i) (hu:n5 lv (I needs i) up) (aI:needs.length<up) (D:Int→Int):¬qw needs D:=fun jg=>by
 have:=(h.H4 bL ad hu jg).1
 have:=(jg i ad).2.1
 omega
theorem jD.round {needs:List (List Int)} {lv:List Int} {r i:Int} (h:jD needs lv r i) (ad:needs.length≤i):jD needs lv (r+1) 0:=by
 refine ⟨h.len,h.l1,fun D jg j aA=>?_,fun h8 hh j aA=>?_⟩
 · have:=h.dep D jg j aA
   have u4:=aA.2
   have vE:=aA.1
   rw [if_pos (by omega)] at this
   rw [if_neg (by omega)];exact this
 · have:=h.tB h8 hh j aA
   have jr:=(hh j aA).1
   have u4:=jr.2
   have vE:=jr.1
   rw [if_pos (by omega)] at this
   rw [if_neg (by omega)];exact this
theorem jD.start (needs:List (List Int)):jD needs (List.replicate needs.length 0) 0 0:=by
 have ao:∀j,I (List.replicate needs.length (0:Int)) j=0:=fun j=>by
  simp only [I,List.getD_eq_getElem?_getD,List.getElem?_replicate]
  split<;>rfl
 refine ⟨by simp,fun j _=>?_,fun D jg j aA=>?_,fun h8 hh j aA=>?_⟩
 · rw [ao];omega
 · rw [ao];have:=jg j aA;exact ⟨by omega, .inr (by split<;>first|omega|(have:=aA.1;omega))⟩
 · rw [ao];split
   · have:=(hh j aA).1.1;omega
   · omega
theorem jD.fin {needs:List (List Int)} {lv:List Int} {r:Int} (h:jD needs lv r 0) (au:needs.length<r) {D:Int→Int} (jg:qw needs D):∀j,hZ needs j→I lv j=D j:=fun j aA=>by
 have J:=h.dep D jg j aA
 have aa:=h.l1 j aA
 have ai:=aA.1
 rw [if_neg (by omega)] at J
 omega
theorem jD.RT {needs:List (List Int)} {lv:List Int} {r:Int} (h:jD needs lv r 0) (au:needs.length<r) {h8:Int→Prop} (hh:wi needs h8) (j:Int):¬h8 j:=fun aA=>by
 have J:=h.tB h8 hh j aA
 have aa:=h.l1 j (hh j aA).1
 have ai:=(hh j aA).1.1
 rw [if_neg (by omega)] at J
 omega
theorem RU {needs:List (List Int)} {D:Int→Int} {w:Int} (h:0≤w):jT needs D (w+1)=if ((upto needs.length).filter fun i=>D i==w+1)=[] then jT needs D w else jT needs D w++[(upto needs.length).filter fun i=>D i==w+1]:=by
 rw [jT,yp h,List.map_append,List.filter_append]
 simp only [List.map_cons,List.map_nil,List.filter_cons,List.filter_nil]
 split
 · rename_i aT;rw [if_neg (by simpa using aT)];rfl
 · rename_i aT
   have:((upto needs.length).filter fun i=>D i==w+1)=[]:=by simpa using aT
   rw [if_pos this];simp [jT]
theorem RV {needs:List (List Int)} {D H5:Int→Int} (h:∀j,hZ needs j→D j=H5 j) (w:Int):jT needs D w=jT needs H5 w:=by
 unfold jT
 congr 1
 refine List.map_congr_left fun v _=>List.filter_congr fun i ad=>?_
 have:=oM.1 ad
 rw [h i this]
theorem RW {n:Int} {eK:List Int} {v:Int}:∀{lv:List Int},lv.length=n→(∀x∈eK,0≤x∧x<n)→∀j,0≤j→I (ky lv eK v) j=if j∈eK then v else I lv j:=by
 induction eK with
 |nil=>intro lv _ _ j _;simp [ky]
 |cons a w aQ=>
  intro lv av hw j aA
  have e:ky lv (a::w) v=ky (lv.set a.toNat v) w v:=rfl
  have aX:=hw a (by simp)
  rw [e,aQ (by simpa using av) (fun x aq=>hw x (by simp [aq])) j aA,H3 aX.1 (by omega) aA]
  by_cases J:j∈w
  · simp [J]
  · by_cases aa:j=a<;>simp [J,aa]
theorem yr {needs:List (List Int)} {lv:List Int} {x:Int}:x∈gF needs lv needs.length↔hZ needs x∧ir needs lv x=true:=by
 simp [gF,List.mem_filter,oM,hZ]
structure mG (needs:List (List Int)) (left:Int) (lv:List Int) (out:List (List Int)):Prop where
 len:lv.length=needs.length
 l1:∀j,hZ needs j→0≤I lv j∧I lv j≤out.length
 sum:out.length+left≤needs.length
 iL:left=((upto needs.length).filter fun i=>I lv i==0).length
 H6:out=(upto out.length).map fun v=>(upto needs.length).filter fun i=>I lv i==v+1
 H7:∀l∈out,l≠[]
 bw:∀j,hZ needs j→0<I lv j→∀k∈I needs j,0<I lv k∧I lv k+1≤I lv j
 ex:∀j,hZ needs j→0<I lv j→I lv j=1∨∃k∈I needs j,I lv k+1=I lv j
 bt:∀j,hZ needs j→I lv j=0→out.length=0∨∃k∈I needs j,I lv k=0∨I lv k=out.length
theorem RX {α:Type} (l:List α) (p q:α→Bool) (h:∀x∈l,¬(p x=true∧q x=true)):(l.filter fun x=>p x||q x).length=(l.filter p).length+(l.filter q).length:=by
 induction l with
 |nil=>rfl
 |cons a l aQ=>
  have:=aQ (fun x aq=>h x (by simp [aq]))
  have aX:=h a (by simp)
  cases aU:p a<;>cases aO:q a<;>simp_all [List.filter_cons]<;>omega
theorem mG.step {needs:List (List Int)} {left:Int} {lv:List Int} {out:List (List Int)} (bL:jC needs=true) (h:mG needs left lv out) (gg:¬gF needs lv needs.length=[]):
 mG needs (left- (gF needs lv needs.length).length) (ky lv (gF needs lv needs.length) (out.length+1:Nat)) (out++[gF needs lv needs.length]):=by
 have al:∀j,hZ needs j→I (ky lv (gF needs lv needs.length) (out.length+1:Nat)) j=if ir needs lv j=true then ((out.length+1:Nat):Int) else I lv j:=fun j aA=>by
  rw [RW (n:=needs.length) (by rw [h.len]) (fun x aq=>(yr.1 aq).1) j aA.1]
  by_cases au:ir needs lv j=true
  · rw [if_pos (yr.2 ⟨aA,au⟩),if_pos au]
  · rw [if_neg (fun aT=>au (yr.1 aT).2),if_neg au]
 have tC:∀j,ir needs lv j=true→I lv j=0∧∀k∈I needs j,0<I lv k:=fun j au=>by
  simpa [ir] using au
 have hlen:0<(gF needs lv needs.length).length:=List.length_pos_iff.2 gg
 have ys:∀k,0<I lv k→¬ir needs lv k=true:=fun k ak au=>by have:=(tC k au).1;omega
 refine ⟨by rw [HZ,h.len],fun j aA=>?_,?_,?_,?_,?_,fun j aA aG k ak=>?_,fun j aA aG=>?_,fun j aA aG=>?_⟩
 · rw [al j aA];have:=h.l1 j aA;simp;split<;>omega
 · have:=h.sum;simp;omega
 · have aM:((upto needs.length).filter fun i=>I lv i==0)=(upto needs.length).filter fun i=>(I (ky lv (gF needs lv needs.length) (out.length+1:Nat)) i==0)||ir needs lv i:=by
    refine List.filter_congr fun i ad=>?_
    have eV:hZ needs i:=oM.1 ad
    rw [al i eV]
    by_cases au:ir needs lv i=true
    · rw [if_pos au,au,(tC i au).1];simp
    · rw [if_neg au];simp [au]
   have aC:=h.iL
   rw [aM,RX _ _ _ (fun i ad aT=>by
    have eV:hZ needs i:=oM.1 ad
    have J:=aT.1
    rw [al i eV,if_pos aT.2] at J
    simp at J;omega)] at aC
   have c8:gF needs lv needs.length=(upto needs.length).filter (ir needs lv):=rfl
   rw [aC,c8];simp
 · have bA:(out++[gF needs lv needs.length]).length=out.length+1:=by simp
   have aM:((out.length+1:Nat):Int)=(out.length:Int)+1:=by omega
   rw [bA,aM,yp (by omega),List.map_append]
   congr 1
   · conv=>lhs;rw [h.H6]
     refine List.map_congr_left fun v bn=>List.filter_congr fun i ad=>?_
     have eV:hZ needs i:=oM.1 ad
     have sq:=oM.1 bn
     rw [←aM,al i eV]
     by_cases au:ir needs lv i=true
     · rw [if_pos au,(tC i au).1]
       have:¬((0:Int)=v+1):=by omega
       have aa:¬(((out.length+1:Nat):Int)=v+1):=by omega
       rw [beq_eq_false_iff_ne.2 this,beq_eq_false_iff_ne.2 aa]
     · rw [if_neg au]
   · simp only [List.map_cons,List.map_nil]
     congr 1
     refine List.filter_congr fun i ad=>?_
     have eV:hZ needs i:=oM.1 ad
     rw [←aM,al i eV]
     by_cases au:ir needs lv i=true
     · rw [if_pos au,au];simp
     · rw [if_neg au]
       have:=h.l1 i eV
       have aa:¬(I lv i=((out.length+1:Nat):Int)):=by omega
       simp only [Bool.not_eq_true] at au
       rw [au,beq_eq_false_iff_ne.2 aa]
 · intro l av
   rcases List.mem_append.1 av with av|av
   · exact h.H7 l av
   · simp at av;subst av;exact gg
 · have er:=rV bL aA ak
   rw [al j aA] at aG ⊢
   rw [al k er]
   by_cases au:ir needs lv j=true
   · have:=(tC j au).2 k ak
     rw [if_pos au,if_neg (ys k this)]
     have:=(h.l1 k er).2
     omega
   · rw [if_neg au] at aG ⊢
     have:=h.bw j aA aG k ak
     rw [if_neg (ys k this.1)]
     exact this
 · rw [al j aA] at aG ⊢
   by_cases au:ir needs lv j=true
   · rw [if_pos au]
     rcases h.bt j aA (tC j au).1 with e|⟨k,ak,e⟩
     · left;omega
     · right
       have:=(tC j au).2 k ak
       refine ⟨k,ak,?_⟩
       rw [al k (rV bL aA ak),if_neg (ys k this)]
       omega
   · rw [if_neg au] at aG ⊢
     rcases h.ex j aA aG with e|⟨k,ak,e⟩
     · exact .inl e
     · right
       refine ⟨k,ak,?_⟩
       have:=(h.bw j aA aG k ak).1
       rw [al k (rV bL aA ak),if_neg (ys k this)]
       exact e
 · right
   rw [al j aA] at aG
   by_cases au:ir needs lv j=true
   · rw [if_pos au] at aG;omega
   · rw [if_neg au] at aG
     have hex:∃k∈I needs j,I lv k≤0:=by
      have kc:ir needs lv j=false:=by simpa using au
      simp only [ir,aG,beq_self_eq_true,Bool.true_and] at kc
      obtain ⟨k,ak,ai⟩:=List.all_eq_false.1 kc
      exact ⟨k,ak,by simpa using ai⟩
     obtain ⟨k,ak,ai⟩:=hex
     have er:=rV bL aA ak
     refine ⟨k,ak,?_⟩
     rw [al k er]
     have:=h.l1 k er
     by_cases yt:ir needs lv k=true
     · rw [if_pos yt];right;simp
     · rw [if_neg yt];left;omega
theorem RY (w n:Nat) (h:w≤n):∃r:List Int,upto (n:Int)=upto (w:Int)++r∧∀x∈r,(w:Int)≤x:=by
 refine ⟨(List.range (n- w)).map (fun i:Nat=>((w+i:Nat):Int)),?_,fun x aq=>?_⟩
 · obtain ⟨d,rfl⟩:=Nat.exists_eq_add_of_le h
   simp only [upto,Int.toNat_natCast,Nat.add_sub_cancel_left,List.range_add,List.map_append,List.map_map]
   rfl
 · obtain ⟨i,ad,rfl⟩:=List.mem_map.1 aq
   omega
theorem mG.RZ {needs:List (List Int)} {left:Int} {lv:List Int} {out:List (List Int)} (h:mG needs left lv out) (aG:0≤left):jT needs (I lv) needs.length=out:=by
 have al:=h.sum
 obtain ⟨r,au,yt⟩:=RY out.length needs.length (by omega)
 unfold jT
 rw [au,List.map_append,List.filter_append]
 have aM:((upto needs.length).filter fun i=>false)=[]:=by simp
 have aa:(r.map fun v=>(upto out.length++r).filter fun i=>I lv i==v+1).filter (· !=[])=[]:=by
  rw [List.filter_eq_nil_iff]
  intro l av
  obtain ⟨v,bn,rfl⟩:=List.mem_map.1 av
  have:=yt v bn
  simp only [bne_iff_ne,ne_eq,Decidable.not_not]
  rw [List.filter_eq_nil_iff]
  intro i ad
  rw [←au] at ad
  have:=h.l1 i (oM.1 ad)
  simp;omega
 rw [aa,List.append_nil,←au,←h.H6,List.filter_eq_self]
 intro l av
 simpa using h.H7 l av
theorem mG.depth {needs:List (List Int)} {left:Int} {lv:List Int} {out:List (List Int)} (h:mG needs left lv out) (aG:left≤0):qw needs (I lv):=by
 have ar:=h.iL
 have ao:∀j,hZ needs j→0<I lv j:=fun j aA=>by
  have J:=(h.l1 j aA).1
  by_cases e:I lv j=0
  · exfalso
    have hm:j∈(upto needs.length).filter fun i=>I lv i==0:=List.mem_filter.2 ⟨oM.2 aA,by simp [e]⟩
    have av:=List.length_pos_of_mem hm
    omega
  · omega
 intro j aA
 have J:=ao j aA
 have aa:=(h.l1 j aA).2
 have ai:=h.sum
 exact ⟨by omega,by omega,fun k ak=>(h.bw j aA J k ak).2,h.ex j aA J⟩
theorem mG.tB {needs:List (List Int)} {left:Int} {lv:List Int} {out:List (List Int)} (bL:jC needs=true) (h:mG needs left lv out) (aG:0<left) (he:gF needs lv needs.length=[]):∃h8 j,wi needs h8∧h8 j:=by
 have ar:=h.iL
 have:((upto needs.length).filter fun i=>I lv i==0)≠[]:=fun e=>by rw [e] at ar;simp at ar;omega
 obtain ⟨j,aA⟩:=List.exists_mem_of_ne_nil _ this
 have jr:=List.mem_filter.1 aA
 refine ⟨fun j=>hZ needs j∧I lv j=0,j,fun i ad=>⟨ad.1,?_⟩,oM.1 jr.1,by simpa using jr.2⟩
 have au:¬ir needs lv i=true:=fun au=>by
  have:i∈gF needs lv needs.length:=yr.2 ⟨ad.1,au⟩
  rw [he] at this;cases this
 have kc:ir needs lv i=false:=by simpa using au
 simp only [ir,ad.2,beq_self_eq_true,Bool.true_and] at kc
 obtain ⟨k,ak,ai⟩:=List.all_eq_false.1 kc
 have er:=rV bL ad.1 ak
 have aJ:I lv k≤0:=by simpa using ai
 have:=(h.l1 k er).1
 exact ⟨k,ak,er,by omega⟩
theorem R0 {needs:List (List Int)} (bL:jC needs=true):∀f left lv out,mG needs left lv out→left<(f:Nat)→0≤left→
 (∃D,qw needs D∧ll f needs left lv out=(jT needs D needs.length,0))∨((∃h8 j,wi needs h8∧h8 j)∧ll f needs left lv out=([],8)):=by
 intro f
 induction f with
 |zero=>intro left lv out _ J aa;omega
 |succ f aQ=>
  intro left lv out h J aa
  rw [ll]
  by_cases ai:left≤0
  · rw [if_pos ai]
    exact .inl ⟨I lv,h.depth ai,by rw [h.RZ aa]⟩
  · rw [if_neg ai]
    by_cases aJ:gF needs lv needs.length=[]
    · rw [if_pos aJ]
      exact .inr ⟨h.tB bL (by omega) aJ,rfl⟩
    · rw [if_neg aJ]
      have al:=h.step bL aJ
      have aU:=List.length_pos_iff.2 aJ
      refine aQ _ _ _ al (by omega) ?_
      rw [al.iL];omega
theorem mG.start (needs:List (List Int)):mG needs needs.length (List.replicate needs.length 0) []:=by
 have ao:∀j,I (List.replicate needs.length (0:Int)) j=0:=fun j=>by
  simp only [I,List.getD_eq_getElem?_getD,List.getElem?_replicate]
  split<;>rfl
 refine ⟨by simp,fun j _=>?_,by simp,?_,by simp [upto],by simp,fun j _ h=>?_,fun j _ h=>?_,fun j _ _=> .inl rfl⟩
 · rw [ao];simp
 · have e:((upto needs.length).filter fun i=>I (List.replicate needs.length (0:Int)) i==0)=upto needs.length:=List.filter_eq_self.2 (fun i _=>by rw [ao];rfl)
   rw [e];simp [upto]
 · rw [ao] at h;omega
 · rw [ao] at h;omega
theorem Co {needs:List (List Int)} (bL:jC needs=true):(∃D,qw needs D∧eL needs=(jT needs D needs.length,0))∨((∃h8 j,wi needs h8∧h8 j)∧eL needs=([],8)):=
 R0 bL _ _ _ _ (mG.start needs) (by omega) (by omega)
theorem R1 {needs:List (List Int)} (bL:jC needs=true) (h:∀D,¬qw needs D):eL needs=([],8):=by
 rcases Co bL with ⟨D,jg,_⟩|⟨_,e⟩
 · exact absurd jg (h D)
 · exact e
theorem R2 {needs:List (List Int)} {lv:List Int} {r:Int} (bL:jC needs=true) (h:jD needs lv r 0) (au:needs.length<r):eL needs=(jT needs (I lv) needs.length,0):=by
 rcases Co bL with ⟨D,jg,e⟩|⟨⟨h8,j,hh,aA⟩,_⟩
 · rw [e,RV (h.fin au jg)]
 · exact absurd aA (h.RT au hh j)
end Go.Proofs
end
section
namespace Go.Proofs
open Go Go.ba
set_option maxRecDepth 100000
def oN (needs:List (List Int)) (lv:List Int) (w k:Int):List Int:=(upto k).filter fun i=>I lv i==w
theorem H8 {needs:List (List Int)} {lv:List Int} {w k:Int} (h:0≤k):oN needs lv w (k+1)=if I lv k=w then oN needs lv w k++[k] else oN needs lv w k:=by
 rw [oN,yp h,List.filter_append]
 by_cases au:I lv k=w<;>simp [au,oN]
theorem R3 (needs:List (List Int)) (lv:List Int) (w k:Int):(oN needs lv w k).length≤k.toNat:=by
 refine Nat.le_trans (List.length_filter_le _ _) ?_
 simp [upto]
theorem R4 (needs:List (List Int)) (D:Int→Int) (w:Int):(jT needs D w).length≤w.toNat:=by
 refine Nat.le_trans (List.length_filter_le _ _) ?_
 simp [upto]
theorem H9 {needs:List (List Int)} {lv:List Int} {w:Int} (h:1≤w):jT needs (I lv) w=if oN needs lv w needs.length=[] then jT needs (I lv) (w- 1) else jT needs (I lv) (w- 1)++[oN needs lv w needs.length]:=by
 have e:w=(w- 1)+1:=by omega
 have aC:w- 1+1=w:=by omega
 conv=>lhs;rw [e]
 rw [RU (by omega),aC];rfl
end Go.Proofs
end
section
namespace Go.Proofs
open Go Go.ba
set_option maxRecDepth 100000
theorem Ia {needs:List (List Int)} (h:lk needs=0):needs.length≤64∧jC needs=true:=by
 unfold lk at h
 split at h
 · cases h
 · split at h
   · rename_i J aa;exact ⟨by omega,aa⟩
   · cases h
def iI (needs:List (List Int)):List Int×Int:=if lk needs≠0 then ([],lk needs) else ((eL needs).1.flatten,(eL needs).2)
end Go.Proofs
end
section
namespace Go.Proofs
open Go Go.ba Go.bV
set_option maxRecDepth 100000
set_option maxHeartbeats 2000000 in
theorem Ib (needs:List (List Int)) (al:needs.length≤1048576) (av:∀l∈needs,l.length≤1048576) (m:ae) (K:U→ae→Prop) (fp:lk needs≠0→K (.tuple [.eM, .err 115 (lk needs)]) m) (ab:lk needs=0→∀b,m b=none→K (.tuple [.ptr ⟨b,0,none⟩, .err 115 0]) (m.cQ b (some (.cells [.slice true (needs.map (bj aE))])))):bg Tryz.prog 193 [.slice false (needs.map (bj aE))] m K:=by
 refine enter (c:=cX [] [] [10] [13999] [13] []) (vs:=[.aH (.slice false (needs.map (bj aE)))]) (L:=[]) (m:=m) true b9 Tryz.mixed Tryz.func193 rfl (k:=1) (by show cu [13999] _ _ _=true;decide+kernel) rfl (Good.nil m) ?_
 refine az ?_
 refine br ?_
 refine ah (fun J=>?_) (fun J=>?_)
 · refine bh rfl fun _=>?_
   show K (.tuple [.eM, .err 115 2]) m
   have e:lk needs=2:=by
    rw [lk,if_pos J]
   rw [e] at fp;exact fp (by decide)
 refine az ?_
 refine br ?_
 refine b7 (σ:=Int×List (List Int)) [] [0,4,15,16,17] 1 (fun ⟨j,bN⟩=>([(0,an (needs.map (bj aE))),(4, .loc 0 0),(15,an (needs.map (bj aE))),(16,aj (needs.length:Int)),(17,aj j)],[.cells [.own (bN.map (bj aE))]],m)) (fun ⟨j,bN⟩=>0≤j∧j≤needs.length∧bN=needs.take j.toNat∧bN.all (yo needs.length)=true) (fun ⟨j,bN⟩=>needs.length- j.toNat) (0,[]) ⟨rfl,rfl⟩ ?_ ?_
 · try dsimp only
   exact ⟨by omega,by omega,by simp,by simp⟩
 rintro ⟨j,bN⟩ ay
 dsimp only at ay
 refine az ?_
 refine ah (fun aa=>?_) (fun aa=>?_)
 · have hlen:=av _ (cb (l:=needs) (i:=j) ay.1 aa)
   have hi:bN.length≤64:=by rw [ay.2.2.1,List.length_take];omega
   refine az ?_
   refine ck (by omega) ?_
   refine az ?_
   refine br ?_
   refine b7 (σ:=Int) [] [0,4,6,15,16,17,21,22,23] 1 (fun i=>([(0,an (needs.map (bj aE))),(4, .loc 0 0),(6,an ((I needs j).map aE)),(15,an (needs.map (bj aE))),(16,aj (needs.length:Int)),(17,aj j),(21,an ((I needs j).map aE)),(22,aj ((I needs j).length:Int)),(23,aj i)],[.cells [.own (bN.map (bj aE))]],m)) (fun i=>0≤i∧i≤(I needs j).length∧((I needs j).take i.toNat).all (fun k=>decide (0≤k)&&decide (k<needs.length))=true) (fun i=>(I needs j).length- i.toNat) (0) ⟨rfl,rfl⟩ ?_ ?_
   · try dsimp only
     exact ⟨by omega,by omega,by simp⟩
   rintro i a1
   refine az ?_
   refine ah (fun ai=>?_) (fun ai=>?_)
   · refine az ?_
     refine ck (by omega) ?_
     refine cq [0,4,6,15,16,17,21,22,23] 34 ((decide (I (I needs j) i<0))||(decide ((needs.length:Int)≤I (I needs j) i))) ?_ ?_
     · repeat' first
        |exact ⟨⟨_,rfl,by grind [bD.val]⟩,rfl⟩
        |refine ah (fun _=>?_) (fun _=>?_)
        |refine br ?_
     refine ah (fun aJ=>?_) (fun aJ=>?_)
     · replace aJ:(I (I needs j) i<0)∨((needs.length:Int)≤I (I needs j) i):=((dj aJ).imp (fun q=>(of_decide_eq_true q)) (fun q=>(of_decide_eq_true q)))
       refine bh rfl fun _=>?_
       show K (.tuple [.eM, .err 115 1]) m
       have e:lk needs=1:=by
        rw [lk,if_neg (by omega),if_neg]
        intro aT
        have ak:yo needs.length (I needs j)=true:=List.all_eq_true.1 aT _ (cb (l:=needs) ay.1 aa)
        have:=HW ak a1.1 ai
        omega
       rw [e] at fp;exact fp (by decide)
     replace aJ:(0≤I (I needs j) i)∧(I (I needs j) i<(needs.length:Int)):=⟨(Int.not_lt.1 (of_decide_eq_false (b8 aJ))),(Int.not_le.1 (of_decide_eq_false (di aJ)))⟩
     refine ah (by omega) ?_
     refine ⟨(i+1),⟨rfl,rfl⟩,?_,?_⟩
     · try dsimp only
       exact ⟨by omega,by omega,RM (l:=I needs j) (p:=fun k=>decide (0≤k)&&decide (k<needs.length)) a1.1 ai a1.2.2 (by simp;omega)⟩
     try dsimp only
     omega
   refine gp b9 Tryz.mixed (σ:=Unit) (.f 0 (.f 1 (.f 2 (.f 3 (.f 5 (.o 4 (.s 6 (.s 7 (.s 8 (.f 9 (.f 10 (.s 11 .d)))))) (.o 6 (.o 4 (.s 7 (.s 8 (.f 9 (.f 10 (.s 11 .d))))) (.o 7 (.s 4 (.s 8 (.f 9 (.f 10 (.s 11 .d))))) .z)) .z))))))) [] [0,4,15,16,17] 1 (fun _=>([(0,an (needs.map (bj aE))),(4, .loc 0 0),(15,an (needs.map (bj aE))),(16,aj (needs.length:Int)),(17,aj j)],[.cells [.own ((bN++([I needs j]:List (List Int))).map (bj aE))]],m)) (fun _=>True) (by decide+kernel) ?_ ?_
   · rintro _ Cp
     try dsimp only at Cp
     refine ah (by omega) ?_
     refine ⟨(j+1,bN++([I needs j]:List (List Int))),⟨rfl,rfl⟩,?_,?_⟩
     · try dsimp only
       exact ⟨by omega,by omega,by rw [ay.2.2.1,gz ay.1 aa],by rw [List.all_append,ay.2.2.2];simp;exact RN (by omega) a1.2.2⟩
     try dsimp only
     omega
   repeat' first
    |refine ⟨(),⟨rfl,rfl⟩,trivial⟩
    |refine ap aE ([]) (I needs j) rfl rfl (fun _=>⟨rfl,rfl⟩) (by (simp only [List.length_append,List.length_cons,List.length_nil];omega)) ?_
    |refine ap (bj aE) bN ([I needs j]:List (List Int)) rfl rfl (fun _=>⟨rfl,rfl⟩) (by (simp only [List.length_append,List.length_cons,List.length_nil];omega)) ?_
    |refine ⟨?_,?_,trivial⟩
 have e:bN=needs:=by rw [ay.2.2.1];exact List.take_of_length_le (by omega)
 subst e
 exact FL fun new g=>by
  obtain ⟨b,rfl,ag⟩:=Gn g
  exact ab (by rw [lk,if_neg (by omega)];exact if_pos ay.2.2.2) b ag
end Go.Proofs
end
section
namespace Go.Proofs
open Go Go.ba Go.bV
set_option maxRecDepth 100000
set_option maxHeartbeats 2000000 in
theorem R5 (needs:List (List Int)) (g:Nat) (bL:jC needs=true) (aI:needs.length≤64) (av:∀l∈needs,l.length≤1048576) (m:ae) (gd:eE [g] m) (K:U→ae→Prop) (ab:K (.tuple [.slice false ((eL needs).1.map (bj aE)), .err 115 (eL needs).2]) (ae.bf m [(g, .cells [.slice true (needs.map (bj aE))])])):bg Tryz.prog 216 [.ptr ⟨g,0,none⟩] (ae.bf m [(g, .cells [.slice true (needs.map (bj aE))])]) K:=by
 refine bg.pl ?_
 refine enter (c:=cX [] [] [13] [] [] [g]) (vs:=[.loc 0 0]) (L:=[.cells [.own (needs.map (bj aE))]]) (m:=m) true b9 Tryz.mixed Tryz.func216 rfl (k:=1) (by show cu [] _ _ _=true;decide+kernel) rfl (gd.hn rfl) ?_
 refine br ?_
 refine Gs b9 aE 0 (needs.length:Int) rfl rfl rfl rfl rfl (fun _=>rfl) rfl (by omega) (by rw [show Tryz.prog.bytesOf 3=8 from rfl];omega) (by omega) rfl ?_
 refine az ?_
 refine br ?_
 refine b7 (σ:=(List (List Int))×Int×List Int) [] [0,4,5,6] 2 (fun ⟨out,left,lv⟩=>([(0, .loc 0 0),(4, .ms 1 ((needs.length:Int).toNat) ((needs.length:Int).toNat)),(5, .own (out.map (bj aE))),(6,aj left)],[.cells [.own (needs.map (bj aE))], .obj (.cells (dM aE lv))],m)) (fun ⟨out,left,lv⟩=>left≤needs.length∧lv.length=needs.length∧out.length+left≤needs.length∧∃f:Nat,left<f∧eL needs=ll f needs left lv out) (fun ⟨out,left,lv⟩=>left.toNat) ([],(needs.length:Int),(List.replicate (needs.length:Int).toNat 0)) ⟨rfl,rfl⟩ ?_ ?_
 · try dsimp only
   exact ⟨by omega,by simp,by simp,needs.length+1,by omega,rfl⟩
 rintro ⟨out,left,lv⟩ ay
 dsimp only at ay
 obtain ⟨f,aN,hw⟩:=ay.2.2.2
 refine az ?_
 refine ah (fun J=>?_) (fun J=>?_)
 · obtain ⟨f,rfl⟩:∃k,f=k+1:=⟨f- 1,by omega⟩
   refine az ?_
   refine br ?_
   refine b7 (σ:=(List Int)×Int) [] [0,4,5,6,7,31,32,33] 2 (fun ⟨eK,i⟩=>([(0, .loc 0 0),(4, .ms 1 ((needs.length:Int).toNat) ((needs.length:Int).toNat)),(5, .own (out.map (bj aE))),(6,aj left),(7, .own (eK.map aE)),(31,an (needs.map (bj aE))),(32,aj (needs.length:Int)),(33,aj i)],[.cells [.own (needs.map (bj aE))], .obj (.cells (dM aE lv))],m)) (fun ⟨eK,i⟩=>0≤i∧i≤needs.length∧eK=gF needs lv i) (fun ⟨eK,i⟩=>needs.length- i.toNat) ([],0) ⟨rfl,rfl⟩ ?_ ?_
   · try dsimp only
     exact ⟨by omega,by omega,by simp [gF,upto]⟩
   rintro ⟨eK,i⟩ a1
   dsimp only at a1
   have tD:=HY needs lv i
   rw [←a1.2.2] at tD
   refine az ?_
   refine ah (fun aa=>?_) (fun aa=>?_)
   · have pc:=av _ (cb (l:=needs) (i:=i) a1.1 aa)
     refine az ?_
     refine ck (by omega) ?_
     refine ah (by omega) ?_
     refine xP (k:=i) (w:=1) (j:=0) aE lv (by omega) (fun _=>rfl) rfl ?_
     refine az ?_
     refine br ?_
     refine b7 (σ:=Bool×Int) [(10,0)] [0,4,5,6,7,8,10,31,32,33,43,44,45] 2 (fun ⟨ready,j⟩=>([(0, .loc 0 0),(4, .ms 1 ((needs.length:Int).toNat) ((needs.length:Int).toNat)),(5, .own (out.map (bj aE))),(6,aj left),(7, .own (eK.map aE)),(8,aj i),(10,eY ready),(31,an (needs.map (bj aE))),(32,aj (needs.length:Int)),(33,aj i),(43,an ((I needs i).map aE)),(44,aj ((I needs i).length:Int)),(45,aj j)],[.cells [.own (needs.map (bj aE))], .obj (.cells (dM aE lv))],m)) (fun ⟨ready,j⟩=>0≤j∧j≤(I needs i).length∧ready=((I lv i==0)&&((I needs i).take j.toNat).all fun k=>decide (0<I lv k))) (fun ⟨ready,j⟩=>(I needs i).length- j.toNat) (((I lv i)==0),0) ⟨rfl,rfl⟩ ?_ ?_
     · try dsimp only
       exact ⟨by omega,by omega,by simp⟩
     rintro ⟨ready,j⟩ cg
     dsimp only at cg
     refine az ?_
     refine ah (fun ai=>?_) (fun ai=>?_)
     · have bl:=H0 bL a1.1 aa cg.1 ai
       refine az ?_
       refine ck (by omega) ?_
       refine cq [0,4,5,6,7,8,31,32,33,43,44,45] 10 (ready&&(decide (0<I lv (I (I needs i) j)))) ?_ ?_
       · repeat' first
          |exact ⟨⟨_,rfl,by grind [bD.val]⟩,rfl⟩
          |refine ah (fun _=>?_) (fun _=>?_)
          |refine ah (by omega) ?_
          |refine xP (k:=I (I needs i) j) (w:=1) (j:=0) aE lv (by omega) (fun _=>rfl) rfl ?_
       refine ah (by omega) ?_
       refine ⟨((ready&&(decide (0<I lv (I (I needs i) j)))),j+1),⟨rfl,rfl⟩,?_,?_⟩
       · try dsimp only
         exact ⟨by omega,by omega,by rw [RQ cg.1 ai,←Bool.and_assoc,←cg.2.2]⟩
       try dsimp only
       omega
     have au:ir needs lv i=ready:=by rw [cg.2.2,fm (by omega)];rfl
     refine ah (fun aJ=>?_) (fun aJ=>?_)
     · refine ap aE eK ([i]:List Int) rfl rfl (fun _=>⟨rfl,rfl⟩) (by (simp only [List.length_append,List.length_cons,List.length_nil];omega)) ?_
       refine ah (by omega) ?_
       refine ⟨(eK++([i]:List Int),i+1),⟨rfl,rfl⟩,?_,?_⟩
       · try dsimp only
         exact ⟨by omega,by omega,by rw [HX a1.1,if_pos (au.trans aJ),←a1.2.2]⟩
       try dsimp only
       omega
     refine ah (by omega) ?_
     refine ⟨(eK,i+1),⟨rfl,rfl⟩,?_,?_⟩
     · try dsimp only
       exact ⟨by omega,by omega,by rw [HX a1.1,if_neg (by rw [au,aJ];simp),←a1.2.2]⟩
     try dsimp only
     omega
   have yu:eK=gF needs lv needs.length:=by
    have e:i=needs.length:=by omega
    rw [a1.2.2,e]
   refine az ?_
   refine br ?_
   refine ah (fun aY=>?_) (fun aY=>?_)
   · refine rt rfl fun _=>?_
     show K (.tuple [.slice false [], .err 115 8]) (ae.bf m [(g, .cells [.slice true (needs.map (bj aE))])])
     have e:eL needs=([],8):=by rw [hw,ll,if_neg (by omega),if_pos (by rw [←yu];exact List.length_eq_zero_iff.1 (by omega))]
     rw [e] at ab;exact ab
   have gg:¬gF needs lv needs.length=[]:=by rw [←yu];intro e;rw [e] at aY;exact aY rfl
   refine ap (bj aE) out ([eK]:List (List Int)) rfl rfl (fun _=>⟨rfl,rfl⟩) (by (simp only [List.length_append,List.length_cons,List.length_nil];omega)) ?_
   refine az ?_
   refine br ?_
   refine b7 (σ:=Int×List Int) [] [0,4,5,6,7,72,73,74] 2 (fun ⟨q,oO⟩=>([(0, .loc 0 0),(4, .ms 1 ((needs.length:Int).toNat) ((needs.length:Int).toNat)),(5, .own ((out++([eK]:List (List Int))).map (bj aE))),(6,aj left),(7, .own (eK.map aE)),(72,an (eK.map aE)),(73,aj (eK.length:Int)),(74,aj q)],[.cells [.own (needs.map (bj aE))], .obj (.cells (dM aE oO))],m)) (fun ⟨q,oO⟩=>0≤q∧q≤eK.length∧oO=ky lv (eK.take q.toNat) (out.length+1:Nat)) (fun ⟨q,oO⟩=>eK.length- q.toNat) (0,lv) ⟨rfl,rfl⟩ ?_ ?_
   · try dsimp only
     exact ⟨by omega,by omega,by simp [ky]⟩
   rintro ⟨q,oO⟩ cg
   dsimp only at cg
   have pf:oO.length=needs.length:=by rw [cg.2.2,HZ,ay.2.1]
   refine az ?_
   refine ah (fun bG=>?_) (fun bG=>?_)
   · have hm:0≤I eK q∧I eK q<needs.length:=RO (needs:=needs) (lv:=lv) (by rw [←yu];exact cb cg.1 bG)
     refine az ?_
     refine ck (by omega) ?_
     refine br ?_
     refine ah (by omega) ?_
     refine FV b9 aE oO ((out++([eK]:List (List Int))).length:Int) rfl rfl rfl rfl rfl (fun _=>rfl) rfl (fun _=>rfl) (by omega) ?_
     refine ah (by omega) ?_
     refine ⟨(q+1,oO.set (I eK q).toNat ((out++([eK]:List (List Int))).length:Int)),⟨rfl,rfl⟩,?_,?_⟩
     · try dsimp only
       exact ⟨by omega,by omega,by rw [cg.2.2,gz cg.1 bG,RP];simp⟩
     try dsimp only
     omega
   have aC:oO=ky lv eK (out.length+1:Nat):=by rw [cg.2.2,fm (by omega)]
   refine br ?_
   refine ah (by omega) ?_
   refine ⟨(out++([eK]:List (List Int)),left- (eK.length:Int),oO),⟨rfl,rfl⟩,?_,?_⟩
   · try dsimp only
     exact ⟨by omega,pf,by simp;omega,f,by omega,by rw [hw,ll,if_neg (by omega),if_neg gg,←yu,aC]⟩
   try dsimp only
   omega
 refine rt rfl fun _=>?_
 show K (.tuple [.slice false (out.map (bj aE)), .err 115 0]) (ae.bf m [(g, .cells [.slice true (needs.map (bj aE))])])
 have e:eL needs=(out,0):=by
  cases f with
  |zero=>rw [hw,ll]
  |succ f=>rw [hw,ll,if_pos (by omega)]
 rw [e] at ab;exact ab
set_option maxHeartbeats 2000000 in
theorem R6 (needs:List (List Int)) (g:Nat) (bL:jC needs=true) (aI:needs.length≤64) (av:∀l∈needs,l.length≤1048576) (m:ae) (gd:eE [g] m) (K:U→ae→Prop) (ab:K (.tuple [.slice false ((eL needs).1.flatten.map aE), .err 115 (eL needs).2]) (ae.bf m [(g, .cells [.slice true (needs.map (bj aE))])])):bg Tryz.prog 194 [.ptr ⟨g,0,none⟩] (ae.bf m [(g, .cells [.slice true (needs.map (bj aE))])]) K:=by
 refine bg.pl ?_
 have tD:=yq needs
 refine enter (c:=cX [] [] [] [] [] [g]) (vs:=[.loc 0 0]) (L:=[.cells [.own (needs.map (bj aE))]]) (m:=m) true b9 Tryz.mixed Tryz.func194 rfl (k:=1) (by show cu [] _ _ _=true;decide+kernel) rfl (gd.hn rfl) ?_
 refine gn [0] [.cells [.own (needs.map (bj aE))]] (.aH (.tuple [.slice false (((eL needs).1).map (bj aE)), .err 115 ((eL needs).2)])) rfl (fun bs aF gd=>R5 needs (bs.getD 0 0) bL aI av aF gd) ?_
 refine az ?_
 refine br ?_
 refine b7 (σ:=(List Int)×Int) [] [5,6,14,15,16] 1 (fun ⟨out,i⟩=>([(5, .aH (.err 115 ((eL needs).2))),(6, .own (out.map aE)),(14,an (((eL needs).1).map (bj aE))),(15,aj (((eL needs).1).length:Int)),(16,aj i)],[.cells [.own (needs.map (bj aE))]],m)) (fun ⟨out,i⟩=>0≤i∧i≤(eL needs).1.length∧out=((eL needs).1.take i.toNat).flatten) (fun ⟨out,i⟩=>(eL needs).1.length- i.toNat) ([],0) ⟨rfl,rfl⟩ ?_ ?_
 · try dsimp only
   exact ⟨by omega,by omega,by simp⟩
 rintro ⟨out,i⟩ ay
 dsimp only at ay
 refine az ?_
 refine ah (fun J=>?_) (fun J=>?_)
 · have ag:out.length≤65*64:=by
    rw [ay.2.2]
    refine Nat.le_trans (Cm (B:=64) (fun w hw=>Nat.le_trans (tD.2 w (List.mem_of_mem_take hw)) aI)) (Nat.mul_le_mul_right _ ?_)
    simp;omega
   have nV:=tD.2 _ (cb (l:=(eL needs).1) (i:=i) ay.1 J)
   refine az ?_
   refine ck (by omega) ?_
   refine ap aE out (I ((eL needs).1) i) rfl rfl (fun _=>⟨rfl,rfl⟩) (by (simp only [List.length_append,List.length_cons,List.length_nil];omega)) ?_
   refine ah (by omega) ?_
   refine ⟨(out++(I ((eL needs).1) i),i+1),⟨rfl,rfl⟩,?_,?_⟩
   · try dsimp only
     exact ⟨by omega,by omega,by rw [ay.2.2,H2 ay.1 J]⟩
   try dsimp only
   omega
 refine rt rfl fun _=>?_
 show K (.tuple [.slice false (out.map aE), .err 115 ((eL needs).2)]) (ae.bf m [(g, .cells [.slice true (needs.map (bj aE))])])
 rw [←fm (l:=(eL needs).1) (i:=i) (by omega),←ay.2.2] at ab;exact ab
end Go.Proofs
end
section
namespace Go.Proofs
open Go Go.ba Go.bV
set_option maxRecDepth 100000
theorem Ic (xs cA:List Int) (aq:xs.length≤140737488355328) (m:ae) (K:U→ae→Prop) (ab:K (.bool (decide (xs=cA))) m):bg Tryz.prog 70 [.slice false (xs.map aE), .slice false (cA.map aE)] m K:=by
 refine enter (c:=cX [] [] [] [] [] []) (vs:=[.aH (.slice false (xs.map aE)), .aH (.slice false (cA.map aE))]) (L:=[]) (m:=m) false b9 Tryz.mixed Tryz.func70 rfl (k:=2) (by show cu [] _ _ _=true;decide+kernel) rfl (Good.nil m) ?_
 refine az ?_
 refine br ?_
 refine br ?_
 refine ah (fun J=>?_) (fun J=>?_)
 · refine az ?_
   refine b7 (σ:=Int) [] [0,1,5] 0 (fun i=>([(0,an (xs.map aE)),(1,an (cA.map aE)),(5,aj i)],[],m)) (fun i=>0≤i∧i≤xs.length∧xs.take i.toNat=cA.take i.toNat) (fun i=>xs.length- i.toNat) (0) ⟨rfl,rfl⟩ ?_ ?_
   · try dsimp only
     exact ⟨by omega,by omega,rfl⟩
   rintro i ay
   refine az ?_
   refine br ?_
   refine ah (fun aa=>?_) (fun aa=>?_)
   · refine az ?_
     refine ck (by omega) ?_
     refine ck (by omega) ?_
     refine ah (fun ai=>?_) (fun ai=>?_)
     · refine ah (by omega) ?_
       refine ⟨(i+1),⟨rfl,rfl⟩,?_,?_⟩
       · try dsimp only
         exact ⟨by omega,by omega,HU ay.1 aa (by omega) ay.2.2 ai⟩
       try dsimp only
       omega
     refine bh rfl fun _=>df ab ?_
     show U.bool (decide (xs=cA))=U.bool false
     refine congrArg U.bool ?_
     simp only [decide_eq_false_iff_not];rintro rfl;simp at ai
   refine bh rfl fun _=>df ab ?_
   show U.bool (decide (xs=cA))=U.bool true
   refine congrArg U.bool ?_
   rw [decide_eq_true_eq];exact HV J (by omega) ay.2.2
 refine bh rfl fun _=>df ab ?_
 show U.bool (decide (xs=cA))=U.bool false
 refine congrArg U.bool ?_
 simp only [decide_eq_false_iff_not];rintro rfl;omega
theorem Ie (xs cA:List (List Int)) (aq:xs.length≤140737488355328) (cd:∀w∈xs,w.length≤140737488355328) (m:ae) (K:U→ae→Prop) (ab:K (.bool (decide (xs=cA))) m):bg Tryz.prog 76 [.slice false (xs.map (bj aE)), .slice false (cA.map (bj aE))] m K:=by
 refine enter (c:=cX [] [] [] [] [] []) (vs:=[.aH (.slice false (xs.map (bj aE))), .aH (.slice false (cA.map (bj aE)))]) (L:=[]) (m:=m) false b9 Tryz.mixed Tryz.func76 rfl (k:=2) (by show cu [] _ _ _=true;decide+kernel) rfl (Good.nil m) ?_
 refine az ?_
 refine br ?_
 refine br ?_
 refine ah (fun J=>?_) (fun J=>?_)
 · refine az ?_
   refine b7 (σ:=Int) [] [0,1,5] 0 (fun i=>([(0,an (xs.map (bj aE))),(1,an (cA.map (bj aE))),(5,aj i)],[],m)) (fun i=>0≤i∧i≤xs.length∧xs.take i.toNat=cA.take i.toNat) (fun i=>xs.length- i.toNat) (0) ⟨rfl,rfl⟩ ?_ ?_
   · try dsimp only
     exact ⟨by omega,by omega,rfl⟩
   rintro i ay
   refine az ?_
   refine br ?_
   refine ah (fun aa=>?_) (fun aa=>?_)
   · have nV:=cd _ (cb (l:=xs) (i:=i) ay.1 aa)
     refine az ?_
     refine ck (by omega) ?_
     refine ck (by omega) ?_
     refine ih (fun _=>Ic (I xs i) (I cA i) nV) ?_
     refine ah (fun ai=>?_) (fun ai=>?_)
     · refine ah (by omega) ?_
       refine ⟨(i+1),⟨rfl,rfl⟩,?_,?_⟩
       · try dsimp only
         exact ⟨by omega,by omega,HU ay.1 aa (by omega) ay.2.2 (of_decide_eq_true ai)⟩
       try dsimp only
       omega
     refine bh rfl fun _=>df ab ?_
     show U.bool (decide (xs=cA))=U.bool false
     refine congrArg U.bool ?_
     simp only [decide_eq_false_iff_not];rintro rfl;simp at ai
   refine bh rfl fun _=>df ab ?_
   show U.bool (decide (xs=cA))=U.bool true
   refine congrArg U.bool ?_
   rw [decide_eq_true_eq];exact HV J (by omega) ay.2.2
 refine bh rfl fun _=>df ab ?_
 show U.bool (decide (xs=cA))=U.bool false
 refine congrArg U.bool ?_
 simp only [decide_eq_false_iff_not];rintro rfl;omega
theorem R7 (ls:List (List Int)) (ag:ls.length≤1000) (cd:∀w∈ls,w.length≤1000) (m:ae) (K:U→ae→Prop) (ab:K (.slice false (ls.flatten.map aE)) m):bg Tryz.prog 144 [.slice false (ls.map (bj aE))] m K:=by
 refine bg.pl ?_
 refine enter (c:=cX [] [] [] [] [] []) (vs:=[.aH (.slice false (ls.map (bj aE)))]) (L:=[]) (m:=m) false b9 Tryz.mixed Tryz.func144 rfl (k:=1) (by show cu [] _ _ _=true;decide+kernel) rfl (Good.nil m) ?_
 refine az ?_
 refine b7 (σ:=(List Int)×Int) [] [0,3,4] 0 (fun ⟨out,i⟩=>([(0,an (ls.map (bj aE))),(3, .own (out.map aE)),(4,aj i)],[],m)) (fun ⟨out,i⟩=>0≤i∧i≤ls.length∧out=(ls.take i.toNat).flatten) (fun ⟨out,i⟩=>ls.length- i.toNat) ([],0) ⟨rfl,rfl⟩ ?_ ?_
 · try dsimp only
   exact ⟨by omega,by omega,by simp⟩
 rintro ⟨out,i⟩ ay
 dsimp only at ay
 refine az ?_
 refine br ?_
 refine ah (fun J=>?_) (fun J=>?_)
 · have vr:out.length≤1000*1000:=by
    rw [ay.2.2]
    refine Nat.le_trans (Cm (B:=1000) (fun w hw=>cd w (List.mem_of_mem_take hw))) (Nat.mul_le_mul_right _ ?_)
    simp;omega
   have nV:=cd _ (cb (l:=ls) (i:=i) ay.1 J)
   refine az ?_
   refine ck (by omega) ?_
   refine ap aE out (I ls i) rfl rfl (fun _=>⟨rfl,rfl⟩) (by (simp only [List.length_append,List.length_cons,List.length_nil];omega)) ?_
   refine ah (by omega) ?_
   refine ⟨(out++(I ls i),i+1),⟨rfl,rfl⟩,?_,?_⟩
   · try dsimp only
     exact ⟨by omega,by omega,by rw [ay.2.2,H2 ay.1 J]⟩
   try dsimp only
   omega
 refine bh rfl fun _=>?_
 show K (.slice false (out.map aE)) m
 rw [←fm (l:=ls) (i:=i) (by omega),←ay.2.2] at ab;exact ab
end Go.Proofs
end
section
namespace Go.Proofs
open Go Go.ba Go.bV
set_option maxRecDepth 100000
set_option maxHeartbeats 2000000 in
theorem Ig (needs:List (List Int)) (al:needs.length≤1048576) (Cq:∀l∈needs,l.length≤1048576) (m:ae) (K:U→ae→Prop) (ab:K (.tuple [.slice false ((iI needs).1.map aE), .err 115 (iI needs).2]) m):bg Tryz.prog 140 [.slice false (needs.map (bj aE))] m K:=by
 refine bg.pl ?_
 refine enter (c:=cX [] [1] [] [] [] []) (vs:=[.aH (.slice false (needs.map (bj aE)))]) (L:=[]) (m:=m) true b9 Tryz.mixed Tryz.func140 rfl (k:=1) (by show cu [] _ _ _=true;decide+kernel) rfl (Good.nil m) ?_
 refine ⟨fun _=>?_⟩
 rcases Classical.em (lk needs=0) with ar|ar
 · refine Gq 115 (.cells [.own (needs.map (bj aE))]) (.cells [.slice true (needs.map (bj aE))]) (fun _=>rfl) rfl (fun bs aF av aB K ab=>Ib needs al Cq aF K (fun h=>absurd ar h) (fun _=>ab)) ?_
   refine az ?_
   refine ah (fun J=>?_) (fun J=>?_)
   · refine gn [0] [.cells [.own (needs.map (bj aE))]] (.aH (.tuple [.slice false (((eL needs).1.flatten).map aE), .err 115 ((eL needs).2)])) rfl (fun bs aF gd=>R6 needs (bs.getD 0 0) (Ia ar).2 (by have:=(Ia ar).1;omega) Cq aF gd) ?_
     refine bh rfl fun _=>?_
     show K (.tuple [.slice false (((eL needs).1.flatten).map aE), .err 115 ((eL needs).2)]) m
     rw [iI,if_neg (not_not_intro ar)] at ab
     exact ab
   refine bh rfl fun _=>?_
   show K (.tuple [.slice false [], .err 115 0]) m
   exact absurd rfl J
 · refine b2 (fun _=>fun m K ab=>Ib needs al Cq m K (fun _=>ab) (fun h=>absurd h ar)) rfl ?_
   refine az ?_
   refine ah (fun aa=>?_) (fun aa=>?_)
   · exact absurd aa ar
   refine bh rfl fun _=>?_
   show K (.tuple [.slice false [], .err 115 (lk needs)]) m
   rw [iI,if_pos ar] at ab
   exact ab
set_option maxHeartbeats 4000000 in
theorem Ih (needs:List (List Int)) (bL:jC needs=true) (aI:needs.length≤64) (av:∀w∈needs,w.length≤1048576) (m:ae) (K:U→ae→Prop) (ab:K (.tuple [.slice false ((eL needs).1.map (bj aE)), .int .i64 (eL needs).2]) m):bg Tryz.prog 75 [.slice false (needs.map (bj aE))] m K:=by
 refine bg.pl ?_
 refine enter (c:=cX [] [] [] [] [] []) (vs:=[.aH (.slice false (needs.map (bj aE)))]) (L:=[]) (m:=m) false b9 Tryz.mixed Tryz.func75 rfl (k:=1) (by show cu [] _ _ _=true;decide+kernel) rfl (Good.nil m) ?_
 refine br ?_
 refine Gs b9 aE 0 (needs.length:Int) rfl rfl rfl rfl rfl (fun _=>rfl) rfl (by omega) (by rw [show Tryz.prog.bytesOf 3=8 from rfl];omega) (by omega) rfl ?_
 refine az ?_
 refine b7 (σ:=Int×List Int) [] [0,4,5,6] 1 (fun ⟨r,lv⟩=>([(0,an (needs.map (bj aE))),(4,aj (needs.length:Int)),(5, .ms 0 ((needs.length:Int).toNat) ((needs.length:Int).toNat)),(6,aj r)],[.obj (.cells (dM aE lv))],m)) (fun ⟨r,lv⟩=>0≤r∧r≤needs.length+1∧jD needs lv r 0) (fun ⟨r,lv⟩=>(needs.length+1)- r.toNat) (0,(List.replicate (needs.length:Int).toNat 0)) ⟨rfl,rfl⟩ ?_ ?_
 · try dsimp only
   exact ⟨by omega,by omega,by simpa using jD.start needs⟩
 rintro ⟨r,lv⟩ ay
 dsimp only at ay
 have n6:=ay.2.2.len
 refine az ?_
 refine ah (fun J=>?_) (fun J=>?_)
 · refine az ?_
   refine b7 (σ:=Int×List Int) [] [0,4,5,6,7] 1 (fun ⟨i,ln⟩=>([(0,an (needs.map (bj aE))),(4,aj (needs.length:Int)),(5, .ms 0 ((needs.length:Int).toNat) ((needs.length:Int).toNat)),(6,aj r),(7,aj i)],[.obj (.cells (dM aE ln))],m)) (fun ⟨i,ln⟩=>0≤i∧i≤needs.length∧jD needs ln r i) (fun ⟨i,ln⟩=>needs.length- i.toNat) (0,lv) ⟨rfl,rfl⟩ ?_ ?_
   · try dsimp only
     exact ⟨by omega,by omega,ay.2.2⟩
   rintro ⟨i,ln⟩ a1
   dsimp only at a1
   have xO:=a1.2.2.len
   refine az ?_
   refine ah (fun aa=>?_) (fun aa=>?_)
   · have pc:=av _ (cb (l:=needs) (i:=i) a1.1 aa)
     refine az ?_
     refine az ?_
     refine b7 (σ:=Int×Int) [] [0,4,5,6,7,8,9] 1 (fun ⟨up,k⟩=>([(0,an (needs.map (bj aE))),(4,aj (needs.length:Int)),(5, .ms 0 ((needs.length:Int).toNat) ((needs.length:Int).toNat)),(6,aj r),(7,aj i),(8,aj up),(9,aj k)],[.obj (.cells (dM aE ln))],m)) (fun ⟨up,k⟩=>0≤k∧k≤(I needs i).length∧n5 ln ((I needs i).take k.toNat) up∧up≤needs.length+1) (fun ⟨up,k⟩=>(I needs i).length- k.toNat) (1,0) ⟨rfl,rfl⟩ ?_ ?_
     · try dsimp only
       exact ⟨by omega,by omega,by simpa using n5.nil ln,by omega⟩
     rintro ⟨up,k⟩ cg
     dsimp only at cg
     refine az ?_
     refine ck (by omega) ?_
     refine br ?_
     refine ah (fun ai=>?_) (fun ai=>?_)
     · have bl:=H0 bL a1.1 aa cg.1 ai
       have au:=a1.2.2.l1 _ bl
       refine az ?_
       refine ck (by omega) ?_
       refine ck (by omega) ?_
       refine ah (by omega) ?_
       refine xP (k:=I (I needs i) k) (w:=1) (j:=0) aE ln (by omega) (fun _=>rfl) rfl ?_
       refine ah (by omega) ?_
       refine ah (by omega) ?_
       refine ⟨(if 1+(I ln (I (I needs i) k))>up then 1+(I ln (I (I needs i) k)) else up,k+1),⟨rfl,rfl⟩,?_,?_⟩
       · try dsimp only
         exact ⟨by omega,by omega,by rw [gz cg.1 ai];exact cg.2.2.1.snoc au.1,by split<;>omega⟩
       try dsimp only
       omega
     refine ah (by omega) ?_
     refine FV b9 aE ln up rfl rfl rfl rfl rfl (fun _=>rfl) rfl (fun _=>rfl) (by omega) ?_
     refine ah (fun aJ=>?_) (fun aJ=>?_)
     · refine bh rfl fun _=>?_
       show K (.tuple [.slice false [], .int .i64 8]) m
       have hu:n5 ln (I needs i) up:=by rw [←fm ai];exact cg.2.2.1
       have e:=R1 bL (a1.2.2.none bL ⟨a1.1,aa⟩ hu aJ)
       rw [e] at ab;exact ab
     refine ah (by omega) ?_
     refine ⟨(i+1,ln.set (i).toNat up),⟨rfl,rfl⟩,?_,?_⟩
     · try dsimp only
       exact ⟨by omega,by omega,a1.2.2.step bL ⟨a1.1,aa⟩ (by rw [←fm ai];exact cg.2.2.1) aJ⟩
     try dsimp only
     omega
   refine ah (by omega) ?_
   refine ⟨(r+1,ln),⟨rfl,rfl⟩,?_,?_⟩
   · try dsimp only
     exact ⟨by omega,by omega,a1.2.2.round aa⟩
   try dsimp only
   omega
 refine az ?_
 refine b7 (σ:=(List (List Int))×Int) [] [4,5,10,11] 1 (fun ⟨out,w⟩=>([(4,aj (needs.length:Int)),(5, .ms 0 ((needs.length:Int).toNat) ((needs.length:Int).toNat)),(10, .own (out.map (bj aE))),(11,aj w)],[.obj (.cells (dM aE lv))],m)) (fun ⟨out,w⟩=>1≤w∧w≤needs.length+1∧out=jT needs (I lv) (w- 1)) (fun ⟨out,w⟩=>(needs.length+1)- w.toNat) ([],1) ⟨rfl,rfl⟩ ?_ ?_
 · try dsimp only
   exact ⟨by omega,by omega,by simp [jT,upto]⟩
 rintro ⟨out,w⟩ a1
 dsimp only at a1
 have R8:=R4 needs (I lv) (w- 1)
 rw [←a1.2.2] at R8
 refine az ?_
 refine ah (fun aY=>?_) (fun aY=>?_)
 · refine az ?_
   refine az ?_
   refine b7 (σ:=(List Int)×Int) [] [4,5,10,11,12,13] 1 (fun ⟨eK,q⟩=>([(4,aj (needs.length:Int)),(5, .ms 0 ((needs.length:Int).toNat) ((needs.length:Int).toNat)),(10, .own (out.map (bj aE))),(11,aj w),(12, .own (eK.map aE)),(13,aj q)],[.obj (.cells (dM aE lv))],m)) (fun ⟨eK,q⟩=>0≤q∧q≤needs.length∧eK=oN needs lv w q) (fun ⟨eK,q⟩=>needs.length- q.toNat) ([],0) ⟨rfl,rfl⟩ ?_ ?_
   · try dsimp only
     exact ⟨by omega,by omega,by simp [oN,upto]⟩
   rintro ⟨eK,q⟩ cg
   dsimp only at cg
   have tD:=R3 needs lv w q
   rw [←cg.2.2] at tD
   refine az ?_
   refine ah (fun bG=>?_) (fun bG=>?_)
   · refine az ?_
     refine ah (by omega) ?_
     refine xP (k:=q) (w:=1) (j:=0) aE lv (by omega) (fun _=>rfl) rfl ?_
     refine ah (fun c7=>?_) (fun c7=>?_)
     · refine ap aE eK ([q]:List Int) rfl rfl (fun _=>⟨rfl,rfl⟩) (by (simp only [List.length_append,List.length_cons,List.length_nil];omega)) ?_
       refine ah (by omega) ?_
       refine ⟨(eK++([q]:List Int),q+1),⟨rfl,rfl⟩,?_,?_⟩
       · try dsimp only
         exact ⟨by omega,by omega,by rw [H8 cg.1,if_pos c7,←cg.2.2]⟩
       try dsimp only
       omega
     refine ah (by omega) ?_
     refine ⟨(eK,q+1),⟨rfl,rfl⟩,?_,?_⟩
     · try dsimp only
       exact ⟨by omega,by omega,by rw [H8 cg.1,if_neg c7,←cg.2.2]⟩
     try dsimp only
     omega
   refine br ?_
   refine ah (fun cV=>?_) (fun cV=>?_)
   · refine ap (bj aE) out ([eK]:List (List Int)) rfl rfl (fun _=>⟨rfl,rfl⟩) (by (simp only [List.length_append,List.length_cons,List.length_nil];omega)) ?_
     refine ah (by omega) ?_
     refine ⟨(out++([eK]:List (List Int)),w+1),⟨rfl,rfl⟩,?_,?_⟩
     · try dsimp only
       have e:q=needs.length:=by omega
       have aC:w+1- 1=w:=by omega
       rw [e] at cg
       exact ⟨by omega,by omega,by rw [aC,H9 a1.1,←cg.2.2,if_neg (by intro aG;rw [aG] at cV;simp at cV),←a1.2.2]⟩
     try dsimp only
     omega
   refine ah (by omega) ?_
   refine ⟨(out,w+1),⟨rfl,rfl⟩,?_,?_⟩
   · try dsimp only
     have e:q=needs.length:=by omega
     have aC:w+1- 1=w:=by omega
     rw [e] at cg
     exact ⟨by omega,by omega,by rw [aC,H9 a1.1,←cg.2.2,if_pos (List.length_eq_zero_iff.1 (by omega)),←a1.2.2]⟩
   try dsimp only
   omega
 refine bh rfl fun _=>?_
 show K (.tuple [.slice false (out.map (bj aE)), .int .i64 0]) m
 have e:w- 1=needs.length:=by omega
 rw [R2 bL ay.2.2 J,←e,←a1.2.2] at ab;exact ab
end Go.Proofs
end
section
namespace Go.Proofs
open Go Go.ba Go.bV
set_option maxRecDepth 100000
structure cz where
 kind:aD
 name:aD
 parts:List (aD×ax)
instance:Inhabited cz:=⟨⟨[],[],[]⟩⟩
structure a6 where
 name:aD
 ins:List (aD×a7)
 res:List cz
 outs:List (aD×ax)
instance:Inhabited a6:=⟨⟨[],[],[],[]⟩⟩
def bM (p:aD×a7):U:= .agg [.str p.1, .int .i64 p.2.kind, .int .i64 p.2.n, .str p.2.s, .slice false (p.2.l.map cj), .slice false (p.2.f.map ct)]
def bz (p:aD×ax):U:= .agg [.str p.1, .int .i64 p.2.kind, .int .i64 p.2.v.kind, .int .i64 p.2.v.n, .str p.2.v.s, .slice false (p.2.v.l.map cj), .slice false (p.2.v.f.map ct), .str p.2.s, .str p.2.t, .slice false (p.2.a.map cx), .slice false (p.2.n.map cS)]
def bK (r:cz):U:= .agg [.str r.kind, .str r.name, .slice false (r.parts.map bz)]
def bB (s:a6):U:= .agg [.str s.name, .slice false (s.ins.map bM), .slice false (s.res.map bK), .slice false (s.outs.map bz)]
def jU:List aD→aD→Int→Int
 |[],_,_=>-1
 |x::r,s,i=>if x=s then i else jU r s (i+1)
def b6 (l:List aD) (s:aD):Int:=jU l s 0
theorem Cr {s:aD}:∀{l:List aD} {i:Int},0≤i→jU l s i=-1∨(i≤jU l s i∧jU l s i<i+l.length)
 |[],_,_=> .inl rfl
 |x::r,i,h=>by
  rw [jU]
  split
  · right;rw [List.length_cons];omega
  · rcases Cr (s:=s) (l:=r) (i:=i+1) (by omega) with J|J
    · exact .inl J
    · right;rw [List.length_cons];omega
theorem Cs {s:aD}:∀{l:List aD} {i:Int},0≤i→(jU l s i<0↔s∉l)
 |[],_,_=>by simp [jU]
 |x::r,i,h=>by
  rw [jU]
  by_cases c:x=s
  · subst c;rw [if_pos rfl];simp;omega
  · rw [if_neg c,Cs (by omega),List.mem_cons];simp [Ne.symm c]
theorem tE {l:List aD} {s:aD}:b6 l s<0↔s∉l:=Cs (Int.le_refl _)
theorem Ct {l:List aD} {s:aD}:b6 l s=-1∨(0≤b6 l s∧b6 l s<l.length):=by
 have:=Cr (s:=s) (l:=l) (Int.le_refl 0)
 unfold b6;omega
theorem Ii {s:aD}:∀{l:List aD} {i:Int},0≤i→s∈l→I l (jU l s i- i)=s
 |[],_,_,h=>by cases h
 |x::r,i,aG,h=>by
  rw [jU]
  by_cases c:x=s
  · subst c;rw [if_pos rfl,Int.sub_self];rfl
  · rw [if_neg c]
    have au:s∈r:=(List.mem_cons.1 h).resolve_left (Ne.symm c)
    have J:=Ii (i:=i+1) (by omega) au
    have aa:=Cr (s:=s) (l:=r) (i:=i+1) (by omega)
    have ai:=mt (Cs (s:=s) (l:=r) (i:=i+1) (by omega)).1 (fun q=>q au)
    generalize jU r s (i+1)=k at*
    have e:(k- i).toNat=(k- (i+1)).toNat+1:=by omega
    simp only [I] at J ⊢
    rw [e];simpa using J
theorem Ij {l:List aD} {s:aD} (h:0≤b6 l s):I l (b6 l s)=s:=by
 have hm:s∈l:=Classical.not_not.1 fun q=>by have:=tE.2 q;omega
 have:=Ii (Int.le_refl 0) hm
 rwa [Int.sub_zero] at this
theorem yv {α:Type} [Inhabited α] {β:Type} [Inhabited β] {f:α→β} {l:List α} {i:Int} (aG:0≤i) (ad:i<l.length):I (l.map f) i=f (I l i):=by
 have aI:i.toNat<l.length:=by omega
 simp [I,List.getD_eq_getElem?_getD,aI]
theorem qx {α:Type} [Inhabited α] {f:α→aD} {l:List α} {s:aD} {i:Int} (aG:0≤i) (ad:i<l.length):jU ((l.drop i.toNat).map f) s i=if f (I l i)=s then i else jU ((l.drop (i+1).toNat).map f) s (i+1):=by
 rw [iP aG ad,List.map_cons,jU]
theorem Ik {α:Type} (l:List α) {i:Int} (aG:0≤i):sub l 0 i=l.take i.toNat:=by
 simp [sub]
theorem yw {α:Type} [Inhabited α] {f:α→aD} {l:List α} {i:Int} (aG:0≤i) (ad:i<l.length) (h:0≤b6 ((sub l 0 i).map f) (f (I l i))):¬(l.map f).Nodup:=by
 intro aI
 rw [Ik l aG] at h
 have hm:f (I l i)∈(l.take i.toNat).map f:=Classical.not_not.1 fun q=>by have:=tE.2 q;omega
 rw [←List.take_append_drop i.toNat l,List.map_append,iP aG ad] at aI
 exact (List.nodup_append.1 aI).2.2 _ hm _ (List.mem_cons_self ..) rfl
theorem yx {α:Type} [Inhabited α] {f:α→aD} {l:List α} {i:Int} (aG:0≤i) (ad:i<l.length) (aI:((l.take i.toNat).map f).Nodup) (h:b6 ((sub l 0 i).map f) (f (I l i))<0):((l.take (i+1).toNat).map f).Nodup:=by
 rw [Ik l aG] at h
 rw [gz aG ad,List.map_append]
 exact List.nodup_append.2 ⟨aI,by simp,fun a aX b ag e=>by simp at ag;subst ag;subst e;exact tE.1 h aX⟩
theorem Il (x:a6) (m:ae) (K:U→ae→Prop) (ab:K (.str (a6.name x)) m):bg Tryz.prog 132 [bB x] m K:=by
 refine enter (c:=cX [] [] [] [] [] []) (vs:=[.aH (bB x)]) (L:=[]) (m:=m) false b9 Tryz.mixed Tryz.func132 rfl (k:=1) (by show cu [] _ _ _=true;decide+kernel) rfl (Good.nil m) ?_
 refine bh rfl fun _=>df ab ?_
 show U.str (a6.name x)=U.str x.name
 refine congrArg U.str ?_
 rfl
theorem Im (x:(aD×a7)) (m:ae) (K:U→ae→Prop) (ab:K (.str (Prod.fst x)) m):bg Tryz.prog 134 [bM x] m K:=by
 refine enter (c:=cX [] [] [] [] [] []) (vs:=[.aH (bM x)]) (L:=[]) (m:=m) false b9 Tryz.mixed Tryz.func134 rfl (k:=1) (by show cu [] _ _ _=true;decide+kernel) rfl (Good.nil m) ?_
 refine bh rfl fun _=>df ab ?_
 show U.str (Prod.fst x)=U.str x.1
 refine congrArg U.str ?_
 rfl
theorem Io (x:cz) (m:ae) (K:U→ae→Prop) (ab:K (.str (cz.name x)) m):bg Tryz.prog 136 [bK x] m K:=by
 refine enter (c:=cX [] [] [] [] [] []) (vs:=[.aH (bK x)]) (L:=[]) (m:=m) false b9 Tryz.mixed Tryz.func136 rfl (k:=1) (by show cu [] _ _ _=true;decide+kernel) rfl (Good.nil m) ?_
 refine bh rfl fun _=>df ab ?_
 show U.str (cz.name x)=U.str x.name
 refine congrArg U.str ?_
 rfl
theorem Ip (x:(aD×ax)) (m:ae) (K:U→ae→Prop) (ab:K (.str (Prod.fst x)) m):bg Tryz.prog 138 [bz x] m K:=by
 refine enter (c:=cX [] [] [] [] [] []) (vs:=[.aH (bz x)]) (L:=[]) (m:=m) false b9 Tryz.mixed Tryz.func138 rfl (k:=1) (by show cu [] _ _ _=true;decide+kernel) rfl (Good.nil m) ?_
 refine bh rfl fun _=>df ab ?_
 show U.str (Prod.fst x)=U.str x.1
 refine congrArg U.str ?_
 rfl
theorem Iq (l:List a6) (s:aD) (m:ae) (K:U→ae→Prop) (ab:K (.int .i64 (b6 (l.map a6.name) s)) m):bg Tryz.prog 184 [.slice false (l.map bB), .func (.func 132) [] [], .str s] m K:=by
 refine enter (c:=cX [] [0] [] [] [] []) (vs:=[.aH (.slice false (l.map bB)), .fn 132 [] [], .aH (.str s)]) (L:=[]) (m:=m) false b9 Tryz.mixed Tryz.func184 rfl (k:=3) (by show cu [] _ _ _=true;decide+kernel) rfl (Good.nil m) ?_
 refine ⟨fun bq=>?_⟩
 have jy:l.length≤140737488355328:=cN (o:=false) (bq 0).1
 refine az ?_
 refine br ?_
 refine b7 (σ:=Int) [] [1,2,9,10,11] 0 (fun i=>([(1, .fn 132 [] []),(2,aw s),(9,an (l.map bB)),(10,aj (l.length:Int)),(11,aj i)],[],m)) (fun i=>0≤i∧i≤l.length∧b6 (l.map a6.name) s=jU ((l.drop i.toNat).map a6.name) s i) (fun i=>l.length- i.toNat) (0) ⟨rfl,rfl⟩ ?_ ?_
 · try dsimp only
   exact ⟨by omega,by omega,rfl⟩
 rintro i ay
 refine az ?_
 refine ah (fun J=>?_) (fun J=>?_)
 · refine az ?_
   refine ck (by omega) ?_
   refine b2 (fun _=>Il (I l i)) rfl ?_
   refine ah (fun aa=>?_) (fun aa=>?_)
   · refine bh rfl fun _=>df ab ?_
     show U.int .i64 (b6 (l.map a6.name) s)=U.int .i64 i
     refine congrArg (U.int .i64) ?_
     rw [ay.2.2,qx ay.1 J,if_pos aa]
   refine ah (by omega) ?_
   refine ⟨(i+1),⟨rfl,rfl⟩,?_,?_⟩
   · try dsimp only
     exact ⟨by omega,by omega,by rw [ay.2.2,qx ay.1 J,if_neg aa]⟩
   try dsimp only
   omega
 refine bh rfl fun _=>df ab ?_
 show U.int .i64 (b6 (l.map a6.name) s)=U.int .i64 (-1)
 refine congrArg (U.int .i64) ?_
 rw [ay.2.2,List.drop_eq_nil_of_le (by omega)];rfl
theorem R9 (l:List a6) (m:ae) (K:U→ae→Prop) (ab:K (.bool (decide (¬(l.map a6.name).Nodup))) m):bg Tryz.prog 131 [.slice false (l.map bB), .func (.func 132) [] []] m K:=by
 refine enter (c:=cX [] [0] [] [4999] [4] []) (vs:=[.aH (.slice false (l.map bB)), .fn 132 [] []]) (L:=[]) (m:=m) false b9 Tryz.mixed Tryz.func131 rfl (k:=2) (by show cu [4999] _ _ _=true;decide+kernel) rfl (Good.nil m) ?_
 refine ⟨fun bq=>?_⟩
 have jy:l.length≤140737488355328:=cN (o:=false) (bq 0).1
 refine az ?_
 refine br ?_
 refine b7 (σ:=Int) [] [0,1,7,8,9] 0 (fun i=>([(0,an (l.map bB)),(1, .fn 132 [] []),(7,an (l.map bB)),(8,aj (l.length:Int)),(9,aj i)],[],m)) (fun i=>0≤i∧i≤l.length∧((l.take i.toNat).map a6.name).Nodup) (fun i=>l.length- i.toNat) (0) ⟨rfl,rfl⟩ ?_ ?_
 · try dsimp only
   exact ⟨by omega,by omega,List.nodup_nil⟩
 rintro i ay
 refine az ?_
 refine ah (fun J=>?_) (fun J=>?_)
 · refine az ?_
   refine ck ⟨by (try dsimp only [Option.getD_none,Option.getD_some]);omega,by omega⟩ ?_
   refine gp b9 Tryz.mixed (σ:=Bool) (.f 0 (.f 1 (.f 3 (.f 4 (.o 2 (.s 5 (.s 6 (.s 7 (.s 8 .d)))) (.o 5 (.o 2 (.s 6 (.s 7 (.s 8 .d))) (.o 6 (.s 2 (.s 7 (.s 8 .d))) .z)) .z)))))) [(22,0)] [0,1,7,8,9,22] 1 (fun c=>([(0,an (l.map bB)),(1, .fn 132 [] []),(7,an (l.map bB)),(8,aj (l.length:Int)),(9,aj i),(22,eY c)],[.cells [aw ((I l i).name),an (((I l i).ins).map bM),an (((I l i).res).map bK),an (((I l i).outs).map bz)]],m)) (fun c=>c=decide (0≤b6 ((sub l 0 i).map a6.name) ((I l i).name))) (by decide+kernel) ?_ ?_
   · rintro c n7
     refine ah (fun aa=>?_) (fun aa=>?_)
     · refine bh rfl fun _=>?_
       show K (.bool true) m
       have ar:=of_decide_eq_true (n7.symm.trans aa)
       rw [decide_eq_true (yw (f:=a6.name) ay.1 J ar)] at ab;exact ab
     refine ah (by omega) ?_
     refine ⟨(i+1),⟨rfl,rfl⟩,?_,?_⟩
     · try dsimp only
       have ar:=of_decide_eq_false (n7.symm.trans aa)
       exact ⟨by omega,by omega,yx (f:=a6.name) ay.1 J ay.2.2 (Int.not_le.1 ar)⟩
     try dsimp only
     omega
   repeat' first
    |refine ⟨((decide (0≤b6 ((sub l 0 i).map a6.name) ((I l i).name)))),⟨rfl,rfl⟩,rfl⟩
    |refine xm (fun _=>rfl) ⟨by (try dsimp only [Option.getD_none,Option.getD_some]);omega,by (try dsimp only [Option.getD_none,Option.getD_some]);omega,by omega⟩ ?_
    |refine b2 (fun _=>Il (I l i)) rfl ?_
    |refine b2 (fun _=>Iq (sub l 0 i) ((I l i).name)) rfl ?_
    |refine ⟨?_,?_,trivial⟩
 refine bh rfl fun _=>?_
 show K (.bool false) m
 rw [decide_eq_false (not_not_intro (by have:=ay.2.2;rwa [fm (by omega)] at this))] at ab;exact ab
theorem Ir (l:List (aD×a7)) (s:aD) (m:ae) (K:U→ae→Prop) (ab:K (.int .i64 (b6 (l.map Prod.fst) s)) m):bg Tryz.prog 185 [.slice false (l.map bM), .func (.func 134) [] [], .str s] m K:=by
 refine enter (c:=cX [] [0] [] [] [] []) (vs:=[.aH (.slice false (l.map bM)), .fn 134 [] [], .aH (.str s)]) (L:=[]) (m:=m) false b9 Tryz.mixed Tryz.func185 rfl (k:=3) (by show cu [] _ _ _=true;decide+kernel) rfl (Good.nil m) ?_
 refine ⟨fun bq=>?_⟩
 have jy:l.length≤140737488355328:=cN (o:=false) (bq 0).1
 refine az ?_
 refine br ?_
 refine b7 (σ:=Int) [] [1,2,9,10,11] 0 (fun i=>([(1, .fn 134 [] []),(2,aw s),(9,an (l.map bM)),(10,aj (l.length:Int)),(11,aj i)],[],m)) (fun i=>0≤i∧i≤l.length∧b6 (l.map Prod.fst) s=jU ((l.drop i.toNat).map Prod.fst) s i) (fun i=>l.length- i.toNat) (0) ⟨rfl,rfl⟩ ?_ ?_
 · try dsimp only
   exact ⟨by omega,by omega,rfl⟩
 rintro i ay
 refine az ?_
 refine ah (fun J=>?_) (fun J=>?_)
 · refine az ?_
   refine ck (by omega) ?_
   refine b2 (fun _=>Im (I l i)) rfl ?_
   refine ah (fun aa=>?_) (fun aa=>?_)
   · refine bh rfl fun _=>df ab ?_
     show U.int .i64 (b6 (l.map Prod.fst) s)=U.int .i64 i
     refine congrArg (U.int .i64) ?_
     rw [ay.2.2,qx ay.1 J,if_pos aa]
   refine ah (by omega) ?_
   refine ⟨(i+1),⟨rfl,rfl⟩,?_,?_⟩
   · try dsimp only
     exact ⟨by omega,by omega,by rw [ay.2.2,qx ay.1 J,if_neg aa]⟩
   try dsimp only
   omega
 refine bh rfl fun _=>df ab ?_
 show U.int .i64 (b6 (l.map Prod.fst) s)=U.int .i64 (-1)
 refine congrArg (U.int .i64) ?_
 rw [ay.2.2,List.drop_eq_nil_of_le (by omega)];rfl
theorem Sa (l:List (aD×a7)) (m:ae) (K:U→ae→Prop) (ab:K (.bool (decide (¬(l.map Prod.fst).Nodup))) m):bg Tryz.prog 133 [.slice false (l.map bM), .func (.func 134) [] []] m K:=by
 refine enter (c:=cX [] [0] [] [4999] [4] []) (vs:=[.aH (.slice false (l.map bM)), .fn 134 [] []]) (L:=[]) (m:=m) false b9 Tryz.mixed Tryz.func133 rfl (k:=2) (by show cu [4999] _ _ _=true;decide+kernel) rfl (Good.nil m) ?_
 refine ⟨fun bq=>?_⟩
 have jy:l.length≤140737488355328:=cN (o:=false) (bq 0).1
 refine az ?_
 refine br ?_
 refine b7 (σ:=Int) [] [0,1,7,8,9] 0 (fun i=>([(0,an (l.map bM)),(1, .fn 134 [] []),(7,an (l.map bM)),(8,aj (l.length:Int)),(9,aj i)],[],m)) (fun i=>0≤i∧i≤l.length∧((l.take i.toNat).map Prod.fst).Nodup) (fun i=>l.length- i.toNat) (0) ⟨rfl,rfl⟩ ?_ ?_
 · try dsimp only
   exact ⟨by omega,by omega,List.nodup_nil⟩
 rintro i ay
 refine az ?_
 refine ah (fun J=>?_) (fun J=>?_)
 · refine az ?_
   refine ck ⟨by (try dsimp only [Option.getD_none,Option.getD_some]);omega,by omega⟩ ?_
   refine gp b9 Tryz.mixed (σ:=Bool) (.f 0 (.f 1 (.f 3 (.f 4 (.o 2 (.s 5 (.s 6 (.s 7 (.s 8 .d)))) (.o 5 (.o 2 (.s 6 (.s 7 (.s 8 .d))) (.o 6 (.s 2 (.s 7 (.s 8 .d))) .z)) .z)))))) [(22,0)] [0,1,7,8,9,22] 1 (fun c=>([(0,an (l.map bM)),(1, .fn 134 [] []),(7,an (l.map bM)),(8,aj (l.length:Int)),(9,aj i),(22,eY c)],[.cells [aw ((I l i).1),aj (((I l i).2).kind),aj (((I l i).2).n),aw (((I l i).2).s),an ((((I l i).2).l).map cj),an ((((I l i).2).f).map ct)]],m)) (fun c=>c=decide (0≤b6 ((sub l 0 i).map Prod.fst) ((I l i).1))) (by decide+kernel) ?_ ?_
   · rintro c n7
     refine ah (fun aa=>?_) (fun aa=>?_)
     · refine bh rfl fun _=>?_
       show K (.bool true) m
       have ar:=of_decide_eq_true (n7.symm.trans aa)
       rw [decide_eq_true (yw (f:=Prod.fst) ay.1 J ar)] at ab;exact ab
     refine ah (by omega) ?_
     refine ⟨(i+1),⟨rfl,rfl⟩,?_,?_⟩
     · try dsimp only
       have ar:=of_decide_eq_false (n7.symm.trans aa)
       exact ⟨by omega,by omega,yx (f:=Prod.fst) ay.1 J ay.2.2 (Int.not_le.1 ar)⟩
     try dsimp only
     omega
   repeat' first
    |refine ⟨((decide (0≤b6 ((sub l 0 i).map Prod.fst) ((I l i).1)))),⟨rfl,rfl⟩,rfl⟩
    |refine xm (fun _=>rfl) ⟨by (try dsimp only [Option.getD_none,Option.getD_some]);omega,by (try dsimp only [Option.getD_none,Option.getD_some]);omega,by omega⟩ ?_
    |refine b2 (fun _=>Im (I l i)) rfl ?_
    |refine b2 (fun _=>Ir (sub l 0 i) ((I l i).1)) rfl ?_
    |refine ⟨?_,?_,trivial⟩
 refine bh rfl fun _=>?_
 show K (.bool false) m
 rw [decide_eq_false (not_not_intro (by have:=ay.2.2;rwa [fm (by omega)] at this))] at ab;exact ab
theorem Is (l:List cz) (s:aD) (m:ae) (K:U→ae→Prop) (ab:K (.int .i64 (b6 (l.map cz.name) s)) m):bg Tryz.prog 186 [.slice false (l.map bK), .func (.func 136) [] [], .str s] m K:=by
 refine enter (c:=cX [] [0] [] [] [] []) (vs:=[.aH (.slice false (l.map bK)), .fn 136 [] [], .aH (.str s)]) (L:=[]) (m:=m) false b9 Tryz.mixed Tryz.func186 rfl (k:=3) (by show cu [] _ _ _=true;decide+kernel) rfl (Good.nil m) ?_
 refine ⟨fun bq=>?_⟩
 have jy:l.length≤140737488355328:=cN (o:=false) (bq 0).1
 refine az ?_
 refine br ?_
 refine b7 (σ:=Int) [] [1,2,9,10,11] 0 (fun i=>([(1, .fn 136 [] []),(2,aw s),(9,an (l.map bK)),(10,aj (l.length:Int)),(11,aj i)],[],m)) (fun i=>0≤i∧i≤l.length∧b6 (l.map cz.name) s=jU ((l.drop i.toNat).map cz.name) s i) (fun i=>l.length- i.toNat) (0) ⟨rfl,rfl⟩ ?_ ?_
 · try dsimp only
   exact ⟨by omega,by omega,rfl⟩
 rintro i ay
 refine az ?_
 refine ah (fun J=>?_) (fun J=>?_)
 · refine az ?_
   refine ck (by omega) ?_
   refine b2 (fun _=>Io (I l i)) rfl ?_
   refine ah (fun aa=>?_) (fun aa=>?_)
   · refine bh rfl fun _=>df ab ?_
     show U.int .i64 (b6 (l.map cz.name) s)=U.int .i64 i
     refine congrArg (U.int .i64) ?_
     rw [ay.2.2,qx ay.1 J,if_pos aa]
   refine ah (by omega) ?_
   refine ⟨(i+1),⟨rfl,rfl⟩,?_,?_⟩
   · try dsimp only
     exact ⟨by omega,by omega,by rw [ay.2.2,qx ay.1 J,if_neg aa]⟩
   try dsimp only
   omega
 refine bh rfl fun _=>df ab ?_
 show U.int .i64 (b6 (l.map cz.name) s)=U.int .i64 (-1)
 refine congrArg (U.int .i64) ?_
 rw [ay.2.2,List.drop_eq_nil_of_le (by omega)];rfl
theorem Sb (l:List cz) (m:ae) (K:U→ae→Prop) (ab:K (.bool (decide (¬(l.map cz.name).Nodup))) m):bg Tryz.prog 135 [.slice false (l.map bK), .func (.func 136) [] []] m K:=by
 refine enter (c:=cX [] [0] [] [4999] [4] []) (vs:=[.aH (.slice false (l.map bK)), .fn 136 [] []]) (L:=[]) (m:=m) false b9 Tryz.mixed Tryz.func135 rfl (k:=2) (by show cu [4999] _ _ _=true;decide+kernel) rfl (Good.nil m) ?_
 refine ⟨fun bq=>?_⟩
 have jy:l.length≤140737488355328:=cN (o:=false) (bq 0).1
 refine az ?_
 refine br ?_
 refine b7 (σ:=Int) [] [0,1,7,8,9] 0 (fun i=>([(0,an (l.map bK)),(1, .fn 136 [] []),(7,an (l.map bK)),(8,aj (l.length:Int)),(9,aj i)],[],m)) (fun i=>0≤i∧i≤l.length∧((l.take i.toNat).map cz.name).Nodup) (fun i=>l.length- i.toNat) (0) ⟨rfl,rfl⟩ ?_ ?_
 · try dsimp only
   exact ⟨by omega,by omega,List.nodup_nil⟩
 rintro i ay
 refine az ?_
 refine ah (fun J=>?_) (fun J=>?_)
 · refine az ?_
   refine ck ⟨by (try dsimp only [Option.getD_none,Option.getD_some]);omega,by omega⟩ ?_
   refine gp b9 Tryz.mixed (σ:=Bool) (.f 0 (.f 1 (.f 3 (.f 4 (.o 2 (.s 5 (.s 6 (.s 7 (.s 8 .d)))) (.o 5 (.o 2 (.s 6 (.s 7 (.s 8 .d))) (.o 6 (.s 2 (.s 7 (.s 8 .d))) .z)) .z)))))) [(22,0)] [0,1,7,8,9,22] 1 (fun c=>([(0,an (l.map bK)),(1, .fn 136 [] []),(7,an (l.map bK)),(8,aj (l.length:Int)),(9,aj i),(22,eY c)],[.cells [aw ((I l i).kind),aw ((I l i).name),an (((I l i).parts).map bz)]],m)) (fun c=>c=decide (0≤b6 ((sub l 0 i).map cz.name) ((I l i).name))) (by decide+kernel) ?_ ?_
   · rintro c n7
     refine ah (fun aa=>?_) (fun aa=>?_)
     · refine bh rfl fun _=>?_
       show K (.bool true) m
       have ar:=of_decide_eq_true (n7.symm.trans aa)
       rw [decide_eq_true (yw (f:=cz.name) ay.1 J ar)] at ab;exact ab
     refine ah (by omega) ?_
     refine ⟨(i+1),⟨rfl,rfl⟩,?_,?_⟩
     · try dsimp only
       have ar:=of_decide_eq_false (n7.symm.trans aa)
       exact ⟨by omega,by omega,yx (f:=cz.name) ay.1 J ay.2.2 (Int.not_le.1 ar)⟩
     try dsimp only
     omega
   repeat' first
    |refine ⟨((decide (0≤b6 ((sub l 0 i).map cz.name) ((I l i).name)))),⟨rfl,rfl⟩,rfl⟩
    |refine xm (fun _=>rfl) ⟨by (try dsimp only [Option.getD_none,Option.getD_some]);omega,by (try dsimp only [Option.getD_none,Option.getD_some]);omega,by omega⟩ ?_
    |refine b2 (fun _=>Io (I l i)) rfl ?_
    |refine b2 (fun _=>Is (sub l 0 i) ((I l i).name)) rfl ?_
    |refine ⟨?_,?_,trivial⟩
 refine bh rfl fun _=>?_
 show K (.bool false) m
 rw [decide_eq_false (not_not_intro (by have:=ay.2.2;rwa [fm (by omega)] at this))] at ab;exact ab
theorem It (l:List (aD×ax)) (s:aD) (m:ae) (K:U→ae→Prop) (ab:K (.int .i64 (b6 (l.map Prod.fst) s)) m):bg Tryz.prog 187 [.slice false (l.map bz), .func (.func 138) [] [], .str s] m K:=by
 refine enter (c:=cX [] [0] [] [] [] []) (vs:=[.aH (.slice false (l.map bz)), .fn 138 [] [], .aH (.str s)]) (L:=[]) (m:=m) false b9 Tryz.mixed Tryz.func187 rfl (k:=3) (by show cu [] _ _ _=true;decide+kernel) rfl (Good.nil m) ?_
 refine ⟨fun bq=>?_⟩
 have jy:l.length≤140737488355328:=cN (o:=false) (bq 0).1
 refine az ?_
 refine br ?_
 refine b7 (σ:=Int) [] [1,2,9,10,11] 0 (fun i=>([(1, .fn 138 [] []),(2,aw s),(9,an (l.map bz)),(10,aj (l.length:Int)),(11,aj i)],[],m)) (fun i=>0≤i∧i≤l.length∧b6 (l.map Prod.fst) s=jU ((l.drop i.toNat).map Prod.fst) s i) (fun i=>l.length- i.toNat) (0) ⟨rfl,rfl⟩ ?_ ?_
 · try dsimp only
   exact ⟨by omega,by omega,rfl⟩
 rintro i ay
 refine az ?_
 refine ah (fun J=>?_) (fun J=>?_)
 · refine az ?_
   refine ck (by omega) ?_
   refine b2 (fun _=>Ip (I l i)) rfl ?_
   refine ah (fun aa=>?_) (fun aa=>?_)
   · refine bh rfl fun _=>df ab ?_
     show U.int .i64 (b6 (l.map Prod.fst) s)=U.int .i64 i
     refine congrArg (U.int .i64) ?_
     rw [ay.2.2,qx ay.1 J,if_pos aa]
   refine ah (by omega) ?_
   refine ⟨(i+1),⟨rfl,rfl⟩,?_,?_⟩
   · try dsimp only
     exact ⟨by omega,by omega,by rw [ay.2.2,qx ay.1 J,if_neg aa]⟩
   try dsimp only
   omega
 refine bh rfl fun _=>df ab ?_
 show U.int .i64 (b6 (l.map Prod.fst) s)=U.int .i64 (-1)
 refine congrArg (U.int .i64) ?_
 rw [ay.2.2,List.drop_eq_nil_of_le (by omega)];rfl
theorem Sc (l:List (aD×ax)) (m:ae) (K:U→ae→Prop) (ab:K (.bool (decide (¬(l.map Prod.fst).Nodup))) m):bg Tryz.prog 137 [.slice false (l.map bz), .func (.func 138) [] []] m K:=by
 refine enter (c:=cX [] [0] [] [4999] [4] []) (vs:=[.aH (.slice false (l.map bz)), .fn 138 [] []]) (L:=[]) (m:=m) false b9 Tryz.mixed Tryz.func137 rfl (k:=2) (by show cu [4999] _ _ _=true;decide+kernel) rfl (Good.nil m) ?_
 refine ⟨fun bq=>?_⟩
 have jy:l.length≤140737488355328:=cN (o:=false) (bq 0).1
 refine az ?_
 refine br ?_
 refine b7 (σ:=Int) [] [0,1,7,8,9] 0 (fun i=>([(0,an (l.map bz)),(1, .fn 138 [] []),(7,an (l.map bz)),(8,aj (l.length:Int)),(9,aj i)],[],m)) (fun i=>0≤i∧i≤l.length∧((l.take i.toNat).map Prod.fst).Nodup) (fun i=>l.length- i.toNat) (0) ⟨rfl,rfl⟩ ?_ ?_
 · try dsimp only
   exact ⟨by omega,by omega,List.nodup_nil⟩
 rintro i ay
 refine az ?_
 refine ah (fun J=>?_) (fun J=>?_)
 · refine az ?_
   refine ck ⟨by (try dsimp only [Option.getD_none,Option.getD_some]);omega,by omega⟩ ?_
   refine gp b9 Tryz.mixed (σ:=Bool) (.f 0 (.f 1 (.f 3 (.f 4 (.o 2 (.s 5 (.s 6 (.s 7 (.s 8 .d)))) (.o 5 (.o 2 (.s 6 (.s 7 (.s 8 .d))) (.o 6 (.s 2 (.s 7 (.s 8 .d))) .z)) .z)))))) [(22,0)] [0,1,7,8,9,22] 1 (fun c=>([(0,an (l.map bz)),(1, .fn 138 [] []),(7,an (l.map bz)),(8,aj (l.length:Int)),(9,aj i),(22,eY c)],[.cells [aw ((I l i).1),aj (((I l i).2).kind),aj ((((I l i).2).v).kind),aj ((((I l i).2).v).n),aw ((((I l i).2).v).s),an (((((I l i).2).v).l).map cj),an (((((I l i).2).v).f).map ct),aw (((I l i).2).s),aw (((I l i).2).t),an ((((I l i).2).a).map cx),an ((((I l i).2).n).map cS)]],m)) (fun c=>c=decide (0≤b6 ((sub l 0 i).map Prod.fst) ((I l i).1))) (by decide+kernel) ?_ ?_
   · rintro c n7
     refine ah (fun aa=>?_) (fun aa=>?_)
     · refine bh rfl fun _=>?_
       show K (.bool true) m
       have ar:=of_decide_eq_true (n7.symm.trans aa)
       rw [decide_eq_true (yw (f:=Prod.fst) ay.1 J ar)] at ab;exact ab
     refine ah (by omega) ?_
     refine ⟨(i+1),⟨rfl,rfl⟩,?_,?_⟩
     · try dsimp only
       have ar:=of_decide_eq_false (n7.symm.trans aa)
       exact ⟨by omega,by omega,yx (f:=Prod.fst) ay.1 J ay.2.2 (Int.not_le.1 ar)⟩
     try dsimp only
     omega
   repeat' first
    |refine ⟨((decide (0≤b6 ((sub l 0 i).map Prod.fst) ((I l i).1)))),⟨rfl,rfl⟩,rfl⟩
    |refine xm (fun _=>rfl) ⟨by (try dsimp only [Option.getD_none,Option.getD_some]);omega,by (try dsimp only [Option.getD_none,Option.getD_some]);omega,by omega⟩ ?_
    |refine b2 (fun _=>Ip (I l i)) rfl ?_
    |refine b2 (fun _=>It (sub l 0 i) ((I l i).1)) rfl ?_
    |refine ⟨?_,?_,trivial⟩
 refine bh rfl fun _=>?_
 show K (.bool false) m
 rw [decide_eq_false (not_not_intro (by have:=ay.2.2;rwa [fm (by omega)] at this))] at ab;exact ab
end Go.Proofs
end
section
namespace Go.Proofs
open Go Go.ba Go.bV
set_option maxRecDepth 100000
def nz:List (aD×a7)→Int
 |[]=>0
 |p::r=>if cr p.1=true∧p.2.kind≤3∧b5 p.2=0 then nz r else 3
noncomputable def lo (l:List (aD×ax)):Nat→Int→Int
 |0,_=>0
 |n+1,i=>if cr (I l i).1=true∧(0<i→Op.bytesLess (I l (i- 1)).1 (I l i).1=true) then (if eS (I l i).2=0 then lo l n (i+1) else eS (I l i).2) else 3
noncomputable def lp (l:List (aD×ax)):Int:=lo l l.length 0
noncomputable def mH:List cz→Int
 |[]=>0
 |x::r=>if cr x.kind=true∧cr x.name=true then (if 6<(x.parts.length:Int) then 2 else if lp x.parts=0 then mH r else lp x.parts) else 3
noncomputable def l2:List (aD×ax)→Int
 |[]=>0
 |p::r=>if cr p.1=true then (if eS p.2=0 then l2 r else eS p.2) else 3
noncomputable def qy (s:a6) (b:Int):Int:=if b≠0 then b else l2 s.outs
noncomputable def qz (s:a6) (a:Int):Int:=if a≠0 then a else qy s (mH s.res)
noncomputable def dx (s:a6):Int:=if cr s.name=false then 3 else if 8<(s.ins.length:Int)∨8<(s.res.length:Int)∨8<(s.outs.length:Int) then 2 else qz s (nz s.ins)
theorem yy {l:List (aD×a7)} {i:Int} (aG:0≤i) (ad:i<l.length):nz (l.drop i.toNat)=if cr (I l i).1=true∧(I l i).2.kind≤3∧b5 (I l i).2=0 then nz (l.drop (i+1).toNat) else 3:=by rw [iP aG ad,nz]
theorem oP {l:List cz} {i:Int} (aG:0≤i) (ad:i<l.length):mH (l.drop i.toNat)=if cr (I l i).kind=true∧cr (I l i).name=true then (if 6<((I l i).parts.length:Int) then 2 else if lp (I l i).parts=0 then mH (l.drop (i+1).toNat) else lp (I l i).parts) else 3:=by rw [iP aG ad,mH]
theorem tF {l:List (aD×ax)} {i:Int} (aG:0≤i) (ad:i<l.length):l2 (l.drop i.toNat)=if cr (I l i).1=true then (if eS (I l i).2=0 then l2 (l.drop (i+1).toNat) else eS (I l i).2) else 3:=by rw [iP aG ad,l2]
theorem tG {l:List (aD×ax)} {i:Int} (ad:i<l.length):lo l ((l.length:Int)- i).toNat i=if cr (I l i).1=true∧(0<i→Op.bytesLess (I l (i- 1)).1 (I l i).1=true) then (if eS (I l i).2=0 then lo l ((l.length:Int)- (i+1)).toNat (i+1) else eS (I l i).2) else 3:=by
 have e:((l.length:Int)- i).toNat=((l.length:Int)- (i+1)).toNat+1:=by omega
 rw [e,lo]
theorem Iu {l:List (aD×ax)} {i:Int} (ad:(l.length:Int)≤i):lo l ((l.length:Int)- i).toNat i=0:=by
 rw [show ((l.length:Int)- i).toNat=0 by omega,lo]
theorem Iv (l:List (aD×ax)):lp l=lo l ((l.length:Int)- 0).toNat 0:=by rw [lp];congr 1
theorem Iw {s:a6} {a:Int} (h:a≠0):qz s a=a:=by rw [qz,if_pos h]
theorem qA {s:a6} {a:Int} (h:a≠0):qy s a=a:=by rw [qy,if_pos h]
set_option maxHeartbeats 2000000 in
theorem tH (s:aD) (m:ae) (K:U→ae→Prop) (ab:K (.bool (cr s)) m):bg Tryz.prog 77 [.str s] m K:=by
 refine enter (c:=cX [] [0] [5,8] [] [] []) (vs:=[.aH (.str s)]) (L:=[]) (m:=m) false b9 Tryz.mixed Tryz.func77 rfl (k:=1) (by show cu [] _ _ _=true;decide+kernel) rfl (Good.nil m) ?_
 refine ⟨fun bq=>?_⟩
 have jy:s.length≤140737488355328:=bq 0
 refine az ?_
 refine b7 (σ:=Int) [] [0,6,7] 0 (fun i=>([(0,aw s),(6,aj (s.length:Int)),(7,aj i)],[],m)) (fun i=>0≤i∧i≤s.length∧lQ s true=lQ (s.drop i.toNat) (i==0)) (fun i=>s.length- i.toNat) (0) ⟨rfl,rfl⟩ ?_ ?_
 · try dsimp only
   exact ⟨by omega,by omega,by simp⟩
 rintro i ay
 refine az ?_
 refine ah (fun J=>?_) (fun J=>?_)
 · refine az ?_
   refine ah (by omega) ?_
   refine cq [0,6,7] 30 (((decide (((I s i).toNat:Int)<97))||(decide (122<((I s i).toNat:Int))))&&(((i==0)||(decide (((I s i).toNat:Int)<48)))||(decide (57<((I s i).toNat:Int))))) ?_ ?_
   · repeat' first
      |exact ⟨⟨_,rfl,by grind [bD.val]⟩,rfl⟩
      |refine ah (fun _=>?_) (fun _=>?_)
   refine ah (fun aa=>?_) (fun aa=>?_)
   · replace aa:((((I s i).toNat:Int)<97)∨(122<((I s i).toNat:Int)))∧(((i=0)∨(((I s i).toNat:Int)<48))∨(57<((I s i).toNat:Int))):=⟨((dj (eO aa)).imp (fun q=>(of_decide_eq_true q)) (fun q=>(of_decide_eq_true q))),((dj (fk aa)).imp (fun q=>((dj q).imp (fun q=>(eq_of_beq q)) (fun q=>(of_decide_eq_true q)))) (fun q=>(of_decide_eq_true q)))⟩
     refine bh rfl fun _=>df ab ?_
     show U.bool (cr s)=U.bool false
     refine congrArg U.bool ?_
     have ag:(lO (I s i)||(!(i==0)&&lP (I s i)))=false:=by
      rw [Bool.eq_false_iff];intro aT;simp [lO,lP] at aT;omega
     rw [cr,ay.2.2,td ay.1 J,ag];rfl
   replace aa:((97≤((I s i).toNat:Int))∧(((I s i).toNat:Int)≤122))∨(((i≠0)∧(48≤((I s i).toNat:Int)))∧(((I s i).toNat:Int)≤57)):=((fl aa).imp (fun q=>⟨(Int.not_lt.1 (of_decide_eq_false (b8 q))),(Int.not_lt.1 (of_decide_eq_false (di q)))⟩) (fun q=>⟨⟨(ne_of_beq_false (b8 (b8 q))),(Int.not_lt.1 (of_decide_eq_false (di (b8 q))))⟩,(Int.not_lt.1 (of_decide_eq_false (di q)))⟩))
   refine ah (by omega) ?_
   refine ⟨(i+1),⟨rfl,rfl⟩,?_,?_⟩
   · try dsimp only
     have ag:(lO (I s i)||(!(i==0)&&lP (I s i)))=true:=by simp [lO,lP];omega
     exact ⟨by omega,by omega,by rw [ay.2.2,td ay.1 J,ag];rfl⟩
   try dsimp only
   omega
 refine cq [] 2 ((!(s==([])))&&(decide ((s.length:Int)≤12))) ?_ ?_
 · repeat' first
    |exact ⟨⟨_,rfl,by grind [bD.val]⟩,rfl⟩
    |refine ah (fun _=>?_) (fun _=>?_)
 refine bh rfl fun _=>df ab ?_
 show U.bool (cr s)=U.bool ((!(s==([])))&&(decide ((s.length:Int)≤12)))
 refine congrArg U.bool ?_
 have aX:lQ s true=true:=by rw [ay.2.2,List.drop_eq_nil_of_le (by omega)];rfl
 rw [cr,aX];cases s<;>simp
set_option maxHeartbeats 4000000 in
theorem Sd (s:a6) (m:ae) (K:U→ae→Prop) (ab:K (.err 115 (dx s)) m):bg Tryz.prog 25 [bB s] m K:=by
 refine enter (c:=cX [] [0] [3,8,14,21] [] [] []) (vs:=[.aH (bB s)]) (L:=[]) (m:=m) true b9 Tryz.mixed Tryz.func25 rfl (k:=1) (by show cu [] _ _ _=true;decide+kernel) rfl (Good.nil m) ?_
 refine ⟨fun bq=>?_⟩
 have jy:s.name.length≤140737488355328:=(bq 0 0 (Nat.le_of_ble_eq_true rfl))
 have wj:s.ins.length≤140737488355328:=cN (bq 0 1 (Nat.le_of_ble_eq_true rfl))
 have nq:s.res.length≤140737488355328:=cN (bq 0 2 (Nat.le_of_ble_eq_true rfl))
 have jx:s.outs.length≤140737488355328:=cN (bq 0 3 (Nat.le_of_ble_eq_true rfl))
 refine az ?_
 refine b2 (fun _=>tH s.name) rfl ?_
 refine ah (fun J=>?_) (fun J=>?_)
 · refine az ?_
   refine cq [1] 33 (((decide (8<(s.ins.length:Int)))||(decide (8<(s.res.length:Int))))||(decide (8<(s.outs.length:Int)))) ?_ ?_
   · repeat' first
      |exact ⟨⟨_,rfl,by grind [bD.val]⟩,rfl⟩
      |refine ah (fun _=>?_) (fun _=>?_)
      |refine br ?_
   refine ah (fun aa=>?_) (fun aa=>?_)
   · replace aa:((8<(s.ins.length:Int))∨(8<(s.res.length:Int)))∨(8<(s.outs.length:Int)):=((dj aa).imp (fun q=>((dj q).imp (fun q=>(of_decide_eq_true q)) (fun q=>(of_decide_eq_true q)))) (fun q=>(of_decide_eq_true q)))
     have bA:dx s=(2:Int):=by
      rw [dx,if_neg (by rw [J];simp),if_pos (by omega)]
     rw [bA] at ab
     exact bh rfl fun _=>ab
   replace aa:(((s.ins.length:Int)≤8)∧((s.res.length:Int)≤8))∧((s.outs.length:Int)≤8):=⟨⟨(Int.not_lt.1 (of_decide_eq_false (b8 (b8 aa)))),(Int.not_lt.1 (of_decide_eq_false (di (b8 aa))))⟩,(Int.not_lt.1 (of_decide_eq_false (di aa)))⟩
   refine az ?_
   refine br ?_
   refine b7 (σ:=Int) [] [1,36,37,38] 1 (fun i=>([(1, .loc 0 0),(36,an (s.ins.map bM)),(37,aj (s.ins.length:Int)),(38,aj i)],[.cells [aw s.name,an (s.ins.map bM),an (s.res.map bK),an (s.outs.map bz)]],m)) (fun i=>0≤i∧i≤s.ins.length∧dx s=qz s (nz (s.ins.drop i.toNat))) (fun i=>s.ins.length- i.toNat) (0) ⟨rfl,rfl⟩ ?_ ?_
   · try dsimp only
     exact ⟨by omega,by omega,by rw [dx,if_neg (by rw [J];simp),if_neg (by omega)];rfl⟩
   rintro i ay
   refine az ?_
   refine ah (fun ai=>?_) (fun ai=>?_)
   · refine az ?_
     refine ck (by omega) ?_
     refine cq [1,36,37,38] 51 ((!(cr ((I s.ins i).1)))||(!(decide (((I s.ins i).2).kind≤3)&&(b5 ((I s.ins i).2)==0)))) ?_ ?_
     · repeat' first
        |exact ⟨⟨_,rfl,by grind [bD.val]⟩,rfl⟩
        |refine ah (fun _=>?_) (fun _=>?_)
        |refine b2 (fun _=>tH ((I s.ins i).1)) rfl ?_
        |refine b2 (fun _=>Ch ((I s.ins i).2)) rfl ?_
     refine ah (fun aJ=>?_) (fun aJ=>?_)
     · replace aJ:(cr ((I s.ins i).1)=false)∨((decide (((I s.ins i).2).kind≤3)&&(b5 ((I s.ins i).2)==0))=false):=((dj aJ).imp (fun q=>(ds q)) (fun q=>(ds q)))
       have bA:dx s=(3:Int):=by
        rw [ay.2.2,yy ay.1 ai,if_neg (fun q=>by rcases aJ with h|h<;>simp_all),Iw (by decide)]
       rw [bA] at ab
       exact bh rfl fun _=>ab
     replace aJ:(cr ((I s.ins i).1)=true)∧((decide (((I s.ins i).2).kind≤3)&&(b5 ((I s.ins i).2)==0))=true):=⟨(dn (b8 aJ)),(dn (di aJ))⟩
     refine ah (by omega) ?_
     refine ⟨(i+1),⟨rfl,rfl⟩,?_,?_⟩
     · try dsimp only
       exact ⟨by omega,by omega,by rw [ay.2.2,yy ay.1 ai,if_pos ⟨aJ.1,by have:=aJ.2;simp at this;exact this⟩]⟩
     try dsimp only
     omega
   refine az ?_
   refine br ?_
   refine b7 (σ:=Int) [] [1,55,56,57] 1 (fun i2=>([(1, .loc 0 0),(55,an (s.res.map bK)),(56,aj (s.res.length:Int)),(57,aj i2)],[.cells [aw s.name,an (s.ins.map bM),an (s.res.map bK),an (s.outs.map bz)]],m)) (fun i2=>0≤i2∧i2≤s.res.length∧dx s=qy s (mH (s.res.drop i2.toNat))) (fun i2=>s.res.length- i2.toNat) (0) ⟨rfl,rfl⟩ ?_ ?_
   · try dsimp only
     exact ⟨by omega,by omega,by rw [ay.2.2,List.drop_eq_nil_of_le (by omega)];rfl⟩
   rintro i2 a1
   refine az ?_
   refine ah (fun aY=>?_) (fun aY=>?_)
   · refine az ?_
     refine ck (by omega) ?_
     refine az ?_
     refine cq [1,6,55,56,57] 70 ((!(cr ((I s.res i2).kind)))||(!(cr ((I s.res i2).name)))) ?_ ?_
     · repeat' first
        |exact ⟨⟨_,rfl,by grind [bD.val]⟩,rfl⟩
        |refine ah (fun _=>?_) (fun _=>?_)
        |refine b2 (fun _=>tH ((I s.res i2).kind)) rfl ?_
        |refine b2 (fun _=>tH ((I s.res i2).name)) rfl ?_
     refine ah (fun bG=>?_) (fun bG=>?_)
     · replace bG:(cr ((I s.res i2).kind)=false)∨(cr ((I s.res i2).name)=false):=((dj bG).imp (fun q=>(ds q)) (fun q=>(ds q)))
       have bA:dx s=(3:Int):=by
        rw [a1.2.2,oP a1.1 aY,if_neg (fun q=>by rcases bG with h|h<;>simp_all),qA (by decide)]
       rw [bA] at ab
       exact bh rfl fun _=>ab
     replace bG:(cr ((I s.res i2).kind)=true)∧(cr ((I s.res i2).name)=true):=⟨(dn (b8 bG)),(dn (di bG))⟩
     refine az ?_
     refine br ?_
     refine ah (fun c7=>?_) (fun c7=>?_)
     · have bA:dx s=(2:Int):=by
        rw [a1.2.2,oP a1.1 aY,if_pos bG,if_pos c7,qA (by decide)]
       rw [bA] at ab
       exact bh rfl fun _=>ab
     refine br ?_
     refine b7 (σ:=Int) [] [1,6,55,56,57,78,79,80] 2 (fun k=>([(1, .loc 0 0),(6, .loc 1 0),(55,an (s.res.map bK)),(56,aj (s.res.length:Int)),(57,aj i2),(78,an (((I s.res i2).parts).map bz)),(79,aj (((I s.res i2).parts).length:Int)),(80,aj k)],[.cells [aw s.name,an (s.ins.map bM),an (s.res.map bK),an (s.outs.map bz)], .cells [aw ((I s.res i2).kind),aw ((I s.res i2).name),an (((I s.res i2).parts).map bz)]],m)) (fun k=>0≤k∧k≤(I s.res i2).parts.length∧lp (I s.res i2).parts=lo (I s.res i2).parts (((I s.res i2).parts.length:Int)- k).toNat k) (fun k=>(I s.res i2).parts.length- k.toNat) (0) ⟨rfl,rfl⟩ ?_ ?_
     · try dsimp only
       exact ⟨by omega,by omega,Iv _⟩
     rintro k cg
     refine az ?_
     refine ah (fun cV=>?_) (fun cV=>?_)
     · refine az ?_
       refine ck (by omega) ?_
       refine az ?_
       refine cq [1,6,8,55,56,57,78,79,80] 104 ((!(cr ((I ((I s.res i2).parts) k).1)))||((decide (0<k))&&(!(Op.bytesLess ((I ((I s.res i2).parts) (k- 1)).1) ((I ((I s.res i2).parts) k).1))))) ?_ ?_
       · repeat' first
          |exact ⟨⟨_,rfl,by grind [bD.val]⟩,rfl⟩
          |refine ah (fun _=>?_) (fun _=>?_)
          |refine ih (fun _=>tH ((I ((I s.res i2).parts) k).1)) ?_
          |refine ah (by omega) ?_
          |refine ck (by omega) ?_
       refine ah (fun cU=>?_) (fun cU=>?_)
       · replace cU:(cr ((I ((I s.res i2).parts) k).1)=false)∨((0<k)∧(Op.bytesLess ((I ((I s.res i2).parts) (k- 1)).1) ((I ((I s.res i2).parts) k).1)=false)):=((dj cU).imp (fun q=>(ds q)) (fun q=>⟨(of_decide_eq_true (eO q)),(ds (fk q))⟩))
         have bA:dx s=(3:Int):=by
          have q:lp (I s.res i2).parts=3:=by
           rw [cg.2.2,tG cV,if_neg (fun q=>by rcases cU with h|h;(· rw [h] at q;cases q.1);(· have:=q.2 h.1;rw [h.2] at this;cases this))]
          rw [a1.2.2,oP a1.1 aY,if_pos bG,if_neg (by omega),if_neg (by omega),q,qA (by decide)]
         rw [bA] at ab
         exact bh rfl fun _=>ab
       replace cU:(cr ((I ((I s.res i2).parts) k).1)=true)∧((k≤0)∨(Op.bytesLess ((I ((I s.res i2).parts) (k- 1)).1) ((I ((I s.res i2).parts) k).1)=true)):=⟨(dn (b8 cU)),((fl (di cU)).imp (fun q=>(Int.not_lt.1 (of_decide_eq_false q))) (fun q=>(dn q)))⟩
       refine b2 (fun _=>ym ((I ((I s.res i2).parts) k).2)) rfl ?_
       refine ah (fun eH=>?_) (fun eH=>?_)
       · refine ah (by omega) ?_
         refine ⟨(k+1),⟨rfl,rfl⟩,?_,?_⟩
         · try dsimp only
           exact ⟨by omega,by omega,by rw [cg.2.2,tG cV,if_pos ⟨cU.1,fun q=>cU.2.resolve_left (by omega)⟩,if_pos eH]⟩
         try dsimp only
         omega
       have bA:dx s=(eS ((I ((I s.res i2).parts) k).2):Int):=by
        have q:lp (I s.res i2).parts=eS (I (I s.res i2).parts k).2:=by
         rw [cg.2.2,tG cV,if_pos ⟨cU.1,fun q=>cU.2.resolve_left (by omega)⟩,if_neg eH]
        rw [a1.2.2,oP a1.1 aY,if_pos bG,if_neg (by omega),if_neg (by rw [q];exact eH),q,qA eH]
       rw [bA] at ab
       exact bh rfl fun _=>ab
     refine ah (by omega) ?_
     refine ⟨(i2+1),⟨rfl,rfl⟩,?_,?_⟩
     · try dsimp only
       have q:lp (I s.res i2).parts=0:=by rw [cg.2.2,Iu (by omega)]
       exact ⟨by omega,by omega,by rw [a1.2.2,oP a1.1 aY,if_pos bG,if_neg (by omega),if_pos q]⟩
     try dsimp only
     omega
   refine az ?_
   refine br ?_
   refine b7 (σ:=Int) [] [115,116,117] 1 (fun i3=>([(115,an (s.outs.map bz)),(116,aj (s.outs.length:Int)),(117,aj i3)],[.cells [aw s.name,an (s.ins.map bM),an (s.res.map bK),an (s.outs.map bz)]],m)) (fun i3=>0≤i3∧i3≤s.outs.length∧dx s=l2 (s.outs.drop i3.toNat)) (fun i3=>s.outs.length- i3.toNat) (0) ⟨rfl,rfl⟩ ?_ ?_
   · try dsimp only
     exact ⟨by omega,by omega,by rw [a1.2.2,List.drop_eq_nil_of_le (by omega)];rfl⟩
   rintro i3 cg
   refine az ?_
   refine ah (fun fF=>?_) (fun fF=>?_)
   · refine az ?_
     refine ck (by omega) ?_
     refine az ?_
     refine b2 (fun _=>tH ((I s.outs i3).1)) rfl ?_
     refine ah (fun hL=>?_) (fun hL=>?_)
     · refine b2 (fun _=>ym ((I s.outs i3).2)) rfl ?_
       refine ah (fun hE=>?_) (fun hE=>?_)
       · refine ah (by omega) ?_
         refine ⟨(i3+1),⟨rfl,rfl⟩,?_,?_⟩
         · try dsimp only
           exact ⟨by omega,by omega,by rw [cg.2.2,tF cg.1 fF,if_pos hL,if_pos hE]⟩
         try dsimp only
         omega
       have bA:dx s=(eS ((I s.outs i3).2):Int):=by
        rw [cg.2.2,tF cg.1 fF,if_pos hL,if_neg hE]
       rw [bA] at ab
       exact bh rfl fun _=>ab
     have bA:dx s=(3:Int):=by
      rw [cg.2.2,tF cg.1 fF,if_neg (by rw [hL];simp)]
     rw [bA] at ab
     exact bh rfl fun _=>ab
   have bA:dx s=(0:Int):=by
    rw [cg.2.2,List.drop_eq_nil_of_le (by omega)];rfl
   rw [bA] at ab
   exact bh rfl fun _=>ab
 have bA:dx s=(3:Int):=by
  rw [dx,if_pos J]
 rw [bA] at ab
 exact bh rfl fun _=>ab
end Go.Proofs
end
section
namespace Go.Proofs
open Go Go.ba Go.bV
set_option maxRecDepth 100000
section
variable (l:List Tok) (n:Int)
def rW (v:a7):Bool:=decide (v.kind≤3)&&(b5 v==0)
noncomputable def tI (a:Int):bR a7:=(jB l n a).bind fun x b=>if x.kind=1∧rW x.v=true then .ok x.v b else .bad 5 (dm l n a)
variable {eJ:Type} [Inhabited eJ]
noncomputable def Ix (k:Int→List (aD×a7)→bR eJ) (a:Int) (xs:List (aD×a7)):bR eJ:=
 (cK l n 1 [] a).bind fun m a=>(cK l n 4 [61] a).bind fun _ a=>(tI l n a).bind fun v a=>k a (xs++[(m,v)])
noncomputable def pF (T:List (aD×a7)→Int→bR eJ):Nat→Int→List (aD×a7)→bR eJ
 |0,a,_=> .bad 5 (dm l n a)
 |k+1,a,xs=>if cI l 1 [105,110,112,117,116] a=true then (if (xs.length:Int)=8 then .bad 2 (dm l n a) else Ix l n (pF T k) (a+1) xs) else T xs a
noncomputable def Cu (k:Int→List (aD×ax)→bR eJ) (xs:List (aD×ax)) (m:aD) (a:Int):bR eJ:=
 (cK l n 4 [58] a).bind fun _ a=>(jB l n a).bind fun x a=>k a (xs++[(m,x)])
def yz (xs:List (aD×ax)) (m:aD):Prop:=0<(xs.length:Int)∧Op.bytesLess (I xs ((xs.length:Int)- 1)).1 m=false
instance (xs:List (aD×ax)) (m:aD):Decidable (yz xs m):=by unfold yz;infer_instance
noncomputable def Cv (k:Int→List (aD×ax)→bR eJ) (xs:List (aD×ax)) (m:aD) (a:Int):bR eJ:=if yz xs m then .bad 3 (dm l n a) else Cu l n k xs m a
noncomputable def Cw (k:Int→List (aD×ax)→bR eJ) (xs:List (aD×ax)) (a:Int):bR eJ:=
 if (xs.length:Int)=6 then .bad 2 (dm l n a) else (cK l n 1 [] a).bind fun m a=>Cv l n k xs m a
noncomputable def n8 (T:List (aD×ax)→Int→bR eJ):Nat→Int→List (aD×ax)→bR eJ
 |0,a,_=> .bad 5 (dm l n a)
 |k+1,a,xs=>if cI l 4 [125] a=true then T xs (a+1) else nu l n xs a fun a=>Cw l n (n8 T k) xs a
noncomputable def oQ (a:Int):bR cz:=(cK l n 1 [] a).bind fun k a=>(cK l n 1 [] a).bind fun m a=>(cK l n 4 [123] a).bind fun _ a=>n8 l n (fun ps a=> .ok ⟨k,m,ps⟩ a) (l.length+1) a []
noncomputable def pG (T:List cz→Int→bR eJ):Nat→Int→List cz→bR eJ
 |0,a,_=> .bad 5 (dm l n a)
 |k+1,a,xs=>if cI l 1 [114,101,115,111,117,114,99,101] a=true then (if (xs.length:Int)=8 then .bad 2 (dm l n a) else (oQ l n (a+1)).bind fun x a=>pG T k a (xs++[x])) else T xs a
noncomputable def yA (k:Int→List (aD×ax)→bR eJ) (a:Int) (xs:List (aD×ax)):bR eJ:=
 (cK l n 1 [] a).bind fun m a=>(cK l n 4 [61] a).bind fun _ a=>(jB l n a).bind fun v a=>k a (xs++[(m,v)])
noncomputable def pH (T:List (aD×ax)→Int→bR eJ):Nat→Int→List (aD×ax)→bR eJ
 |0,a,_=> .bad 5 (dm l n a)
 |k+1,a,xs=>if cI l 1 [111,117,116,112,117,116] a=true then (if (xs.length:Int)=8 then .bad 2 (dm l n a) else yA l n (pH T k) (a+1) xs) else T xs a
noncomputable def l3 (a:Int):bR a6:=(cK l n 1 [115,116,97,99,107] a).bind fun _ a=>(cK l n 1 [] a).bind fun m a=>
 pF l n (fun i a=>pG l n (fun r a=>pH l n (fun o a=> .ok ⟨m,i,r,o⟩ a) (l.length+1) a []) (l.length+1) a []) (l.length+1) a []
noncomputable def kz:Nat→Int→List a6→bR (List a6)
 |0,a,_=> .bad 5 (dm l n a)
 |k+1,a,xs=>if a<l.length then (if (xs.length:Int)=8 then .bad 2 (dm l n a) else (l3 l n a).bind fun s a=>kz k a (xs++[s])) else .ok xs a
end
structure gw {eJ:Type} (P:bR eJ) (a e q a2 aC bI:Int) (Q:bR eJ):Prop where
 y:e=0→fE P aC bI Q
 z:e≠0→a2=a∧aC=e∧bI=q
structure n9 (l:List Tok) (n c a e q aC bI:Int) (b:Prop):Prop where
 z:b→e=0→aC=c∧bI=dm l n a
 y:¬b→aC=e∧bI=q
 x:e≠0→aC=e∧bI=q
section
variable {l:List Tok} {n a e q cn a2 aM cM aC bI c:Int} {eJ:Type} [Inhabited eJ] {P R:bR eJ}
theorem gw.start {kX:Type} {P:bR kX}:gw P a e q a e q P:=⟨fun h=>⟨fun _=>rfl,fun z=>absurd h z⟩,fun _=>⟨rfl,rfl,rfl⟩⟩
theorem gw.bA {kX:Type} {P R:bR kX} (h:gw P a e q a2 aC bI R) (ao:aC=0):e=0:=Classical.byContradiction fun c=>by have:=(h.z c).2.1;omega
theorem bx.bA {α:Type} {p:bR α} {x:α} (o:bx l p x a e q a2 aC bI) (ao:aC=0):e=0:=Classical.byContradiction fun c=>by have:=(o.st c).2.1;omega
theorem gw.step {α:Type} {p:bR α} {x:α} {g:α→Int→bR eJ} (h:gw P a e q cn aM cM (p.bind g)) (o:bx l p x cn aM cM a2 aC bI):gw P a e q a2 aC bI (g x a2):=
 ⟨fun z=>(h.y z).step o,fun z=>by obtain ⟨rfl,rfl,rfl⟩:=h.z z;exact o.st z⟩
theorem gw.to {kX:Type} {P R Q:bR kX} (h:gw P a e q cn aM cM R) (aO:aM=0→R=Q):gw P a e q cn aM cM Q:=⟨fun z=>(h.y z).to aO,h.z⟩
theorem gw.fail {f s:Int} (h:gw P a e q cn aM cM (.bad f s)) (J:aM=0→aC=f∧bI=s) (aa:aM≠0→aC=aM∧bI=cM) (ai:0<aC):gw P a e q cn aC bI R:=
 ⟨fun z=>(h.y z).fail J aa ai,fun z=>by obtain ⟨rfl,rfl,rfl⟩:=h.z z;exact ⟨rfl,aa z⟩⟩
theorem gw.at {kX:Type} {P R:bR kX} (h:gw P a e q cn aM cM R) (ao:e=0):gw P a e q a2 aM cM R:=⟨h.y,fun z=>absurd ao z⟩
theorem fE.room {b:Prop} [Decidable b] (h:n9 l n c a e q aC bI b) (ar:0<c) (aq:fE P e q (if b then .bad c (dm l n a) else R)):fE P aC bI R:=by
 by_cases ag:b
 · rw [if_pos ag] at aq
   by_cases he:e=0
   · obtain ⟨rfl,rfl⟩:=h.z ag he
     exact aq.fail (fun _=>⟨rfl,rfl⟩) (fun q=>absurd he q) ar
   · obtain ⟨rfl,rfl⟩:=h.x he
     exact ⟨fun q=>absurd q he,aq.z⟩
 · rw [if_neg ag] at aq
   obtain ⟨rfl,rfl⟩:=h.y ag
   exact aq
theorem gw.room {b:Prop} [Decidable b] (aq:gw P a e q cn aM cM (if b then .bad c (dm l n cn) else R)) (h:n9 l n c cn aM cM aC bI b) (ar:0<c):gw P a e q cn aC bI R:=
 ⟨fun z=>fE.room h ar (aq.y z),fun z=>by obtain ⟨rfl,rfl,rfl⟩:=aq.z z;exact ⟨rfl,h.x z⟩⟩
theorem n9.cm {b:Prop} (h:n9 l n c a e q aC bI b) (ar:0<c) (he:0≤e):0≤aC:=by
 by_cases ag:b
 · by_cases ao:e=0
   · have:=(h.z ag ao).1;omega
   · have:=(h.x ao).1;omega
 · have:=(h.y ag).1;omega
theorem n9.no {b:Prop} (h:n9 l n c a e q aC bI b) (ar:0<c) (ao:aC=0):¬b:=fun ag=>by
 by_cases he:e=0
 · have:=(h.z ag he).1;omega
 · have:=(h.x he).1;omega
theorem gw.done {kX:Type} {P:bR kX} {y:kX} (h:gw P a e q cn aM cM (.ok y (cn+1))) (ao:aM=0) (aX:a≤cn) (av:cn<l.length):bx l P y a e q (cn+1) aM cM:=(h.y (h.bA ao)).done ao (h.bA ao) aX av
theorem gw.ok {kX:Type} {P:bR kX} {y:kX} (h:gw P a e q cn aM cM (.ok y cn)) (ao:aM=0) (aX:a<cn) (av:cn≤l.length):bx l P y a e q cn aM cM:=by
 have:=(((h.to (Q:= .ok y (cn- 1+1)) fun _=>by rw [Int.sub_add_cancel]).at (a2:=cn- 1) (h.bA ao)).done (l:=l) ao (by omega) (by omega))
 rwa [Int.sub_add_cancel] at this
theorem gw.bad {kX:Type} {P R:bR kX} {y:kX} (h:gw P a e q cn aM cM R) (ao:aM≠0) (aX:a≤cn) (av:cn≤l.length) (aI:0≤aM):bx l P y a e q cn aM cM:=
 if he:e=0 then (h.y he).bad ao he aX av aI else by obtain ⟨rfl,rfl,rfl⟩:=h.z he;exact bx.stuck he aI av
theorem bx.Se {x:ax} (o:bx l (jB l n a) x a e q cn aM cM) (ao:aM=0) (h:x.kind≠1∨rW x.v=false):bx l (tI l n a) x.v a e q cn 5 (dm l n a):=by
 have he:=o.bA ao
 have J:=o.ok he
 obtain ⟨rfl,rfl⟩:=J.y ao
 refine ⟨fun _=>?_,fun z=>absurd he z,o.bw,o.ad,by decide,fun z=>by cases z⟩
 rw [tI,bR.bind,if_pos (by rw [←J.f];exact ao),if_neg fun q=>h.elim (fun z=>z q.1) fun z=>by rw [q.2] at z;cases z]
 exact ⟨rfl,fun z=>(by cases z),fun _=>rfl⟩
theorem bx.Sf {x:ax} (o:bx l (jB l n a) x a e q cn aM cM) (h:aM=0→x.kind=1∧rW x.v=true):bx l (tI l n a) x.v a e q cn aM cM:=by
 refine ⟨fun he=>?_,o.st,o.bw,o.ad,o.cm,o.gt⟩
 have J:=o.ok he
 by_cases ao:aM=0
 · obtain ⟨rfl,rfl⟩:=J.y ao
   rw [tI,bR.bind,if_pos (by rw [←J.f];exact ao),if_pos (h ao)]
   exact ⟨ao,fun _=>⟨rfl,rfl⟩,fun h=>absurd ao h⟩
 · rw [tI,bR.bind,if_neg (by rw [←J.f];exact ao)]
   exact ⟨J.f,fun h=>absurd h ao,fun _=>J.z ao⟩
theorem Sg {k m s:aD} {a3 c8 gI:Int} (h5:bx l (cK l n 1 [] a) k a e q cn aM cM) (hU:bx l (cK l n 1 [] cn) m cn aM cM a2 aC bI) (nj:bx l (cK l n 4 [123] a2) s a2 aC bI a3 c8 gI):gw (oQ l n a) a e q a3 c8 gI (n8 l n (fun ps a=> .ok ⟨k,m,ps⟩ a) (l.length+1) a3 []):=by
 have h:=gw.start (P:=oQ l n a) (a:=a) (e:=e) (q:=q)
 unfold oQ at h
 exact ((h.step h5).step hU).step nj
theorem Sh {k:Int→List (aD×ax)→bR eJ} {xs:List (aD×ax)} {m:aD} (h:yz xs m):Cv l n k xs m a= .bad 3 (dm l n a):=if_pos h
theorem Si {k:Int→List (aD×ax)→bR eJ} {xs:List (aD×ax)} {m:aD} (h:(xs.length:Int)≤0∨Op.bytesLess (I xs ((xs.length:Int)- 1)).1 m=true):Cv l n k xs m a=Cu l n k xs m a:=
 if_neg fun ag=>by
  obtain ⟨ia,jX⟩:=ag
  rcases h with h|h
  · omega
  · rw [jX] at h;cases h
theorem Sj {T:List (aD×ax)→Int→bR eJ} {k:Nat} {xs:List (aD×ax)} (h:cI l 4 [125] a=false):n8 l n T (k+1) a xs=nu l n xs a fun a=>Cw l n (n8 l n T k) xs a:=by
 rw [n8,if_neg (dE h)]
theorem Sk {T:List (aD×ax)→Int→bR eJ} {k:Nat} {xs:List (aD×ax)} (h:cI l 4 [125] a=true):n8 l n T (k+1) a xs=T xs (a+1):=by
 rw [n8,if_pos h]
end
theorem yB (l:List Tok) (n a e q:Int) (h k:Int) (r:Nat) (av:l.length≤5000) (aG:0≤a) (aX:a≤l.length) (he:0≤e) (m:ae) (gd:eE [r] m) (K:U→ae→Prop) (ab:∀cD cY,n9 l n 2 a e q cD cY (h=k)→K (.tuple []) (ae.bf m [(r, .cells [.slice false (l.map ch), .int .i64 a, .int .i64 n, .err 115 cD, .int .i64 cY])])):bg Tryz.prog 152 [.ptr ⟨r,0,none⟩, .int .i64 h, .int .i64 k] (ae.bf m [(r, .cells [.slice false (l.map ch), .int .i64 a, .int .i64 n, .err 115 e, .int .i64 q])]) K:=by
 refine enter (c:=cX [] [] [] [] [] [r]) (vs:=[.loc 0 0, .aH (.int .i64 h), .aH (.int .i64 k)]) (L:=[bp l n a e q]) (m:=m) false b9 Tryz.mixed Tryz.func152 rfl (k:=3) (by show cu [] _ _ _=true;decide+kernel) rfl (gd.hn rfl) ?_
 refine ah (fun J=>?_) (fun J=>?_)
 · refine cF 115 [0] (σ:=Int×Int) (fun ⟨bQ,cf⟩=>(e=0→bQ=2∧cf=dm l n a)∧(e≠0→bQ=e∧cf=q)∧0<bQ) (fun ⟨bQ,cf⟩=> .dw []) (fun ⟨bQ,cf⟩=>[bp l n a bQ cf]) rfl (fun _=>rfl) (fun bs aF gd aB K ab=>oI l n a e q 2 (bs.getD 0 0) (by decide) av (by omega) (by omega) (by omega) aF gd K (fun z=>ab (2,dm l n a) ⟨fun _=>⟨rfl,rfl⟩,fun y=>absurd z y,by decide⟩) (fun z=>ab (e,q) ⟨fun y=>absurd y z,fun _=>⟨rfl,rfl⟩,by omega⟩)) ?_
   rintro ⟨bQ,cf⟩ bU
   dsimp only at bU
   obtain ⟨tl,qt,vZ⟩:=bU
   refine rt rfl fun _=>?_
   show K (.tuple []) (ae.bf m [(r, .cells [.slice false (l.map ch), .int .i64 a, .int .i64 n, .err 115 bQ, .int .i64 cf])])
   exact ab _ _ ⟨fun _ z=>tl z,fun z=>absurd J z,fun z=>qt z⟩
 refine rt rfl fun _=>?_
 show K (.tuple []) (ae.bf m [(r, .cells [.slice false (l.map ch), .int .i64 a, .int .i64 n, .err 115 e, .int .i64 q])])
 exact ab _ _ ⟨fun z=>absurd z J,fun _=>⟨rfl,rfl⟩,fun _=>⟨rfl,rfl⟩⟩
set_option maxHeartbeats 4000000 in
theorem Sl (l:List Tok) (n a e q:Int) (r:Nat) (av:l.length≤5000) (aG:0≤a) (aX:a≤l.length) (he:0≤e) (hw:n3 l) (m:ae) (gd:eE [r] m) (K:U→ae→Prop) (aV:eF m) (ab:∀bX cR cD cY,bx l (oQ l n a) bX a e q cR cD cY→K (bK bX) (ae.bf m [(r, .cells [.slice false (l.map ch), .int .i64 cR, .int .i64 n, .err 115 cD, .int .i64 cY])])):bg Tryz.prog 153 [.ptr ⟨r,0,none⟩] (ae.bf m [(r, .cells [.slice false (l.map ch), .int .i64 a, .int .i64 n, .err 115 e, .int .i64 q])]) K:=by
 refine enter (c:=cX [] [] [9] [12999] [12] [r]) (vs:=[.loc 0 0]) (L:=[bp l n a e q]) (m:=m) false b9 Tryz.mixed Tryz.func153 rfl (k:=1) (by show cu [12999] _ _ _=true;decide+kernel) rfl (gd.hn rfl) ?_
 refine cF 115 [0] (σ:=aD×Int×Int×Int) (fun ⟨dO,cw,bQ,cf⟩=>bx l (cK l n 1 [] a) dO a e q cw bQ cf) (fun ⟨dO,cw,bQ,cf⟩=>aw dO) (fun ⟨dO,cw,bQ,cf⟩=>[bp l n cw bQ cf]) rfl (fun _=>rfl) (fun bs aF gd aB K ab=>n0 l n a e q (bs.getD 0 0) av (by omega) (by omega) (by omega) aF gd K (fun dq cc bZ b1 aT=>ab (dq,cc,bZ,b1) aT)) ?_
 rintro ⟨dO,cw,bQ,cf⟩ bU
 dsimp only at bU
 have tj:=bU.bw
 have qk:=bU.ad
 have tk:=bU.cm
 refine cF 115 [0] (σ:=aD×Int×Int×Int) (fun ⟨ek,eI,dt,dD⟩=>bx l (cK l n 1 [] cw) ek cw bQ cf eI dt dD) (fun ⟨ek,eI,dt,dD⟩=>aw ek) (fun ⟨ek,eI,dt,dD⟩=>[bp l n eI dt dD]) rfl (fun _=>rfl) (fun bs aF gd aB K ab=>n0 l n cw bQ cf (bs.getD 0 0) av (by omega) (by omega) (by omega) aF gd K (fun dq cc bZ b1 aT=>ab (dq,cc,bZ,b1) aT)) ?_
 rintro ⟨ek,eI,dt,dD⟩ dc
 dsimp only at dc
 have vW:=dc.bw
 have ie:=dc.ad
 have vX:=dc.cm
 refine cF 115 [0] (σ:=aD×Int×Int×Int) (fun ⟨jz,gA,ft,fG⟩=>(bx l (cK l n 4 ([123]:List UInt8) eI) jz eI dt dD gA ft fG)∧(ft≠0→jz=[])) (fun ⟨jz,gA,ft,fG⟩=>aw jz) (fun ⟨jz,gA,ft,fG⟩=>[bp l n gA ft fG]) rfl (fun _=>rfl) (fun bs aF gd aB K ab=>ji l n eI dt dD 4 ([123]:List UInt8) (bs.getD 0 0) av (by omega) (by omega) (by omega) aF gd K (fun dq cc bZ b1 aT ao=>ab (dq,cc,bZ,b1) ⟨aT,ao⟩)) ?_
 rintro ⟨jz,gA,ft,fG⟩ dZ
 dsimp only at dZ
 obtain ⟨dZ,nL⟩:=dZ
 have BW:=dZ.bw
 have BX:=dZ.ad
 have ya:=dZ.cm
 refine az ?_
 refine b7 (σ:=Int×Int×Int×List (aD×ax)) [] [0,2,3] 3 (fun ⟨a2,aC,bI,xs⟩=>([(0, .loc 0 0),(2, .loc 1 0),(3, .loc 2 0)],[bp l n a2 aC bI, .cells [aw ([]),aw ([]), .own []], .cells [aw dO,aw ek, .own (xs.map bz)]],m)) (fun ⟨a2,aC,bI,xs⟩=>0≤a2∧a≤a2∧a2≤l.length∧0≤aC∧(aC=0→(xs.length:Int)≤6)∧xs.length≤7∧∃cC:Nat,(aC=0→l.length- a2<cC)∧gw (oQ l n a) a e q a2 aC bI (n8 l n (fun ps a=> .ok (⟨dO,ek,ps⟩:cz) a) cC a2 xs)) (fun ⟨a2,aC,bI,xs⟩=>if aC=0 then l.length- a2.toNat+1 else 0) (gA,ft,fG,[]) ⟨rfl,rfl⟩ ?_ ?_
 · try dsimp only
   exact ⟨by omega,by omega,by omega,by omega,fun _=>by simp,by simp,l.length+1,fun _=>by omega,Sg bU dc dZ⟩
 rintro ⟨a2,aC,bI,xs⟩ ay
 dsimp only at ay
 obtain ⟨i1,i2,i3,i4,i5,i6,cC,i8,i9⟩:=ay
 refine az ?_
 refine cF 115 [0] (σ:=(Unit) ⊕ (Unit)) (Sum.elim (fun _=>aC=0∧cI l 4 ([125]:List UInt8) a2=true) (fun _=>aC=0→cI l 4 ([125]:List UInt8) a2=false)) (Sum.elim (fun _=> .b (.lit true)) (fun _=> .b (.lit false))) (Sum.elim (fun _=>[bp l n (a2+1) aC bI]) (fun _=>[bp l n a2 aC bI])) rfl (fun x=>by rcases x with _|_<;>rfl) (fun bs aF gd aB K ab=>h6 l n a2 aC bI 4 ([125]:List UInt8) (bs.getD 0 0) av (by omega) (by omega) (by omega) aF gd K (fun z w=>ab (.inl ()) ⟨z,w⟩) (fun z=>ab (.inr ()) z)) ?_
 rintro (_|_) eu
 · try dsimp only [Sum.elim_inl,Sum.elim_inr] at eu
   dsimp only [Sum.elim_inl,Sum.elim_inr]
   have yc:=il eu.2
   refine rt rfl fun _=>?_
   show K (.agg [.str dO, .str ek, .slice false (xs.map bz)]) (ae.bf m [(r, .cells [.slice false (l.map ch), .int .i64 (a2+1), .int .i64 n, .err 115 aC, .int .i64 bI])])
   obtain ⟨cC,rfl⟩:∃k,cC=k+1:=⟨cC- 1,by have:=i8 eu.1;omega⟩
   exact ab ⟨dO,ek,xs⟩ _ _ _ ((i9.to fun _=>Sk eu.2).done eu.1 (by omega) yc)
 try dsimp only [Sum.elim_inl,Sum.elim_inr] at eu
 dsimp only [Sum.elim_inl,Sum.elim_inr]
 refine ah (fun J=>?_) (fun J=>?_)
 · obtain ⟨cC,rfl⟩:∃k,cC=k+1:=⟨cC- 1,by have:=i8 J;omega⟩
   have i9:=i9.to fun _=>Sj (eu J)
   have i10:=i8 J
   have i11:=i5 J
   refine sU (σ:=Int×Int×Int) [] [0,2,3] 3 (fun ⟨hM,f3,mF⟩=>([(0, .loc 0 0),(2, .loc 1 0),(3, .loc 2 0)],[bp l n hM f3 mF, .cells [aw ([]),aw ([]), .own []], .cells [aw dO,aw ek, .own (xs.map bz)]],m)) (fun ⟨hM,f3,mF⟩=>a2≤hM∧hM≤l.length∧0≤f3∧gw (oQ l n a) a e q hM f3 mF (Cw l n (n8 l n (fun ps a=> .ok (⟨dO,ek,ps⟩:cz) a) cC) xs hM)) ?_ ?_
   · rintro ⟨hM,f3,mF⟩ kS
     refine br ?_
     refine cF 115 [0] (σ:=Int×Int) (fun ⟨e2,fo⟩=>n9 l n 2 hM f3 mF e2 fo ((xs.length:Int)=6)) (fun ⟨e2,fo⟩=> .dw []) (fun ⟨e2,fo⟩=>[bp l n hM e2 fo]) rfl (fun _=>rfl) (fun bs aF gd aB K ab=>yB l n hM f3 mF (xs.length:Int) 6 (bs.getD 0 0) av (by omega) (by omega) (by omega) aF gd K (fun bZ b1 aT=>ab (bZ,b1) aT)) ?_
     rintro ⟨e2,fo⟩ e4
     dsimp only at e4
     have B3:=e4.cm (by decide) (by omega)
     refine cF 115 [0] (σ:=aD×Int×Int×Int) (fun ⟨gU,eA,eG,e5⟩=>bx l (cK l n 1 [] hM) gU hM e2 fo eA eG e5) (fun ⟨gU,eA,eG,e5⟩=>aw gU) (fun ⟨gU,eA,eG,e5⟩=>[bp l n eA eG e5]) rfl (fun _=>rfl) (fun bs aF gd aB K ab=>n0 l n hM e2 fo (bs.getD 0 0) av (by omega) (by omega) (by omega) aF gd K (fun dq cc bZ b1 aT=>ab (dq,cc,bZ,b1) aT)) ?_
     rintro ⟨gU,eA,eG,e5⟩ fA
     dsimp only at fA
     have v7:=fA.bw
     have v8:=fA.ad
     have wa:=fA.cm
     refine az ?_
     refine br ?_
     refine cq [0,2,3,4] 51 ((decide (0<(xs.length:Int)))&&(!(Op.bytesLess ((I xs ((xs.length:Int)- 1)).1) gU))) ?_ ?_
     · repeat' first
        |exact ⟨⟨_,rfl,by grind [bD.val]⟩,rfl⟩
        |refine ah (fun _=>?_) (fun _=>?_)
        |refine ah (by omega) ?_
        |refine ck (by omega) ?_
     refine ah (fun aa=>?_) (fun aa=>?_)
     · replace aa:(0<(xs.length:Int))∧(Op.bytesLess ((I xs ((xs.length:Int)- 1)).1) gU=false):=⟨(of_decide_eq_true (eO aa)),(ds (fk aa))⟩
       refine cF 115 [0] (σ:=Int×Int) (fun ⟨gC,gV⟩=>(eG=0→gC=3∧gV=dm l n eA)∧(eG≠0→gC=eG∧gV=e5)∧0<gC) (fun ⟨gC,gV⟩=> .dw []) (fun ⟨gC,gV⟩=>[bp l n eA gC gV]) rfl (fun _=>rfl) (fun bs aF gd aB K ab=>oI l n eA eG e5 3 (bs.getD 0 0) (by decide) av (by omega) (by omega) (by omega) aF gd K (fun z=>ab (3,dm l n eA) ⟨fun _=>⟨rfl,rfl⟩,fun y=>absurd z y,by decide⟩) (fun z=>ab (eG,e5) ⟨fun y=>absurd y z,fun _=>⟨rfl,rfl⟩,by omega⟩)) ?_
       rintro ⟨gC,gV⟩ hr
       dsimp only at hr
       obtain ⟨Sm,Sn,Sp⟩:=hr
       refine cF 115 [0] (σ:=aD×Int×Int×Int) (fun ⟨lV,im,iF,iT⟩=>(bx l (cK l n 4 ([58]:List UInt8) eA) lV eA gC gV im iF iT)∧(iF≠0→lV=[])) (fun ⟨lV,im,iF,iT⟩=>aw lV) (fun ⟨lV,im,iF,iT⟩=>[bp l n im iF iT]) rfl (fun _=>rfl) (fun bs aF gd aB K ab=>ji l n eA gC gV 4 ([58]:List UInt8) (bs.getD 0 0) av (by omega) (by omega) (by omega) aF gd K (fun dq cc bZ b1 aT ao=>ab (dq,cc,bZ,b1) ⟨aT,ao⟩)) ?_
       rintro ⟨lV,im,iF,iT⟩ fH
       dsimp only at fH
       obtain ⟨fH,Ve⟩:=fH
       have Hf:=fH.bw
       have Hg:=fH.ad
       have Hh:=fH.cm
       refine gp b9 Tryz.mixed (σ:=Int×Int×Int×ax) (.f 0 (.f 2 (.f 3 (.o 1 (.s 4 (.s 5 (.s 6 (.s 7 (.f 8 (.s 9 .d)))))) (.o 4 (.o 1 (.s 5 (.s 6 (.s 7 (.f 8 (.s 9 .d))))) (.o 5 (.o 1 (.s 6 (.s 7 (.f 8 (.s 9 .d)))) (.o 6 (.s 1 (.s 7 (.f 8 (.s 9 .d)))) .z)) .z)) .z))))) [] [0,2,3] 3 (fun ⟨a9,dA,dB,dR⟩=>([(0, .loc 0 0),(2, .loc 1 0),(3, .loc 2 0)],[bp l n a9 dA dB, .cells [aw ([]),aw ([]), .own []], .cells [aw dO,aw ek, .own ((xs++([(⟨gU,dR⟩:(aD×ax))]:List (aD×ax))).map bz)]],m)) (fun ⟨a9,dA,dB,dR⟩=>bx l (jB l n im) dR im iF iT a9 dA dB) (by decide+kernel) ?_ ?_
       · rintro ⟨a9,dA,dB,dR⟩ iH
         try dsimp only at iH
         have Hk:=iH.bw
         have Hl:=iH.ad
         have Hm:=iH.cm
         refine ⟨(a9,dA,dB,xs++([(⟨gU,dR⟩:(aD×ax))]:List (aD×ax))),⟨rfl,rfl⟩,?_,?_⟩
         · try dsimp only
           have c:=(((((kS.2.2.2.room e4 (by decide)).step fA).to fun _=>Sh aa).fail (R:=Cu l n (n8 l n (fun ps a=> .ok (⟨dO,ek,ps⟩:cz) a) cC) xs gU eA) Sm Sn Sp).step fH).step iH
           have aI:=fun z=>e4.no (by decide) (absurd (fH.bA (iH.bA z)) (by omega))
           have bl:=iH.gt
           simp only [List.length_append,List.length_cons,List.length_nil]
           exact ⟨by omega,by omega,by omega,by omega,fun z=>by have:=aI z;omega,by omega,cC,fun z=>by have:=bl z;omega,c⟩
         try dsimp only
         rw [if_pos J]
         have bl:=iH.gt
         split<;>omega
       repeat' first
        |refine ⟨(jA,hC,hD,gP),⟨rfl,rfl⟩,hs⟩
        |(refine cF 115 [0] (σ:=ax×Int×Int×Int) (fun ⟨gP,jA,hC,hD⟩=>bx l (jB l n im) gP im iF iT jA hC hD) (fun ⟨gP,jA,hC,hD⟩=>iS gP) (fun ⟨gP,jA,hC,hD⟩=>[bp l n jA hC hD]) rfl (fun _=>rfl) (fun bs aF gd aB K ab=>yn l n im iF iT 6 (bs.getD 0 0) (wb l n av hw 6 (by decide)) av (by omega) (by omega) (by omega) rfl aF gd K (eF.up aB aV) (fun fg cc bZ b1 aT=>ab (fg,cc,bZ,b1) aT)) ?_;rintro ⟨gP,jA,hC,hD⟩ hs;dsimp only at hs;have Hn:=hs.bw;have Ho:=hs.ad;have Cb:=hs.cm)
        |refine ap bz xs ([(⟨gU,gP⟩:(aD×ax))]:List (aD×ax)) rfl rfl (fun _=>⟨rfl,rfl⟩) (by (simp only [List.length_append,List.length_cons,List.length_nil];omega)) ?_
        |refine ⟨?_,?_,trivial⟩
     replace aa:((xs.length:Int)≤0)∨(Op.bytesLess ((I xs ((xs.length:Int)- 1)).1) gU=true):=((fl aa).imp (fun q=>(Int.not_lt.1 (of_decide_eq_false q))) (fun q=>(dn q)))
     refine cF 115 [0] (σ:=aD×Int×Int×Int) (fun ⟨hc,fT,gu,gL⟩=>(bx l (cK l n 4 ([58]:List UInt8) eA) hc eA eG e5 fT gu gL)∧(gu≠0→hc=[])) (fun ⟨hc,fT,gu,gL⟩=>aw hc) (fun ⟨hc,fT,gu,gL⟩=>[bp l n fT gu gL]) rfl (fun _=>rfl) (fun bs aF gd aB K ab=>ji l n eA eG e5 4 ([58]:List UInt8) (bs.getD 0 0) av (by omega) (by omega) (by omega) aF gd K (fun dq cc bZ b1 aT ao=>ab (dq,cc,bZ,b1) ⟨aT,ao⟩)) ?_
     rintro ⟨hc,fT,gu,gL⟩ fU
     dsimp only at fU
     obtain ⟨fU,QX⟩:=fU
     have B5:=fU.bw
     have B6:=fU.ad
     have B7:=fU.cm
     refine gp b9 Tryz.mixed (σ:=Int×Int×Int×ax) (.f 0 (.f 2 (.f 3 (.o 1 (.s 4 (.s 5 (.s 6 (.s 7 (.f 8 (.s 9 .d)))))) (.o 4 (.o 1 (.s 5 (.s 6 (.s 7 (.f 8 (.s 9 .d))))) (.o 5 (.o 1 (.s 6 (.s 7 (.f 8 (.s 9 .d)))) (.o 6 (.s 1 (.s 7 (.f 8 (.s 9 .d)))) .z)) .z)) .z))))) [] [0,2,3] 3 (fun ⟨a9,dA,dB,dR⟩=>([(0, .loc 0 0),(2, .loc 1 0),(3, .loc 2 0)],[bp l n a9 dA dB, .cells [aw ([]),aw ([]), .own []], .cells [aw dO,aw ek, .own ((xs++([(⟨gU,dR⟩:(aD×ax))]:List (aD×ax))).map bz)]],m)) (fun ⟨a9,dA,dB,dR⟩=>bx l (jB l n fT) dR fT gu gL a9 dA dB) (by decide+kernel) ?_ ?_
     · rintro ⟨a9,dA,dB,dR⟩ iH
       try dsimp only at iH
       have Hk:=iH.bw
       have Hl:=iH.ad
       have Hm:=iH.cm
       refine ⟨(a9,dA,dB,xs++([(⟨gU,dR⟩:(aD×ax))]:List (aD×ax))),⟨rfl,rfl⟩,?_,?_⟩
       · try dsimp only
         have c:=(((((kS.2.2.2.room e4 (by decide)).step fA).to fun _=>Si aa)).step fU).step iH
         have aI:=fun z=>e4.no (by decide) (fA.bA (fU.bA (iH.bA z)))
         have bl:=iH.gt
         simp only [List.length_append,List.length_cons,List.length_nil]
         exact ⟨by omega,by omega,by omega,by omega,fun z=>by have:=aI z;omega,by omega,cC,fun z=>by have:=bl z;omega,c⟩
       try dsimp only
       rw [if_pos J]
       have bl:=iH.gt
       split<;>omega
     repeat' first
      |refine ⟨(gW,hd,ht,gO),⟨rfl,rfl⟩,gM⟩
      |(refine cF 115 [0] (σ:=ax×Int×Int×Int) (fun ⟨gO,gW,hd,ht⟩=>bx l (jB l n fT) gO fT gu gL gW hd ht) (fun ⟨gO,gW,hd,ht⟩=>iS gO) (fun ⟨gO,gW,hd,ht⟩=>[bp l n gW hd ht]) rfl (fun _=>rfl) (fun bs aF gd aB K ab=>yn l n fT gu gL 6 (bs.getD 0 0) (wb l n av hw 6 (by decide)) av (by omega) (by omega) (by omega) rfl aF gd K (eF.up aB aV) (fun fg cc bZ b1 aT=>ab (fg,cc,bZ,b1) aT)) ?_;rintro ⟨gO,gW,hd,ht⟩ gM;dsimp only at gM;have B8:=gM.bw;have B9:=gM.ad;have Ca:=gM.cm)
      |refine ap bz xs ([(⟨gU,gO⟩:(aD×ax))]:List (aD×ax)) rfl rfl (fun _=>⟨rfl,rfl⟩) (by (simp only [List.length_append,List.length_cons,List.length_nil];omega)) ?_
      |refine ⟨?_,?_,trivial⟩
   refine br ?_
   refine ah (fun ai=>?_) (fun ai=>?_)
   · refine cF 115 [0] (σ:=aD×Int×Int×Int) (fun ⟨mD,fI,fJ,gb⟩=>(bx l (cK l n 4 ([44]:List UInt8) a2) mD a2 aC bI fI fJ gb)∧(fJ≠0→mD=[])) (fun ⟨mD,fI,fJ,gb⟩=>aw mD) (fun ⟨mD,fI,fJ,gb⟩=>[bp l n fI fJ gb]) rfl (fun _=>rfl) (fun bs aF gd aB K ab=>ji l n a2 aC bI 4 ([44]:List UInt8) (bs.getD 0 0) av (by omega) (by omega) (by omega) aF gd K (fun dq cc bZ b1 aT ao=>ab (dq,cc,bZ,b1) ⟨aT,ao⟩)) ?_
     rintro ⟨mD,fI,fJ,gb⟩ gB
     dsimp only at gB
     obtain ⟨gB,QY⟩:=gB
     have yd:=gB.bw
     have ye:=gB.ad
     have yf:=gB.cm
     refine ⟨(fI,fJ,gb),⟨rfl,rfl⟩,⟨by omega,by omega,by omega,(i9.to fun _=>Cc ai).step gB⟩⟩
   refine ⟨(a2,aC,bI),⟨rfl,rfl⟩,⟨by omega,by omega,by omega,i9.to fun _=>Cd ai⟩⟩
 refine rt rfl fun _=>?_
 show K (.agg [.str dO, .str ek, .slice false (xs.map bz)]) (ae.bf m [(r, .cells [.slice false (l.map ch), .int .i64 a2, .int .i64 n, .err 115 aC, .int .i64 bI])])
 exact ab ⟨dO,ek,xs⟩ _ _ _ (i9.bad J (by omega) (by omega) (by omega))
end Go.Proofs
end
