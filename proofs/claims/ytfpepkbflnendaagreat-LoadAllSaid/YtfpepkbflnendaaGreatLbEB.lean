/- Regions that draw their order: the canonical run. -/
import Derived.Test.YtfpepkbflnendaaGreatLbEA
import Derived.Great.BuildSlice
import Derived.IntWalk
import Derived.OrdersIn
/- Operations that only compute or look. Part 5: building, maps, assertions; all of them together. -/
namespace Go.Proofs.YtfpepkbflnendaaGreat
open Go Go.RowKit
namespace Ev
section
variable {P:Program} {W:World} {L:Nat→Prop} {μ:Mu} {H:List AB} {C:Cfg} {tm:List AV} {a:Act}

theorem zmu {v:AV}{x:Value}(hp:v.plain=true)(h:VR W L μ v x):x.oneCell'=true:=by
 cases h<;>first|assumption|rfl|(simp[AV.plain] at hp)
theorem zmw {as:List AV}{rs:List Value}(hp:as.all AV.plain=true)(h:VL W L μ as rs):∀ u∈rs,u.oneCell'=true:=by
 intro u hu
 obtain ⟨i,hi,rfl⟩:=List.getElem_of_mem hu
 have hi':i<as.length:=by rw[h.1];exact hi
 exact zmu (List.all_eq_true.1 hp _ (List.getElem_mem hi')) (h.2 i as[i] _ (List.getElem?_eq_getElem hi') (List.getElem?_eq_getElem hi))
theorem zvv {x:Value}(h:x.oneCell'=true):x.cells=#[x]:=by cases x<;>first|rfl|simp[Value.oneCell'] at h
theorem zfs {v:AV}{x:Value}{l:List AV}(h:VR W L μ v x)(hc:cellsOf v=some l):VL W L μ l x.cells.toList:=by
 unfold cellsOf at hc
 split at hc
 ·cases hc
 ·cases hc
 ·cases hc
  obtain ⟨rs,rfl,hv⟩:=vr_agg h
  simpa [Value.cells] using hv
 ·rename_i n1 n2 n3
  cases hc
  have hp:v.plain=true:=by cases v<;>first|rfl|exact absurd rfl n1|exact absurd rfl (n2 _)|exact absurd rfl (n3 _)
  rw[zvv (zmu hp h)]
  exact VL.cons h VL.nil

theorem VL.setAt {cs l:List AV}{rs xs:List Value}(h:VL W L μ cs rs)(hl:VL W L μ l xs)(off:Nat):VL W L μ (setAt cs off l) (rs.take off++xs++rs.drop (off+xs.length)):=by
 unfold Ev.setAt
 rw[hl.1]
 exact ((h.take off).append hl).append (h.drop _)

theorem zif (off:Nat):∀ (vs:List Value) (k:Nat) (cs:Array Value),off+k+vs.length≤cs.size →
  ((vs.zipIdx k).foldl (fun cs (p:Value × Nat)=>cs.setIfInBounds (off+p.2) p.1) cs).toList=cs.toList.take (off+k)++vs++cs.toList.drop (off+k+vs.length)
 |[],k,cs,h=>by simp
 |v::vs,k,cs,h=>by
  simp only[List.length_cons] at h
  rw[List.zipIdx_cons,List.foldl_cons,zif off vs (k+1) _ (by simp;omega)]
  have e:=list_seg_step cs.toList (off+k) v vs (by simp;omega)
  simpa [Array.toList_setIfInBounds,Nat.add_assoc,Nat.add_comm 1] using e

inductive PR (W:World) (L:Nat→Prop) (μ:Mu) (place:Nat→Option (Nat × Nat)):List (Nat × Nat × AV)→List (Nat × Value)→Prop
 |nil:PR W L μ place [] []
 |cons {i off size:Nat} {x:AV} {v:Value} {ps:List (Nat × Nat × AV)} {qs:List (Nat × Value)}:place i=some (off,size)→VR W L μ x v→PR W L μ place ps qs→PR W L μ place ((off,size,x)::ps) ((i,v)::qs)

theorem zjc {place:Nat→Option (Nat × Nat)}{ps:List (Nat × Nat × AV)}{qs:List (Nat × Value)}(h:PR W L μ place ps qs):∀ {cs out:List AV} {rs:Array Value},VL W L μ cs rs.toList→fillA cs ps=some out →
  ∃ rs',Instr.fill place rs qs=some rs'∧VL W L μ out rs'.toList:=by
 induction h with
 |nil=>intro cs out rs hv hf;cases hf;exact ⟨rs,rfl,hv⟩
 |@cons i off size x v ps qs hp hx _ ih=>
  intro cs out rs hv hf
  unfold fillA at hf
  split at hf
  ·rename_i l hl
   split at hf
   ·rename_i hc
    have hcv:=zfs hx hl
    have hsz:v.cells.size=l.length:=by have:=hcv.1;simpa using this.symm
    have hrs:rs.size=cs.length:=by have:=hv.1;simpa using this.symm
    have hfold:VL W L μ (Ev.setAt cs off l) ((v.cells.zipIdx.foldl (fun cs (p:Value × Nat)=>cs.setIfInBounds (off+p.2) p.1) rs).toList):=by
     have e:=zif off v.cells.toList 0 rs (by simp;omega)
     have:=hv.setAt hcv off
     rw[← Array.foldl_toList,Array.toList_zipIdx,e]
     simpa using this
    obtain ⟨rs',h1,h2⟩:=ih hfold hf
    refine ⟨rs',?_,h2⟩
    unfold Instr.fill
    rw[hp]
    simp only
    rw[if_neg (by simp;omega)]
    exact h1
   ·cases hf
  ·cases hf

theorem zes {t:Nat}{z:List AV}(h:zeroT P t=some z):∃ i v,P.info? t=some i∧i.zero=some v∧VL W L μ z v.cells.toList:=by
 unfold zeroT at h
 cases hi:P.info? t with
 |none=>rw[hi] at h;cases h
 |some i=>
  rw[hi] at h
  simp only at h
  cases hz:i.zero with
  |none=>rw[hz] at h;cases h
  |some v=>rw[hz] at h;exact ⟨i,v,rfl,hz,zjf h⟩
theorem zim {t:Nat}{z:AV}(h:zeroV P t=some z):∃ v,(zeroValue t).run P W=.ok v W∧VR W L μ z v:=by
 unfold zeroV at h
 cases hi:P.info? t with
 |none=>rw[hi] at h;cases h
 |some i=>
  rw[hi] at h
  simp only at h
  split at h
  ·rename_i cs hz
   cases hc:cstL cs.toList with
   |none=>rw[hc] at h;cases h
   |some l=>rw[hc] at h;cases h;exact ⟨_,by simp[zeroValue,typeInfo,hi,hz],agg_ok (zjf hc)⟩
  ·rename_i z' hz
   exact ⟨_,by simp[zeroValue,typeInfo,hi,hz],zmk h⟩
  ·cases h

theorem zfl (he:Env C W L μ tm a){places:Nat→Option (Nat × Nat)}:∀ {ps:List (Nat × Operand)} {qs:List (Nat × Nat × Opnd)},partsOf places ps=some qs →
  PR W L μ places (qs.map fun p=>(p.1,p.2.1,val C tm p.2.2)) (ps.map fun p=>(p.1,a.eval p.2))
 |[],qs,h=>by cases h;exact .nil
 |(i,x)::l,qs,h=>by
   unfold partsOf at h
   split at h
   ·rename_i off size x' l' h1 h2 h3
    cases h
    exact .cons h1 (zat he h2) (zfl he h3)
   ·cases h

theorem zoe {t:Nat}{parts:Array (Nat × Operand)}{z:List AV}{ps:List (Nat × Nat × Opnd)}(he:Env C W L μ tm a)(hz:zeroT P t=some z)
  (hc : (∃ fs places, P.underlying t = some (.struct fs) ∧ fs.toList.mapM (fun f => (P.info? f.type).map fun i => (f.offset, i.size)) = some places ∧ partsOf (fun i => places[i]?) parts.toList = some ps) ∨
   (∃ n e s,P.underlying t=some (.array n e)∧sizeT P e=some s∧partsOf (fun i=>some (i * s,s)) parts.toList=some ps))
  {v:AV} {ft:List Nat} (hx:xval H (val C tm) (.build z ps)=some (v,ft)):
  ∃ w,(Instr.build t (parts.map fun (i,x)=>(i,a.eval x))).run P W=.ok w W∧VR W L μ v w:=by
 obtain ⟨i,zv,h1,h2,h3⟩:=zes (W:=W) (L:=L) (μ:=μ) hz
 simp only[xval] at hx
 cases hf:fillA z (ps.map fun p=>(p.1,p.2.1,val C tm p.2.2)) with
 |none=>rw[hf] at hx;cases hx
 |some cs=>
  rw[hf] at hx;cases hx
  have hmap:(parts.map fun (i,x)=>(i,a.eval x)).toList=parts.toList.map fun p=>(p.1,a.eval p.2):=by simp
  rcases hc with ⟨fs,places,g1,g2,g3⟩|⟨n,e,s,g1,g2,g3⟩
  ·obtain ⟨rs,f1,f2⟩:=zjc (zfl he g3) h3 hf
   refine ⟨.agg rs,run_build W t _ rs ?_,agg_ok f2⟩
   simp only[Program.built,h1,g1,h2,g2,hmap]
   simpa using f1
  ·obtain ⟨rs,f1,f2⟩:=zjc (zfl he g3) h3 hf
   refine ⟨.agg rs,run_build W t _ rs ?_,agg_ok f2⟩
   unfold sizeT at g2
   cases hi:P.info? e with
   |none=>rw[hi] at g2;cases g2
   |some ie=>
    rw[hi] at g2;cases g2
    simp only[Program.built,h1,g1,h2,hi,hmap]
    exact f1

theorem zoq {t xt:Nat}{z:AV}{x:Operand}{x':Opnd}{d:TypeDesc}(he:Env C W L μ tm a)(hu:P.underlying t=some d)(hn:∀ m,d≠.interface m)(hz:zeroV P t=some z)(h1:opnd x=some x')
  {v:AV} {ft:List Nat} (hx:xval H (val C tm) (.tassert t z x')=some (v,ft)):
  ∃ w,(Instr.typeAssert (a.eval x) xt t true).run P W=.ok w W∧VR W L μ v w:=by
 have e1:=zat he h1
 obtain ⟨zv,hzr,hzv⟩:=zim (P:=P) (W:=W) (L:=L) (μ:=μ) hz
 have no:VR W L μ (.tup [z,.bool false]) (.tuple #[zv,.bool false]):=tup_ok (VL.cons hzv (VL.cons .bool VL.nil))
 simp only[xval] at hx
 split at hx
 ·rename_i t' u hb
  cases hx
  rw[hb] at e1
  obtain ⟨y,h2,hy⟩:=zbu e1
  by_cases ht:t'=t
  ·subst ht
   rw[if_pos rfl]
   refine ⟨.tuple #[y,.bool true],?_,tup_ok (VL.cons hy (VL.cons .bool VL.nil))⟩
   cases d<;>first|exact absurd rfl (hn _)|simp[Instr.typeAssert,run_underlying hu,h2]
  ·rw[if_neg ht]
   refine ⟨_,?_,no⟩
   cases d<;>first|exact absurd rfl (hn _)|simp[Instr.typeAssert,run_underlying hu,h2,ht,hzr]
 ·rename_i hb
  cases hx
  rw[hb] at e1
  refine ⟨_,?_,no⟩
  cases d<;>first|exact absurd rfl (hn _)|simp[Instr.typeAssert,run_underlying hu,zbp e1,hzr]
 ·cases hx

theorem zkb {t:Nat}{T:TypeDesc}(hu:P.underlying t=some T)(hT:(∃ k,T=.int k)∨T=.bool){X:Array Value}{off:Nat}{l:List AV}(hl:l.length=1)(hv:VL W L μ l ((X.toList.drop off).take 1)):
  ∃ v,(part t X off).run P W=.ok v W:=by
 match l,hl with
 |[x],_=>
   obtain ⟨r,hr,_⟩:=hv.get (i:=0) rfl
   have hr':X[off]?=some r:=by rw[List.getElem?_take_of_lt (by omega),List.getElem?_drop] at hr;simpa using hr
   have hagg:(isAgg t).run P W=.ok false W:=by rcases hT with ⟨k,rfl⟩|rfl<;>simp[isAgg,run_underlying hu]
   exact ⟨r,by simp[part,hagg,hr']⟩

def ChkOk (P:Program)(N:Nat)(t n:Nat):Prop:=
 ∀ (W:World) (L:Nat→Prop) (μ:Mu) (X:Array Value) (off:Nat) (l:List AV),l.length=n→VL W L μ l ((X.toList.drop off).take n)→∃ v,(part t X off).run P W=.ok v W∧∀ e,(Instr.checkKey e N t v).run P W=.ok () W

theorem zfz {N:Nat}{flat:Nat→Option (List Bool)}(hf:∀ t s,flat t=some s→ChkOk P N t s.length)(e:Bool):∀ {fs:List Field} {off:Nat} {s:List Bool},flatF flat off fs=some s →
  ∀ (W:World) (L:Nat→Prop) (μ:Mu) (X:Array Value) (l:List AV),l.length=s.length→VL W L μ l ((X.toList.drop off).take s.length) →
   (forIn fs PUnit.unit (fun (f : Field) (_ : PUnit) => (if f.name ≠ "_" then do let p ← part f.type X f.offset;Instr.checkKey e N f.type p;pure (ForInStep.yield PUnit.unit) else pure (ForInStep.yield PUnit.unit):Sem (ForInStep PUnit)))).run P W=.ok PUnit.unit W
 |[],off,s,h,W,L,μ,X,l,_,_=>by simp
 |f::fs,off,s,h,W,L,μ,X,l,hl,hv=>by
  unfold flatF at h
  split at h
  ·rename_i hn
   split at h
   ·rename_i s1 hq
    cases hr:flatF flat (off+s1.length) fs with
    |none=>rw[hr] at h;cases h
    |some s2=>
     rw[hr] at h;cases h
     simp only[List.length_append] at hl hv
     have hv1:VL W L μ (l.take s1.length) ((X.toList.drop off).take s1.length):=by
      have:=hv.take s1.length
      rwa [List.take_take,show min s1.length (s1.length+s2.length)=s1.length by omega] at this
     have hd1:VL W L μ (l.drop s1.length) ((X.toList.drop (off+s1.length)).take s2.length):=by
      have:=hv.drop s1.length
      rw[List.drop_take,List.drop_drop] at this
      simpa using this
     obtain ⟨p,p1,p2⟩:=hf f.type s1 hq W L μ X off _ (by simp;omega) hv1
     have ih:=zfz hf e hr W L μ X (l.drop s1.length) (by simp;omega) hd1
     simp only[List.forIn_cons,Sem.run_bind,if_pos hn.1,hn.2,p1,p2 e,Result.andThen_ok,Sem.run_pure,ih]
   ·cases h
  ·cases h

theorem zhi {N e:Nat}{s:List Bool}(hf:ChkOk P N e s.length)(hse:sizeT P e=some s.length)(ee:Bool)(W:World)(L:Nat→Prop)(μ:Mu)(X:Array Value):∀ (k j:Nat) (l:List AV),l.length=k * s.length→VL W L μ l ((X.toList.drop (j * s.length)).take (k * s.length)) →
  (forIn (List.range' j k) PUnit.unit (fun (i:Nat) (_:PUnit)=>(do let c ← sizeOf e;let p ← part e X (i * c);Instr.checkKey ee N e p;pure (ForInStep.yield PUnit.unit):Sem (ForInStep PUnit)))).run P W=.ok PUnit.unit W
 |0,j,l,_,_=>by simp
 |k+1,j,l,hl,hv=>by
  rw[Nat.succ_mul] at hl hv
  have hv1:VL W L μ (l.take s.length) ((X.toList.drop (j * s.length)).take s.length):=by
   have:=hv.take s.length
   rwa [List.take_take,show min s.length (k * s.length+s.length)=s.length by omega] at this
  have hd1:VL W L μ (l.drop s.length) ((X.toList.drop ((j+1) * s.length)).take (k * s.length)):=by
   have:=hv.drop s.length
   rw[List.drop_take,List.drop_drop] at this
   rw[Nat.succ_mul]
   simpa using this
  obtain ⟨p,p1,p2⟩:=hf W L μ X (j * s.length) _ (by simp;omega) hv1
  have ih:=zhi hf hse ee W L μ X k (j+1) (l.drop s.length) (by simp;omega) hd1
  rw[List.range'_succ]
  simp only[List.forIn_cons,Sem.run_bind,zbb hse,p1,p2 ee,Result.andThen_ok,Sem.run_pure,ih]

theorem chk_ok:∀ {d t:Nat} {s:List Bool},flatT P d t=some s→∀ N,d≤N→ChkOk P N t s.length
 |0,t,s,h=>by cases h
 |d+1,t,s,h=>by
  intro N hN W L μ X off l hl hv
  obtain ⟨N,rfl⟩:∃ N',N=N'+1:=⟨N - 1,by omega⟩
  unfold flatT at h
  split at h
  ·rename_i fs hu
   split at h
   ·cases h
   ·split at h
    ·rename_i s' hf
     split at h
     ·rename_i hsz
      cases h
      have hagg:(isAgg t).run P W=.ok true W:=by simp[isAgg,run_underlying hu]
      refine ⟨.agg (X.extract off (off+s.length)),by simp[part,hagg,zbb hsz],fun e=>?_⟩
      have:=zfz (N:=N) (fun t' n' ht=>chk_ok ht N (by omega)) e hf W L μ (X.extract off (off+s.length)) l hl (by simpa [Array.toList_extract,List.take_take] using hv)
      simp only[Instr.checkKey,Sem.run_bind,run_underlying hu,Result.andThen_ok]
      rw[← Array.forIn_toList,this]
      rfl
     ·cases h
    ·cases h
  ·rename_i k hu
   split at h<;>cases h
   obtain ⟨v,hv'⟩:=zkb hu (.inl ⟨k,rfl⟩) hl hv
   exact ⟨v,hv',fun e=>by simp[Instr.checkKey,run_underlying hu]⟩
  ·rename_i hu
   split at h<;>cases h
   obtain ⟨v,hv'⟩:=zkb hu (.inr rfl) hl hv
   exact ⟨v,hv',fun e=>by simp[Instr.checkKey,run_underlying hu]⟩
  ·rename_i n e hu
   split at h
   ·rename_i s' hf
    split at h<;>cases h
    rename_i hsz
    obtain ⟨hsz,hse⟩:=hsz
    rw[zja] at hl hv
    have hagg:(isAgg t).run P W=.ok true W:=by simp[isAgg,run_underlying hu]
    refine ⟨.agg (X.extract off (off+n * s'.length)),by simp[part,hagg,zbb hsz],fun ee=>?_⟩
    have:=zhi (chk_ok hf N (by omega)) hse ee W L μ (X.extract off (off+n * s'.length)) n 0 l hl (by simpa [Array.toList_extract,List.take_take] using hv)
    simp only[Instr.checkKey,Sem.run_bind,run_underlying hu,Result.andThen_ok]
    simp only[Std.Legacy.Range.forIn_eq_forIn_range',Std.Legacy.Range.size,Nat.sub_zero,Nat.add_one_sub_one,Nat.div_one]
    rw[this]
    rfl
   ·cases h
  ·cases h

theorem zga {t:Nat}{T:TypeDesc}(hu:P.underlying t=some T)(hT:(∃ k,T=.int k)∨T=.bool)(e:Bool)(n:Nat)(v:Value)(W:World):(Instr.checkKey e (n+1) t v).run P W=.ok () W:=by
 rcases hT with ⟨k,rfl⟩|rfl<;>simp[Instr.checkKey,run_underlying hu]

theorem zep {t:Nat}{kn:EK}(hk:keyT P t=some kn){key:AV}(ho:keyOK kn key=true){vk:Value}(hv:VR W L μ key vk)(e:Bool):(Instr.checkKey e 10000 t vk).run P W=.ok () W:=by
 unfold keyT at hk
 split at hk
 ·rename_i k hu;exact zga hu (.inl ⟨k,rfl⟩) e 9999 vk W
 ·rename_i hu;exact zga hu (.inr rfl) e 9999 vk W
 ·rename_i fs hu
  cases hf:flatT P 5 t with
  |none=>rw[hf] at hk;cases hk
  |some s=>
   rw[hf] at hk;cases hk
   unfold keyOK at ho
   split at ho
   ·rename_i h0;cases h0
   ·rename_i h0;cases h0
   ·rename_i s' l h0
    cases h0
    have hl:l.length=s.length:=by simpa using ho
    obtain ⟨xs,rfl,hxs⟩:=vr_agg hv
    have hxl:xs.length=s.length:=hxs.1.symm.trans hl
    obtain ⟨v,p1,p2⟩:=chk_ok hf 10000 (by omega) W L μ xs.toArray 0 l hl (by simpa [List.take_of_length_le (Nat.le_of_eq hxl)] using hxs)
    have hagg:(isAgg t).run P W=.ok true W:=by simp[isAgg,run_underlying hu]
    have hsz:sizeT P t=some s.length:=by
     unfold flatT at hf
     rw[hu] at hf
     simp only at hf
     split at hf
     ·cases hf
     ·split at hf
      ·split at hf
       ·rename_i hh;cases hf;exact hh
       ·cases hf
      ·cases hf
    simp[part,hagg,zbb hsz,← hxl] at p1
    rw[← p1] at p2
    exact p2 e
   ·cases ho
 ·cases hk

def ER (W:World)(L:Nat→Prop)(μ:Mu):List (AV × AV)→List MapEntry→Prop
 |[],[]=>True
 |(k,v)::es,e::res=>VR W L μ k e.key∧VR W L μ v e.val∧ER W L μ es res
 |_,_=>False

def FR (W:World)(L:Nat→Prop)(μ:Mu)(kn:EK)(key:AV)(es:List (AV × AV))(i:Nat):Option AV→Option (Nat × Value)→Prop
 |none,none=>True
 |some v,some (j,x)=>VR W L μ v x∧i≤j∧(∃ k,es[j - i]?=some (k,v)∧aeqK kn key k=some true)∧∀ q,q<j - i→∀ k' u',es[q]?=some (k',u')→aeqK kn key k'=some false
 |_,_=>False

theorem FR.cons {kn:EK}{key:AV}{es:List (AV × AV)}{p:AV × AV}{i:Nat}{r:Option AV}{r':Option (Nat × Value)}(hp:aeqK kn key p.1=some false)(h:FR W L μ kn key es (i+1) r r'):FR W L μ kn key (p::es) i r r':=by
 cases r with
 |none=>cases r' with
  |none=>trivial
  |some q=>exact h.elim
 |some v=>cases r' with
  |none=>exact h.elim
  |some q=>
   obtain ⟨j,x⟩:=q
   obtain ⟨h1,h2,⟨k,h3,h4⟩,h5⟩:=h
   have e:j - i=(j - (i+1))+1:=by omega
   refine ⟨h1,by omega,⟨k,by rw[e,List.getElem?_cons_succ];exact h3,h4⟩,fun q hq k' u' hk=>?_⟩
   cases q with
   |zero=>simp at hk;rw[hk] at hp;exact hp
   |succ q=>exact h5 q (by omega) k' u' (by simpa using hk)

theorem zfa {t:Nat}{kn:EK}(hk:keyT P t=some kn){key:AV}{vk:Value}(hv:VR W L μ key vk):∀ {es:List (AV × AV)} {res:List MapEntry} {r:Option AV} (i:Nat),ER W L μ es res→findA kn key es=some r →
  ∃ r',(Instr.findAsking t vk res i).run P W=.ok r' W∧FR W L μ kn key es i r r'
 |[],[],r,i,_,h=>by cases h;exact ⟨none,by simp[Instr.findAsking],trivial⟩
 |[],_::_,r,i,he,h=>he.elim
 |_::_,[],r,i,he,h=>he.elim
 |(k,v)::es,e::res,r,i,he,h=>by
   obtain ⟨e1,e2,e3⟩:=he
   unfold findA at h
   split at h
   ·rename_i hq
    cases h
    have:=keq_ok (.inl hk) hq hv e1
    exact ⟨some (i,e.val),by simp[Instr.findAsking,this],e2,Nat.le_refl _,⟨k,by simp,hq⟩,fun q hq=>by omega⟩
   ·rename_i hq
    have:=keq_ok (.inl hk) hq hv e1
    obtain ⟨r',h1,h2⟩:=zfa hk hv (i+1) e3 h
    exact ⟨r',by simp[Instr.findAsking,this,h1],h2.cons hq⟩
   ·cases h

theorem zfp {d:TypeDesc}{kn:EK}(hd:(∃ k,d=.int k∧kn=.int)∨(d=.bool∧kn=.bool)){key:AV}{vk:Value}(hv:VR W L μ key vk):∀ {es:List (AV × AV)} {res:List MapEntry} {r:Option AV} (i:Nat),ER W L μ es res→findA kn key es=some r →
  ∃ r',Instr.findNow d vk res i=some r'∧FR W L μ kn key es i r r'
 |[],[],r,i,_,h=>by cases h;exact ⟨none,by simp[Instr.findNow],trivial⟩
 |[],_::_,r,i,he,h=>he.elim
 |_::_,[],r,i,he,h=>he.elim
 |(k,v)::es,e::res,r,i,he,h=>by
   obtain ⟨e1,e2,e3⟩:=he
   have same:∀ b,aeqK kn key k=some b→Instr.sameNow d vk e.key=some b:=by
    intro b hb
    rcases hd with ⟨kk,rfl,rfl⟩|⟨rfl,rfl⟩
    ·unfold aeqK at hb
     split at hb
     all_goals first
      |(rename_i h0;cases h0;done)
      |(rename_i h0 _;cases h0;done)
      |skip
     ·rename_i k1 p k2 q h0
      split at hb<;>cases hb
      rename_i hkk;subst hkk
      simp[vr_int hv,vr_int e1,Instr.sameNow]
     ·cases hb
    ·unfold aeqK at hb
     split at hb
     all_goals first
      |(rename_i h0;cases h0;done)
      |(rename_i h0 _;cases h0;done)
      |skip
     ·cases hb
      simp[zbf hv,zbf e1,Instr.sameNow]
     ·cases hb
   unfold findA at h
   split at h
   ·rename_i hq
    cases h
    exact ⟨some (i,e.val),by simp[Instr.findNow,same _ hq],e2,Nat.le_refl _,⟨k,by simp,hq⟩,fun q hq=>by omega⟩
   ·rename_i hq
    obtain ⟨r',h1,h2⟩:=zfp hd hv (i+1) e3 h
    exact ⟨r',by simp[Instr.findNow,same _ hq,h1],h2.cons hq⟩
   ·cases h

theorem zdb {t:Nat}{kn:EK}(hk:keyT P t=some kn){key:AV}(hko:keyOK kn key=true){vk:Value}(hv:VR W L μ key vk){es:List (AV × AV)}{res:List MapEntry}{r:Option AV}(he:ER W L μ es res)(h:findA kn key es=some r):
  ∃ r',(Instr.findKey t vk res).run P W=.ok r' W∧FR W L μ kn key es 0 r r':=by
 have hk':=hk
 unfold keyT at hk
 split at hk
 ·rename_i k hu
  cases hk
  obtain ⟨r',h1,h2⟩:=zfp (.inl ⟨k,rfl,rfl⟩) hv 0 he h
  exact ⟨r',by simp[Instr.findKey,run_underlying hu,h1],h2⟩
 ·rename_i hu
  cases hk
  obtain ⟨r',h1,h2⟩:=zfp (.inr ⟨rfl,rfl⟩) hv 0 he h
  exact ⟨r',by simp[Instr.findKey,run_underlying hu,h1],h2⟩
 ·rename_i fs hu
  obtain ⟨r',h1,h2⟩:=zfa hk' hv 0 he h
  cases es with
  |nil=>cases res with
   |nil=>cases h;exact ⟨none,by simp[Instr.findKey,run_underlying hu,Instr.findNow],trivial⟩
   |cons e res=>exact he.elim
  |cons p es=>cases res with
   |nil=>exact he.elim
   |cons e res=>exact ⟨r',by simp[Instr.findKey,run_underlying hu,Instr.findNow,Instr.sameNow,h1],h2⟩
 ·cases hk

theorem zyk {es:List (AV × AV)}:∀ {res:List MapEntry},es.length=res.length→(∀ (i:Nat) (k v:AV) (e:MapEntry),es[i]?=some (k,v)→res[i]?=some e→VR W L μ k e.key∧VR W L μ v e.val)→ER W L μ es res:=by
 induction es with
 |nil=>intro res h _;cases res with
  |nil=>trivial
  |cons _ _=>simp at h
 |cons p es ih=>
  intro res h hv
  cases res with
  |nil=>simp at h
  |cons e res=>
   obtain ⟨k,v⟩:=p
   have h0:=hv 0 k v e rfl rfl
   exact ⟨h0.1,h0.2,ih (by simpa using h) fun i k v e h1 h2=>hv (i+1) k v e (by simpa using h1) (by simpa using h2)⟩

theorem map_at (hs:Sim P W L μ H){b:Nat}{x:Value}(h:VR W L μ (.map b) x){es:List (AV × AV)}(hb:H[b]?=some (.map es)):
  ∃ B res clk,μ b=.at B∧x=.map (some B)∧W.heap[B]?=some (.map res clk)∧es.length=res.size∧ER W L μ es res.toList∧Born res clk:=by
 cases h with
 |@dead _ _ _ b' h hd _=>
  simp[headRef] at h;subst h
  cases hs.dead _ _ hd hb
 |@map _ _ B hm=>
  obtain ⟨_,_,blk,o,e1,e2,e3⟩:=hs.live _ _ hm
  rw[hb] at e1;cases e1
  cases e3 with
  |@map _ res clk h0 h1 h2=>exact ⟨B,res,clk,hm,rfl,e2,h1,zyk (by simpa using h1) (fun i k v e a b=>h2 i k v e a (by simpa using b)),h0⟩

theorem zuo {t k e:Nat}{kn:EK}{ok:Bool}{z:AV}{m key:Operand}{m' key':Opnd}(hs:Sim P W L μ H)(he:Env C W L μ tm a)(hu:P.underlying t=some (.map k e))(hk:keyT P k=some kn)(hz:zeroV P e=some z)
  (h1:opnd m=some m') (h2:opnd key=some key') {v:AV} {ft:List Nat} (hx:xval H (val C tm) (.lookup kn ok z m' key')=some (v,ft)):
  ∃ w,(Instr.lookup t (a.eval m) (a.eval key) ok).run P W=.ok w W∧VR W L μ v w:=by
 have e1:=zat he h1
 have e2:=zat he h2
 obtain ⟨zv,hzr,hzv⟩:=zim (P:=P) (W:=W) (L:=L) (μ:=μ) hz
 simp only[xval] at hx
 split at hx
 ·rename_i b hb
  rw[hb] at e1
  split at hx
  ·rename_i es hes
   split at hx
   ·rename_i hko
    obtain ⟨B,res,clk,g1,g2,g3,g4,g5,_⟩:=map_at hs e1 hes
    cases hf:findA kn (val C tm key') es with
    |none=>rw[hf] at hx;cases hx
    |some r=>
     rw[hf] at hx
     obtain ⟨r',f1,f2⟩:=zdb hk hko e2 g5 hf
     have hc:=zep hk hko e2 (P:=P)
     have hg:(getObj B).run P W=.ok (.map res clk) W:=by simp[getObj,Sem.run,g3]
     cases r with
     |none=>
      cases hx
      cases r' with
      |some q=>exact f2.elim
      |none=>
       cases ok
       ·exact ⟨zv,by simp[Instr.lookup,run_underlying hu,g2,hg,hc,f1,hzr],hzv⟩
       ·exact ⟨.tuple #[zv,.bool false],by simp[Instr.lookup,run_underlying hu,g2,hg,hc,f1,hzr],tup_ok (VL.cons hzv (VL.cons .bool VL.nil))⟩
     |some u=>
      cases hx
      cases r' with
      |none=>exact f2.elim
      |some q=>
       obtain ⟨j,y⟩:=q
       have f3:VR W L μ u y:=f2.1
       cases ok
       ·exact ⟨y,by simp[Instr.lookup,run_underlying hu,g2,hg,hc,f1],f3⟩
       ·exact ⟨.tuple #[y,.bool true],by simp[Instr.lookup,run_underlying hu,g2,hg,hc,f1],tup_ok (VL.cons f3 (VL.cons .bool VL.nil))⟩
   ·cases hx
  ·cases hx
 ·cases hx
end
section
variable {P:Program} {W:World} {L:Nat→Prop} {μ:Mu} {H:List AB} {C:Cfg} {tm:List AV} {a:Act}

theorem up {s:Sem Value}{v:AV}(h:∃ z,s.run P W=.ok z W∧VR W L μ v z):∃ z,(do pure (.value (← s)):Sem Next).run P W=.ok (.value z) W∧VR W L μ v z:=by
 obtain ⟨z,h1,h2⟩:=h
 exact ⟨z,by simp[h1],h2⟩

theorem zrr {o:Oper}{k:AK}(hc:compOp P o=some k)(hs:Sim P W L μ H)(he:Env C W L μ tm a){v:AV}{ft:List Nat}(hx:xval H (val C tm) k=some (v,ft)):
  ∃ z,(execOp a.eval o).run P W=.ok (.value z) W∧VR W L μ v z:=by
 unfold compOp at hc
 cases ho:o.op<;>rw[ho] at hc<;>simp only at hc
 case move x=>
  cases h:opnd x<;>rw[h] at hc<;>cases hc
  simp only[xval] at hx;cases hx
  exact ⟨a.eval x,by simp[execOp,ho],zat he h⟩
 case assign x=>
  cases h:opnd x<;>rw[h] at hc<;>cases hc
  simp only[xval] at hx;cases hx
  exact ⟨a.eval x,by simp[execOp,ho],zat he h⟩
 case pick c x y=>
  obtain ⟨z,h1,h2⟩:=up (P:=P) (zzu he hc hx)
  refine ⟨z,?_,h2⟩
  simp only[execOp,ho]
  simpa using h1
 case alloc t=>cases h:zeroT P t<;>rw[h] at hc<;>cases hc;simp[xval] at hx
 case box t x=>cases h:opnd x<;>rw[h] at hc<;>cases hc;simp[xval] at hx
 case build t parts=>
  split at hc
  ·rename_i z fs hz hu
   split at hc
   ·rename_i places hp
    cases hq:partsOf (fun i=>places[i]?) parts.toList with
    |none=>rw[hq] at hc;cases hc
    |some ps=>
     rw[hq] at hc;cases hc
     have:=up (P:=P) (zoe he hz (.inl ⟨fs,places,hu,hp,hq⟩) hx)
     simpa only[execOp,ho] using this
   ·cases hc
  ·rename_i z n e hz hu
   split at hc
   ·rename_i s hsz
    cases hq:partsOf (fun i=>some (i * s,s)) parts.toList with
    |none=>rw[hq] at hc;cases hc
    |some ps=>
     rw[hq] at hc;cases hc
     have:=up (P:=P) (zoe he hz (.inr ⟨n,e,s,hu,hsz,hq⟩) hx)
     simpa only[execOp,ho] using this
   ·cases hc
  ·cases hc
 case buildSlice t len parts=>
  split at hc
  ·split at hc
   ·split at hc<;>cases hc;simp[xval] at hx
   ·cases hc
  ·cases hc
 case load t x=>
  split at hc<;>cases hc
  rename_i k' x' h1 h2
  have:=up (P:=P) (yac hs he h1 h2 hx)
  simpa only[execOp,ho] using this
 case store t x y=>split at hc<;>cases hc;simp[xval] at hx
 case nilCheck x=>
  cases h:opnd x<;>rw[h] at hc<;>cases hc
  exact zxv ho hs he h hx
 case binOp op t x y yt=>
  split at hc
  ·rename_i x' y' h1 h2
   split at hc
   ·cases hc
    have:=up (P:=P) (bin_ok (t:=t) he h1 h2 hx)
    simpa only[execOp,ho] using this
   ·rename_i hint
    have go : ∀ {op}, (op = BinOp.eql ∨ op = BinOp.neq) → (match P.underlying t with
      |some .bool=>some (AK.eq .bool (isNeq op) x' y')
      | some (.struct _) => (match flatT P 5 t with
       |some s=>if P.eqGuardType P.depth t=false then some (.eq (.agg s) (isNeq op) x' y') else none
       |_=>none)
      |some (.interface _)=>if isNil x || isNil y then some (.eq .nilI (isNeq op) x' y') else none
      |some (.func _ _ _)=>if isNil x || isNil y then some (.eq .nilF (isNeq op) x' y') else none
      |some (.slice _)=>if isNilS y then some (.isnil (isNeq op) x') else none
      |_=>none)=some k→∃ z,(do eqGuard op t x y (a.eval x) (a.eval y);binOp op t (a.eval x) (a.eval y):Sem Value).run P W=.ok z W∧VR W L μ v z:=by
     intro op hop hc
     split at hc
     ·rename_i hu
      cases hc
      exact eq_ok hop he (by simp) (.inl (by simp[keyT,hu])) (by simp) (by simp) h1 h2 hx
     ·rename_i fs hu
      split at hc
      ·rename_i s hf
       split at hc
       ·rename_i hg
        cases hc
        exact eq_ok hop he (by simp) (.inl (by simp[keyT,hu,hf])) (fun _ _=>hg) (by simp) h1 h2 hx
       ·cases hc
      ·cases hc
     ·rename_i m hu
      split at hc
      ·rename_i hn
       cases hc
       exact eq_ok hop he (by simp) (.inr (.inl ⟨rfl,m,hu⟩)) (by simp) (fun _=>by simpa using hn) h1 h2 hx
      ·cases hc
     ·rename_i p q r hu
      split at hc
      ·cases hc
       exact eq_ok hop he (by simp) (.inr (.inr ⟨rfl,p,q,r,hu⟩)) (by simp) (by simp) h1 h2 hx
      ·cases hc
     ·rename_i e hu
      split at hc
      ·rename_i hn
       cases hc
       exact zyf hop hs he hu hn h1 hx
      ·cases hc
     ·cases hc
    cases op<;>simp only at hc<;>first
     |(have:=up (P:=P) (go (.inl rfl) hc);simpa only[execOp,ho] using this)
     |(have:=up (P:=P) (go (.inr rfl) hc);simpa only[execOp,ho] using this)
     |cases hc
  ·cases hc
 case unOp op t x=>
  cases op<;>simp only at hc
  all_goals first
   |(cases hc;done)
   |skip
  all_goals (cases h:opnd x<;>rw[h] at hc<;>cases hc)
  all_goals first
   |(have:=up (P:=P) (not_ok he h hx);simpa only[execOp,ho] using this)
   |(have:=up (P:=P) (neg_ok he h hx);simpa only[execOp,ho] using this)
 case convert s d x=>
  split at hc
  ·rename_i i k' x' hus hud h1
   cases hc
   have:=up (P:=P) (yam (s:=s) (d:=d) he hus hud h1 hx)
   simpa only[execOp,ho] using this
  ·cases hc
 case makeInterface t x=>
  split at hc
  ·cases hc
  ·rename_i d x' hn hu h1
   cases hc
   have:=up (P:=P) (zqa he hu (fun m hm=>hn m (hm ▸ rfl)) h1 hx)
   simpa only[execOp,ho] using this
  ·cases hc
 case makeFunc f as bs=>
  split at hc
  ·rename_i f' as' bs' h1 h2
   cases hc
   have:=up (P:=P) (zuf he (by simp) h1 h2 hx)
   simpa only[execOp,ho] using this
  ·rename_i f' as' bs' h1 h2
   cases hc
   have:=up (P:=P) (zuf he (by simp) h1 h2 hx)
   simpa only[execOp,ho] using this
  ·cases hc
 case makeMap t r=>
  cases r<;>simp only at hc<;>cases hc
  simp[xval] at hx
 case makeSlice t l c=>
  split at hc
  ·split at hc
   ·split at hc<;>cases hc;simp[xval] at hx
   ·cases hc
  ·cases hc
 case slice t x lo hi mx=>
  cases mx with
  |some q=>simp only at hc;cases hc
  |none=>
   simp only at hc
   split at hc
   ·rename_i n e hu
    split at hc
    ·rename_i k' x' lo' hi' h0 h1 h2 h3
     cases hc
     have:=up (P:=P) (zss hs he hu h0 (Nat.succ_pos _) h1 h2 h3 hx)
     simpa only[execOp,ho,Option.map_none] using this
    ·cases hc
   split at hc
   ·rename_i e k' by' x' lo' hi' h0 h1 h2 h3
    split at hc<;>cases hc
    have:=up (P:=P) (zxe hs he h0 h1 h2 h3 hx)
    simpa only[execOp,ho,Option.map_none] using this
   ·cases hc
 case fieldAddr t x f=>
  split at hc
  ·rename_i fs x' h0 h1
   split at hc
   ·rename_i g hg
    split at hc
    ·rename_i s hsz
     cases hc
     have:=up (P:=P) (zvk hs he h0 hg hsz h1 hx)
     simpa only[execOp,ho] using this
    ·cases hc
   ·cases hc
  ·cases hc
 case field t x f=>
  split at hc
  ·rename_i fs x' h0 h1
   split at hc
   ·rename_i g hg
    cases hk:formT P g.type with
    |none=>rw[hk] at hc;cases hc
    |some kk=>
     rw[hk] at hc;cases hc
     have:=up (P:=P) (zvj he h0 hg hk h1 hx)
     simpa only[execOp,ho] using this
   ·cases hc
  ·cases hc
 case indexAddr t x i=>
  split at hc
  ·rename_i e x' i' hu h1 h2
   split at hc
   ·rename_i k' hsz
    cases hc
    have:=up (P:=P) (zuw hs he hu hsz h1 h2 hx)
    simpa only[execOp,ho] using this
   ·cases hc
  ·rename_i n e x' i' hu h1 h2
   split at hc
   ·rename_i k' hsz
    cases hc
    have:=up (P:=P) (zqj hs he hu hsz h1 h2 hx)
    simpa only[execOp,ho] using this
   ·cases hc
  ·cases hc
 case index t x i=>
  split at hc
  ·rename_i n e x' i' hu h1 h2
   split at hc
   ·rename_i s k' hsz hk
    cases hc
    have:=up (P:=P) (zuv he hu hsz hk h1 h2 hx)
    simpa only[execOp,ho] using this
   ·cases hc
  ·cases hc
 case lookup t m key ok=>
  split at hc
  ·rename_i k' e m' key' hu h1 h2
   split at hc
   ·rename_i kn hk
    cases hz:zeroV P e with
    |none=>rw[hz] at hc;cases hc
    |some z=>
     rw[hz] at hc;cases hc
     have:=up (P:=P) (zuo hs he hu hk hz h1 h2 hx)
     simpa only[execOp,ho] using this
   ·cases hc
  ·cases hc
 case mapUpdate t m key x=>
  split at hc
  ·split at hc<;>cases hc;simp[xval] at hx
  ·cases hc
 case typeAssert x xt t ok=>
  cases ok<;>simp only at hc
  ·cases hc
  ·split at hc
   ·cases hc
   ·rename_i d z x' hn hu hz h1
    cases hc
    have:=up (P:=P) (zoq (xt:=xt) he hu (fun m hm=>hn m (hm ▸ rfl)) hz h1 hx)
    simpa only[execOp,ho] using this
   ·cases hc
 case extract x i=>
  cases h:opnd x<;>rw[h] at hc<;>cases hc
  have:=up (P:=P) (zqr he h hx)
  simpa only[execOp,ho] using this
 case call c=>
  split at hc
  ·split at hc<;>cases hc;simp[xval] at hx
  ·split at hc<;>cases hc;simp[xval] at hx
  ·rename_i b hcal
   split at hc
   ·rename_i x t hargs htys
    split at hc
    ·rename_i e x' hu h1
     cases hc
     obtain ⟨z,h2,h3⟩:=len_ok hs he hu h1 hx o.type
     refine ⟨z,?_,h3⟩
     have ha:c.args=#[x]:=Array.ext' (by simpa using hargs)
     have ht:c.argTypes=#[t]:=Array.ext' (by simpa using htys)
     simp[execOp,ho,resolve,hcal,ha,ht,invoke,builtin,h2]
    ·cases hc
   ·split at hc
    ·split at hc<;>cases hc;simp[xval] at hx
    ·cases hc
   ·split at hc
    ·split at hc<;>cases hc;simp[xval] at hx
    ·cases hc
   ·cases ha:opndL c.args.toList with
    |none=>rw[ha] at hc;cases hc
    |some l=>
     rw[ha] at hc;cases hc
     obtain ⟨z,h2,h3⟩:=max_ok (P:=P) he ha hx c.argTypes o.type
     exact ⟨z,by simp[execOp,ho,resolve,hcal,invoke,builtin,h2],h3⟩
   ·cases ha:opndL c.args.toList with
    |none=>rw[ha] at hc;cases hc
    |some l=>
     rw[ha] at hc;cases hc
     obtain ⟨z,h2,h3⟩:=min_ok (P:=P) he ha hx c.argTypes o.type
     exact ⟨z,by simp[execOp,ho,resolve,hcal,invoke,builtin,h2],h3⟩
   ·cases hc
 case defer c=>
  split at hc
  ·split at hc<;>cases hc;simp[xval] at hx
  ·cases hc
 case mapEntry t m key=>
  split at hc
  ·split at hc<;>cases hc;simp[xval] at hx
  ·cases hc
 case entryStore t m s y=>split at hc<;>cases hc;simp[xval] at hx
 case panic x=>cases h:opnd x<;>rw[h] at hc<;>cases hc;simp[xval] at hx
 all_goals cases hc

theorem zbx {H H':List AB}{b:Nat}(h:H'[b]?=H[b]?):alive H' b=alive H b:=by unfold alive;rw[h]
theorem zgn {H H':List AB}{v:AV}(h:∀ b,b∈slFt v→H'[b]?=H[b]?):slLen H' v=slLen H v:=by
 unfold slLen
 cases v<;>simp[slFt] at h ⊢
 rw[zbx h]
theorem zol {H H':List AB}{ρ:Opnd→AV}{k:AK}{v:AV}{ft:List Nat}(hx:xval H ρ k=some (v,ft))(h:∀ b,b∈ft→H'[b]?=H[b]?):xval H' ρ k=some (v,ft):=by
 cases k with
 |load k x=>
  simp only[xval] at hx ⊢
  cases hu:ρ x<;>rw[hu] at hx<;>(try simp only at hx ⊢)<;>first|exact hx|skip
  rename_i b off
  cases hb:H[b]? with
  |none=>rw[hb] at hx;cases hx
  |some blk=>
   cases blk<;>rw[hb] at hx<;>simp only at hx<;>first|(cases hx;done)|skip
   rename_i cs
   cases hp:pickC k cs off with
   |none=>rw[hp] at hx;cases hx
   |some u=>rw[hp] at hx;cases hx;rw[h b (by simp),hb];simp[hp]
 |nilck x=>
  simp only[xval] at hx ⊢
  cases hu:ρ x<;>rw[hu] at hx<;>(try simp only at hx ⊢)<;>first|exact hx|skip
  ·split at hx<;>cases hx
   rename_i ha
   rw[zbx (h _ (by simp)),ha];rfl
  ·rename_i f _ _
   cases f<;>exact hx
 |fieldA off x=>
  simp only[xval] at hx ⊢
  cases hu:ρ x<;>rw[hu] at hx<;>(try simp only at hx ⊢)<;>first|exact hx|skip
  split at hx<;>cases hx
  rename_i ha
  rw[zbx (h _ (by simp)),ha];rfl
 |indexA k arr x i=>
  simp only[xval] at hx ⊢
  cases hi:ρ i<;>rw[hi] at hx<;>simp only at hx ⊢<;>first|exact hx|skip
  cases arr<;>cases hu:ρ x<;>rw[hu] at hx<;>(try simp only at hx ⊢)<;>first|exact hx|skip
  ·split at hx<;>cases hx
   rename_i ha
   rw[zbx (h _ (by simp)),if_pos ha]
  ·split at hx<;>cases hx
   rename_i ha
   rw[zbx (h _ (by simp)),if_pos ha]
 |lookup kn ok z m key=>
  simp only[xval] at hx ⊢
  cases hu:ρ m<;>rw[hu] at hx<;>(try simp only at hx ⊢)<;>first|exact hx|skip
  rename_i b
  cases hb:H[b]? with
  |none=>rw[hb] at hx;cases hx
  |some blk=>
   cases blk<;>rw[hb] at hx<;>simp only at hx<;>first|(cases hx;done)|skip
   split at hx
   case isFalse=>cases hx
   rename_i es hk
   cases hp:findA kn (ρ key) es with
   |none=>rw[hp] at hx;cases hx
   |some u=>
    have hft:ft=[b]:=by rw[hp] at hx;cases u<;>cases hx<;>rfl
    rw[h b (by simp[hft]),hb]
    simp only
    rw[if_pos hk];exact hx
 |len x=>
  simp only[xval] at hx ⊢
  cases hp:slLen H (ρ x) with
  |none=>rw[hp] at hx;cases hx
  |some n=>rw[hp] at hx;cases hx;rw[zgn h,hp];rfl
 |isnil neg x=>
  simp only[xval] at hx ⊢
  cases hu:ρ x<;>rw[hu] at hx<;>(try simp only at hx ⊢)<;>first|exact hx|skip
  ·split at hx<;>cases hx
   rename_i ha
   rw[zbx (h _ (by simp)),if_pos ha]
  ·rename_i k es
   cases es<;>first|exact hx|cases hx
 |sliceA k m x lo hi=>
  simp only[xval] at hx ⊢
  split at hx
  case h_2=>cases hx
  rename_i b o kl l kh h0 hp hl hh
  try rw[hp,hl,hh]
  try simp only
  split at hx
  case isFalse=>cases hx
  rename_i hc
  rw[if_pos hc]
  split at hx
  case h_2=>cases hx
  rename_i cs hb
  split at hx
  case isFalse=>cases hx
  rename_i hc2
  have hft:b∈ft:=by cases hx;simp
  rw[h b hft,hb]
  simp only
  rw[if_pos hc2];exact hx
 |slice k x lo hi=>
  simp only[xval] at hx ⊢
  cases hp:slLen H (ρ x) with
  |none=>rw[hp] at hx;cases hx
  |some n=>
   have hft:∀ b,b∈slFt (ρ x)→b∈ft:=by
    intro b hb
    rw[hp] at hx
    split at hx
    case h_2=>cases hx
    split at hx
    case isFalse=>cases hx
    split at hx
    ·cases hx;exact hb
    ·cases hu:ρ x<;>rw[hu] at hb hx<;>simp[slFt] at hb
     subst hb
     simp only at hx
     split at hx<;>cases hx
     simp
   have hp':slLen H' (ρ x)=some n:=by rw[zgn fun b hb=>h b (hft b hb),hp]
   rw[hp] at hx
   rw[hp']
   split at hx
   case h_2=>cases hx
   rename_i h1 h2 h3
   cases h1
   try rw[h2,h3]
   try simp only
   split at hx
   case isFalse=>cases hx
   rename_i hc
   rw[if_pos hc]
   split at hx
   ·rename_i h0;rw[if_pos h0];exact hx
   ·rename_i h0
    rw[if_neg h0]
    cases hu:ρ x<;>rw[hu] at hx<;>(try simp only at hx ⊢)<;>first|exact hx|skip
    split at hx<;>cases hx
    rename_i ha
    rw[zbx (h _ (by simp)),if_pos ha]
 |_=>simpa only[xval] using hx
end
section
variable {P:Program} {W:World} {L:Nat→Prop} {μ:Mu} {H:List AB} {C:Cfg} {tm:List AV} {a:Act}

theorem zgy {z:List AV}(hz:0<z.length):∀ {n i:Nat} {x:AV},(List.replicate n z).flatten[i]?=some x→i<n * z.length∧z[i % z.length]?=some x
 |0,i,x,h=>by simp at h
 |n+1,i,x,h=>by
  rw[List.replicate_succ,List.flatten_cons] at h
  by_cases hi:i<z.length
  ·rw[List.getElem?_append_left hi] at h
   rw[Nat.mod_eq_of_lt hi,Nat.add_mul]
   exact ⟨by omega,h⟩
  ·rw[List.getElem?_append_right (by omega)] at h
   obtain ⟨h1,h2⟩:=zgy hz h
   refine ⟨by rw[Nat.add_mul];omega,?_⟩
   rwa [Nat.mod_eq_sub_mod (by omega)]
theorem zmt {z:List AV}{zc:Array Value}(hz:0<z.length)(hv:VL W L μ z zc.toList)(n:Nat):VL W L μ (List.replicate n z).flatten ((Array.range (n * z.length)).map (fun i=>zc[i % zc.size]!)).toList:=by
 have hs:zc.size=z.length:=by have:=hv.1;simpa using this.symm
 refine ⟨by simp,fun i x r hx hr=>?_⟩
 obtain ⟨h1,h2⟩:=zgy hz hx
 obtain ⟨q,h3,h4⟩:=hv.get h2
 have:r=q:=by
  rw[Array.getElem?_toList,Array.getElem?_map] at hr
  rw[Array.getElem?_toList] at h3
  have hlt:i % z.length<zc.size:=by rw[hs];exact Nat.mod_lt _ hz
  simp[h1,hs] at hr
  rw[Array.getElem?_eq_getElem hlt] at h3
  rw[getElem!_pos zc _ hlt] at hr
  exact hr.symm.trans (Option.some.inj h3)
 rw[this];exact h4

def Names (mk:Nat→AV)(n:Nat)(obj:Obj)(x:Value):Prop:=∀ (W':World) (L':Nat→Prop) (μ':Mu) (j:Nat),μ' j=.at n→W'.heap[n]?=some obj→VR W' L' μ' (mk j) x

theorem zkf {n:Nat}{obj:Obj}:Names (fun j=>.ptr j 0) n obj (.pointer (some ⟨n,0,none⟩)):=fun _ _ _ _ h _=>.ptr h
theorem ztz {n:Nat}{obj:Obj}:Names (fun j=>.map j) n obj (.map (some n)):=fun _ _ _ _ h _=>.map h
theorem ziy {n m k cap:Nat}{rs:Array Value}{t:TypeId}(h1:m≤cap)(h2:cap * k≤rs.size):Names (fun j=>.sl j 0 m k) n (.cells rs t (0,0)) (.slice (some ⟨n,0,none⟩) m cap):=
 fun _ _ _ _ h hw=>.sl h h1 hw (by simpa using h2)

theorem zgk {cs:List AV}{rs:Array Value}{t:TypeId}(h:VL W L μ cs rs.toList):BR P W L μ (.cells cs) (.cells rs t (0,0)):=
 .cells (by have:=h.1;simp at this;omega) fun i x r hx hr=>h.2 i x r hx (by simpa using hr)

theorem zka (he:Env C W L μ tm a){k:Nat}:∀ {ps:List (Nat × Operand)} {qs:List (Nat × Opnd)},partsS ps=some qs →
  PR W L μ (fun i=>some (i * k,k)) (qs.map fun p=>(p.1 * k,k,val C tm p.2)) (ps.map fun p=>(p.1,a.eval p.2))
 |[],qs,h=>by cases h;exact .nil
 |(i,x)::l,qs,h=>by
   unfold partsS at h
   split at h
   ·rename_i x' l' h1 h2
    cases h
    exact .cons rfl (zat he h1) (zka he h2)
   ·cases h

theorem zkv:∀ {ps:List (Nat × Nat × AV)} {cs out:List AV},fillA cs ps=some out→out.length=cs.length
 |[],cs,out,h=>by cases h;rfl
 |(off,size,x)::ps,cs,out,h=>by
   unfold fillA at h
   split at h
   ·split at h
    ·rename_i hc
     rw[zkv h]
     unfold setAt
     simp;omega
    ·cases h
   ·cases h

theorem zze {o:Oper}{k:AK}(hc:compOp P o=some k)(he:Env C W L μ tm a){blk:AB}{mk:Nat→AV}(hx:xnew (val C tm) k=some (blk,mk)):
  ∃ obj x,(execOp a.eval o).run P W=.ok (.value x) (W.alloc obj)∧BR P W L μ blk obj∧Names mk W.heap.size obj x:=by
 unfold compOp at hc
 cases ho:o.op<;>rw[ho] at hc<;>simp only at hc
 case alloc t=>
  cases h:zeroT P t with
  |none=>rw[h] at hc;cases hc
  |some z=>
   rw[h] at hc;cases hc
   simp only[xnew] at hx;cases hx
   obtain ⟨i,v,h1,h2,h3⟩:=zes (W:=W) (L:=L) (μ:=μ) h
   refine ⟨.cells v.cells t,.pointer (some ⟨W.heap.size,0,none⟩),?_,zgk h3,zkf⟩
   simp[execOp,ho,Instr.alloc,zeroValue,typeInfo,h1,h2,newVar,newRow]
 case box t x=>
  cases h:opnd x with
  |none=>rw[h] at hc;cases hc
  |some x'=>
   rw[h] at hc;cases hc
   simp only[xnew] at hx;cases hx
   have e1:=zat he h
   refine ⟨.cells (a.eval x).cells t,.pointer (some ⟨W.heap.size,0,none⟩),?_,?_,zkf⟩
   ·simp[execOp,ho,Instr.box,newVar,newRow]
   ·cases hcs:cellsOf (val C tm x') with
    |none=>exact .cells (Nat.zero_le _) fun i x r hx=>by simp at hx
    |some cs=>exact zgk (zfs e1 hcs)
 case buildSlice t len parts=>
  split at hc
  ·rename_i e k' by' hu
   split at hc
   ·rename_i z ps hz hps
    split at hc<;>cases hc
    rename_i hcond
    obtain ⟨c1,c2,c3⟩:=hcond
    obtain ⟨u1,u2,i,hi,hik,hib⟩:=zdq hu
    obtain ⟨i',zv,g1,g2,g3⟩:=zes (W:=W) (L:=L) (μ:=μ) hz
    rw[hi] at g1;cases g1
    simp only[xnew] at hx
    cases hf:fillA (List.replicate len z).flatten (ps.map fun p=>(p.1 * k',k',val C tm p.2)) with
    |none=>rw[hf] at hx;cases hx
    |some cs=>
     rw[hf] at hx;cases hx
     have hpr:=zka (k:=k') he hps
     have hlen:cs.length=len * k':=by rw[zkv hf];simp[c2]
     have hmap:(parts.map fun (i,x)=>(i,a.eval x)).toList=parts.toList.map fun p=>(p.1,a.eval p.2):=by simp
     by_cases h0:len * k'=0
     ·have hl0:len=0:=by rcases Nat.mul_eq_zero.1 h0 with h|h;exact h;omega
      subst hl0
      obtain ⟨rs,f1,f2⟩:=zjc (rs:=#[]) hpr (by simpa using VL.nil) hf
      refine ⟨.cells rs e,.slice (some ⟨W.heap.size,0,none⟩) 0 0,?_,zgk f2,ziy (Nat.le_refl _) (by omega)⟩
      have f1':Instr.fill (fun i=>some (i * k',k')) #[] (parts.toList.map fun p=>(p.1,a.eval p.2))=some rs:=f1
      have hr0:∀ f:Nat→Value,(Array.range 0).map f=#[]:=fun f=>by simp
      simp[execOp,ho,Instr.buildSlice,run_underlying u1,zbb u2,hr0,f1',newRow]
     ·have hzl:0<z.length:=by omega
      have hz0:=zmt hzl g3 len
      rw[c2] at hz0
      obtain ⟨rs,f1,f2⟩:=zjc hpr hz0 hf
      have hrs:rs.size=len * k':=by have:=f2.1;simp at this;omega
      refine ⟨.cells rs e,.slice (some ⟨W.heap.size,0,none⟩) len len,?_,zgk f2,ziy (Nat.le_refl _) (by omega)⟩
      have:=run_buildSlice (P:=P) W t e len (parts.map fun (i,x)=>(i,a.eval x)) rs i zv u1 hi g2 (by rw[hik];omega) (by rw[hik];exact h0) (by rw[hik,hmap];exact f1)
      simp[execOp,ho,this]
   ·cases hc
  ·cases hc
 case makeMap t r=>
  cases r<;>simp only at hc<;>cases hc
  simp only[xnew] at hx;cases hx
  refine ⟨.map #[] 0,.map (some W.heap.size),by simp[execOp,ho,Instr.makeMap],.map ⟨fun i e h=>by simp at h,fun i j e f _ h=>by simp at h⟩ (by simp) fun i k v e h=>by simp at h,ztz⟩
 case makeSlice t l c=>
  split at hc
  ·rename_i e k' by' hu
   split at hc
   ·rename_i z l' c' hz hl hcap
    split at hc<;>cases hc
    rename_i hcond
    obtain ⟨c1,c2,c3⟩:=hcond
    obtain ⟨u1,u2,i,hi,hik,hib⟩:=zdq hu
    obtain ⟨i',zv,g1,g2,g3⟩:=zes (W:=W) (L:=L) (μ:=μ) hz
    rw[hi] at g1;cases g1
    have e1:=zat he hl
    have e2:=zat he hcap
    simp only[xnew] at hx
    split at hx
    ·rename_i k1 n k2 m hn hm
     split at hx<;>cases hx
     rename_i hb
     obtain ⟨b1,b2,b3⟩:=hb
     rw[hn] at e1;rw[hm] at e2
     have hbound:bound=1048576:=rfl
     rw[hbound] at b3
     have hw:IntKind.i64.wrap n=n:=IntWalk.i64_in _ (by omega)
     have hwm:IntKind.i64.wrap m=m:=IntWalk.i64_in _ (by omega)
     have hzl:0<z.length:=by omega
     have hz0:=zmt hzl g3 m.toNat
     rw[c1] at hz0
     have hby:i.bytes * m.toNat≤134217728 * 1048576:=Nat.mul_le_mul (by omega) (by omega)
     have hbig:¬ ((i.bytes:Int) * m > 2 ^ 48):=by
      have:(i.bytes:Int) * m=((i.bytes * m.toNat:Nat):Int):=by simp;rw[Int.max_eq_left (by omega)]
      rw[this];omega
     have hsplit:(List.replicate m.toNat z).flatten=(List.replicate n.toNat z).flatten++(List.replicate (m.toNat - n.toNat) z).flatten:=by
      rw[← List.flatten_append,List.replicate_append_replicate,show n.toNat+(m.toNat - n.toNat)=m.toNat by omega]
     have hbr:BR P W L μ (.cells (List.replicate n.toNat z).flatten) (.cells ((Array.range (m.toNat * k')).map fun q=>zv.cells[q % zv.cells.size]!) e (0,0)):=by
      refine .cells ?_ fun q x r hq hr=>hz0.2 q x r (by rw[hsplit,List.getElem?_append_left (List.getElem?_eq_some_iff.1 hq).1];exact hq) (by rw[Array.getElem?_toList];exact hr)
      have hl:=hz0.1
      rw[hsplit,List.length_append] at hl
      simp only[Array.length_toList] at hl
      omega
     refine ⟨.cells ((Array.range (m.toNat * k')).map fun q=>zv.cells[q % zv.cells.size]!) e,.slice (some ⟨W.heap.size,0,none⟩) n.toNat m.toNat,?_,hbr,ziy (by omega) (by simp)⟩
     have hneg:¬ n<0:=by omega
     have hnm:¬ m<n:=by omega
     have hmneg:¬ m<0:=by omega
     by_cases h0:m.toNat * k'=0
     ·have hl0:m.toNat=0:=by rcases Nat.mul_eq_zero.1 h0 with h|h;exact h;omega
      have hm0:m=0:=by omega
      have hn0:n=0:=by omega
      subst hm0 hn0
      have hr0:∀ f:Nat→Value,(Array.range 0).map f=#[]:=fun f=>by simp
      simp[execOp,ho,Instr.makeSlice,run_underlying u1,vr_int e1,vr_int e2,asInt,asIntOf,typeInfo,hi,hw,zbb u2,hr0,newRow]
     ·simp[execOp,ho,Instr.makeSlice,run_underlying u1,vr_int e1,vr_int e2,asInt,asIntOf,typeInfo,hi,hw,hwm,hneg,hnm,hmneg,zbb u2,h0,zeroValue,g2,newRow]
      intro hh;omega
    ·cases hx
   ·cases hc
  ·cases hc
 case unOp op t x=>cases op<;>simp only at hc<;>first|(cases hc;done)|(obtain ⟨y,_,rfl⟩:=Option.map_eq_some_iff.1 hc;simp[xnew] at hx;done)
 all_goals (exfalso;revert hc;(repeat' split)<;>intro hc<;>first|contradiction|(cases hc;done)|(cases hc;simp[xnew] at hx;done)|(obtain ⟨y,_,rfl⟩:=Option.map_eq_some_iff.1 hc;simp[xnew] at hx;done))
end
section
variable {P:Program} {E:Ent} {tc:List Nat} {W:World} {L:Nat→Prop} {μ:Mu} {H:List AB} {C:Cfg} {tm:List AV} {a:Act}

def NX (nx:Next)(x:Value):Prop:=nx=.value x∨(nx=.skip∧x=undef)

theorem zhs {g:Nat}{cur cs:Array Value}{t:TypeId}{fz:Nat × Nat}(hg:W.heap[g]?=some (.cells cur t fz)):Upd g (.cells cs t fz) W (W.setRow g cs):=by
 refine ⟨by simp[World.setRow],setRow_heap W g cur cs t fz hg,fun b hb=>?_,rfl,rfl,rfl⟩
 simp only[World.setRow,Array.getElem?_modify]
 rw[if_neg (fun h=>hb h.symm)]

theorem zjl {cs:List AV}{rs:Array Value}{t:TypeId}(h:BR P W L μ (.cells cs) (.cells rs t (0,0))):VL W L μ cs (rs.toList.take cs.length):=by
 cases h with
 | cells h1 h2 => exact ⟨by simp; omega, fun i x r hx hr => by
   have hi:i<cs.length:=(List.getElem?_eq_some_iff.1 hx).1
   rw[List.getElem?_take_of_lt hi] at hr
   exact h2 i x r hx (by simpa using hr)⟩
theorem zfe {cs:List AV}{xs ys:List Value}{t:TypeId}(h:VL W L μ cs xs):BR P W L μ (.cells cs) (.cells (xs++ys).toArray t (0,0)):=by
 have hl:=h.1
 refine .cells (by simp;omega) fun i x r hx hr=>?_
 have hi:i<cs.length:=(List.getElem?_eq_some_iff.1 hx).1
 rw[List.getElem?_toArray,List.getElem?_append_left (by omega)] at hr
 exact h.2 i x r hx hr

theorem zjr (rs vs:List Value)(n off:Nat)(h1:off+vs.length≤n)(_h2:n≤rs.length):
  rs.take off++vs++rs.drop (off+vs.length)=((rs.take n).take off++vs++(rs.take n).drop (off+vs.length))++rs.drop n:=by
 rw[List.take_take,Nat.min_eq_left (by omega),List.append_assoc,List.append_assoc,List.append_assoc,List.drop_take]
 congr 2
 have:rs.drop (off+vs.length)=(rs.drop (off+vs.length)).take (n - (off+vs.length))++(rs.drop (off+vs.length)).drop (n - (off+vs.length)):=(List.take_append_drop _ _).symm
 rw[List.drop_drop] at this
 rw[show off+vs.length+(n - (off+vs.length))=n by omega] at this
 exact this

theorem Hp.write (h:Hp P E tc W L μ H){b B:Nat}{cs l:List AV}(hb:H[b]?=some (.cells cs))(hm:μ b=.at B){vs:List Value}(hv:VL W L μ l vs)(h1:∀ u∈vs,u.oneCell'=true){off:Nat}(hl:off+l.length≤cs.length):
  ∃ W',(storeCells ⟨B,off,none⟩ vs).run P W=.ok () W'∧Hp P E ([b].filter (·<E.pin)++tc) W' L μ (H.set b (.cells (setAt cs off l)))∧Later L L W W':=by
 obtain ⟨hB,hlt,blk,o,e1,e2,e3⟩:=h.sim.live b B hm
 rw[hb] at e1;cases e1
 obtain ⟨rs,t,rfl⟩:∃ rs t,o=.cells rs t (0,0):=by cases e3 with|@cells _ rs t _ _=>exact ⟨rs,t,rfl⟩
 have hpre:=zjl e3
 have hsz:cs.length≤rs.size:=by cases e3 with|cells h1 _=>exact h1
 have hvl:=hv.1
 have hrun:=run_storeCells_at P B off t vs 0 rs W e2 (by simpa using (by omega:off+vs.length≤rs.size)) h1
 refine ⟨_,hrun,?_⟩
 have e:=zjr rs.toList vs cs.length off (by omega) (by simpa using hsz)
 simp only[Nat.add_zero]
 rw[e]
 exact h.put hm e2 (zhs e2) (.ofCells (fun rs' t' f hc=>by cases hc;exact ⟨_,rfl,by simp;omega⟩) fun _ _=>by simp) (zfe (hpre.setAt hv off))

theorem zwz {t k:Nat}{x y:Operand}{x' y':Opnd}(h:Hp P E tc W L μ H)(he:Env C W L μ tm a)(hsz:sizeT P t=some k)(h1:opnd x=some x')(h2:opnd y=some y'){r:XR}(hx:xeff H (val C tm) (.store k x' y')=some r):
  ∃ W',(Instr.storeAt t (a.eval x) (a.eval y)).run P W=.ok () W'∧r.v=.unk∧Hp P E (r.tc.filter (·<E.pin)++tc) W' L μ r.hp∧Later L L W W':=by
 have e1:=zat he h1
 have e2:=zat he h2
 simp only[xeff] at hx
 split at hx
 ·rename_i b off l hb hl
  rw[hb] at e1
  split at hx
  ·rename_i cs hcs
   split at hx<;>cases hx
   rename_i hc
   obtain ⟨c1,c2,c3⟩:=hc
   obtain ⟨B,hm,g1,_⟩:=rd_ptr h.sim e1 hcs
   have hv:=zfs e2 hl
   obtain ⟨W',f1,f2,f3⟩:=h.write hcs hm hv (zmw c3 hv) c2
   refine ⟨W',?_,rfl,f2,f3⟩
   have hs:(a.eval y).cells.size=k:=by have:=hv.1;simp at this;omega
   simp[Instr.storeAt,g1,Instr.sureAddr,storeVar,zbb hsz,hs,f1]
  ·cases hx
 ·cases hx

theorem zjx {kn:EK}{key v:AV}:∀ {es es':List (AV × AV)},putA kn key v es=some es'→(findA kn key es=some none∧es'=es++[(key,v)])∨(∃ i k u,es[i]?=some (k,u)∧findA kn key es=some (some u)∧es'=es.set i (key,v)∧aeqK kn key k=some true∧∀ j k' u',j<i→es[j]?=some (k',u')→aeqK kn key k'=some false)
 |[],es',h=>by cases h;exact .inl ⟨rfl,rfl⟩
 |(k,u)::es,es',h=>by
   unfold putA at h
   split at h
   ·rename_i hq
    cases h
    exact .inr ⟨0,k,u,rfl,by simp[findA,hq],rfl,hq,fun j _ _ hj=>by omega⟩
   ·rename_i hq
    cases hr:putA kn key v es with
    |none=>rw[hr] at h;cases h
    |some es2=>
     rw[hr] at h;cases h
     rcases zjx hr with ⟨h1,rfl⟩|⟨i,k',u',h1,h2,rfl,h3,h4⟩
     ·exact .inl ⟨by simp[findA,hq,h1],rfl⟩
     ·refine .inr ⟨i+1,k',u',by simpa using h1,by simp[findA,hq,h2],by simp,h3,fun j k2 u2 hj hjk=>?_⟩
      cases j with
      |zero=>simp at hjk;obtain ⟨rfl,rfl⟩:=hjk;exact hq
      |succ j=>exact h4 j k2 u2 (by omega) (by simpa using hjk)
   ·cases h

theorem zem {n:Nat}:∀ {s:List Bool} {l m:List AV} {xs ys:List Value},aeqS s l m=some true→VL W L μ l xs→VL W L μ m ys→((ys.zip xs).all fun (x,y)=>Instr.sameBits n x y)=true
 |s,l,m,xs,ys,h,hx,hy=>by
  unfold aeqS at h
  split at h
  ·cases ys with
   |nil=>rfl
   |cons y ys=>have:=hy.1;simp at this
  ·rename_i s k p l k' q m
   split at h
   case isFalse=>cases h
   rename_i hk
   cases hr:aeqS s l m with
   |none=>rw[hr] at h;cases h
   |some c=>
    rw[hr] at h
    simp at h
    obtain ⟨h1,rfl⟩:=h
    cases xs with
    |nil=>have:=hx.1;simp at this
    |cons x xs=>cases ys with
     |nil=>have:=hy.1;simp at this
     |cons y ys=>
      have ih:=zem (n:=n) hr hx.tail hy.tail
      simp only[List.zip_cons_cons,List.all_cons,Bool.and_eq_true]
      refine ⟨?_,ih⟩
      rw[vr_int hx.head,vr_int hy.head]
      cases n<;>simp[Instr.sameBits,hk,h1]
  ·rename_i s p l q m
   cases hr:aeqS s l m with
   |none=>rw[hr] at h;cases h
   |some c=>
    rw[hr] at h
    simp at h
    obtain ⟨h1,rfl⟩:=h
    cases xs with
    |nil=>have:=hx.1;simp at this
    |cons x xs=>cases ys with
     |nil=>have:=hy.1;simp at this
     |cons y ys=>
      have ih:=zem (n:=n) hr hx.tail hy.tail
      simp only[List.zip_cons_cons,List.all_cons,Bool.and_eq_true]
      refine ⟨?_,ih⟩
      rw[zbf hx.head,zbf hy.head]
      cases n<;>simp[Instr.sameBits,h1]
  ·cases h

theorem zgu {t:Nat}{kn:EK}(hk:keyT P t=some kn){x y:AV}(h:aeqK kn x y=some true){vx vy:Value}(hx:VR W L μ x vx)(hy:VR W L μ y vy):(Instr.keyThatStays vy vx).run P W=.ok vx W:=by
 have hs:Instr.sameBits (9999+1) vy vx=true:=by
  unfold aeqK at h
  split at h
  all_goals first
   |(exfalso;unfold keyT at hk;revert hk;(repeat' split)<;>intro hk<;>first|contradiction|(cases hk;done)|(obtain ⟨y,_,h0⟩:=Option.map_eq_some_iff.1 hk;cases h0;done))
   |(rw[zbf hx,zbf hy];cases h;rename_i h0;simp[Instr.sameBits] at *;exact h0.symm)
   |skip
  ·rw[zbf hx,zbf hy];simp at h;simp[Instr.sameBits,h]
  ·split at h
   ·rename_i hkk
    subst hkk
    rw[vr_int hx,vr_int hy];simp at h;simp[Instr.sameBits,h]
   ·cases h
  ·rename_i s l m
   obtain ⟨xs,rfl,hxs⟩:=vr_agg hx
   obtain ⟨ys,rfl,hys⟩:=vr_agg hy
   have hl:=zcm h
   have:=zem (n:=9999) h hxs hys
   simp only[Instr.sameBits]
   simp[this,hxs.1.symm,hys.1.symm,hl.1,hl.2]
 have hs':Instr.sameBits 10000 vy vx=true:=hs
 simp[Instr.keyThatStays,hs']

theorem zee {es:Array MapEntry}{n:Int}{i:Nat}:bornAt es n=some i↔∃ e:MapEntry,es[i]?=some e∧(e.born:Int)=n∧∀ (j:Nat) (f:MapEntry),j<i→es[j]?=some f→(f.born:Int)≠n:=by
 unfold bornAt
 rw[Array.findIdx?_eq_some_iff_getElem]
 constructor
 ·rintro ⟨h,h1,h2⟩
  refine ⟨es[i],Array.getElem?_eq_getElem h,by simpa using h1,fun j f hj hf=>?_⟩
  have hjl:j<es.size:=by omega
  rw[Array.getElem?_eq_getElem hjl] at hf
  cases hf
  simpa using h2 j hj
 ·rintro ⟨e,h1,h2,h3⟩
  obtain ⟨h,rfl⟩:=Array.getElem?_eq_some_iff.1 h1
  exact ⟨h,by simpa using h2,fun j hj=>by simpa using h3 j _ hj (Array.getElem?_eq_getElem (by omega))⟩
theorem zlb {es:Array MapEntry}{clk:Nat}(h:Born es clk){e:MapEntry}(he:e.born=clk):Born (es.push e) (clk+1):=by
 refine ⟨fun i f hf=>?_,fun i j f g hij hf hg=>?_⟩
 ·rw[Array.getElem?_push] at hf
  split at hf
  ·cases hf;omega
  ·have:=h.1 i f hf;omega
 ·rw[Array.getElem?_push] at hf hg
  split at hf
  ·rename_i hi
   split at hg
   ·omega
   ·have:=(Array.getElem?_eq_some_iff.1 hg).1;omega
  ·split at hg
   ·cases hg;have:=h.1 i f hf;omega
   ·exact h.2 i j f g hij hf hg
theorem zhl {es:Array MapEntry}{e:MapEntry}{n:Int}{i:Nat}(h:bornAt es n=some i):bornAt (es.push e) n=some i:=by
 rw[zee] at h ⊢
 obtain ⟨f,h1,h2,h3⟩:=h
 have hi:i<es.size:=(Array.getElem?_eq_some_iff.1 h1).1
 refine ⟨f,by rw[Array.getElem?_push,if_neg (by omega)];exact h1,h2,fun j g hj hg=>?_⟩
 rw[Array.getElem?_push,if_neg (by omega)] at hg
 exact h3 j g hj hg
theorem zrg {es:Array MapEntry}{clk:Nat}(h:Born es clk){e:MapEntry}(he:e.born=clk):bornAt (es.push e) clk=some es.size:=by
 rw[zee]
 refine ⟨e,by simp,by rw[he],fun j f hj hf=>?_⟩
 rw[Array.getElem?_push,if_neg (by omega)] at hf
 have:=h.1 j f hf;omega
theorem zrf {es:Array MapEntry}{clk:Nat}(h:Born es clk){i:Nat}{e:MapEntry}(he:es[i]?=some e):bornAt es e.born=some i:=by
 rw[zee]
 refine ⟨e,he,rfl,fun j f hj hf=>?_⟩
 have:=h.2 j i f e hj hf he;omega
theorem zfm {es:Array MapEntry}{j:Nat}{g:MapEntry→MapEntry}(i:Nat):(es.modify j g)[i]?=(es[i]?).map fun e=>if j=i then g e else e:=by
 rw[Array.getElem?_modify]
 split<;>simp
theorem zeq {es:Array MapEntry}{clk:Nat}(h:Born es clk){j:Nat}{g:MapEntry→MapEntry}(hg:∀ e,(g e).born=e.born):Born (es.modify j g) clk:=by
 have hb:∀ (i:Nat) (f:MapEntry),(es.modify j g)[i]?=some f→∃ e:MapEntry,es[i]?=some e∧e.born=f.born:=fun i f hf=>by
  rw[zfm] at hf
  obtain ⟨e,h1,h2⟩:=Option.map_eq_some_iff.1 hf
  exact ⟨e,h1,by rw[← h2];split<;>simp only[hg]⟩
 refine ⟨fun i f hf=>?_,fun i k f g' hik hf hg'=>?_⟩
 ·obtain ⟨e,h1,h2⟩:=hb i f hf
  rw[← h2];exact h.1 i e h1
 ·obtain ⟨e,h1,h2⟩:=hb i f hf
  obtain ⟨e',h1',h2'⟩:=hb k g' hg'
  rw[← h2,← h2'];exact h.2 i k e e' hik h1 h1'
theorem zcl {es:Array MapEntry}{j:Nat}{g:MapEntry→MapEntry}(hg:∀ e,(g e).born=e.born){n:Int}{i:Nat}(h:bornAt es n=some i):bornAt (es.modify j g) n=some i:=by
 rw[zee] at h ⊢
 obtain ⟨f,h1,h2,h3⟩:=h
 refine ⟨if j=i then g f else f,by rw[zfm,h1];rfl,by rw[← h2];split<;>simp[hg],fun q r hq hr=>?_⟩
 rw[zfm] at hr
 obtain ⟨e,e1,e2⟩:=Option.map_eq_some_iff.1 hr
 have:=h3 q e hq e1
 rw[← e2];split<;>simpa [hg] using this
theorem zgp {es es':Array MapEntry}{clk clk':Nat}(h:∀ (n:Int) (i:Nat),bornAt es n=some i→bornAt es' n=some i):Shp (.map es clk) (.map es' clk'):=by
 refine ⟨fun _ _ _ e=>?_,fun es0 clk0 e=>?_⟩
 ·cases e
 ·cases e;exact ⟨_,_,rfl,h⟩

theorem br_map {es:List (AV × AV)}{res:Array MapEntry}{clk:Nat}(hb:Born res clk)(h:ER W L μ es res.toList):BR P W L μ (.map es) (.map res clk):=by
 have len:∀ {es:List (AV × AV)} {rs:List MapEntry},ER W L μ es rs→es.length=rs.length:=by
  intro es
  induction es with
  |nil=>intro rs h;cases rs with
   |nil=>rfl
   |cons _ _=>exact h.elim
  |cons p es ih=>intro rs h;cases rs with
   |nil=>exact h.elim
   |cons r rs=>simp[ih h.2.2]
 have get:∀ {es:List (AV × AV)} {rs:List MapEntry},ER W L μ es rs→∀ (i:Nat) (k v:AV) (e:MapEntry),es[i]?=some (k,v)→rs[i]?=some e→VR W L μ k e.key∧VR W L μ v e.val:=by
  intro es
  induction es with
  |nil=>intro rs _ i k v e h;simp at h
  |cons p es ih=>intro rs h i k v e h1 h2;cases rs with
   |nil=>exact h.elim
   |cons r rs=>
    cases i with
    |zero=>simp at h1 h2;subst h1 h2;exact ⟨h.1,h.2.1⟩
    |succ i=>exact ih h.2.2 i k v e (by simpa using h1) (by simpa using h2)
 exact .map hb (by simpa using len h) fun i k v e h1 h2=>get h i k v e h1 (by simpa using h2)
theorem ER.append {es:List (AV × AV)}{k v:AV}{e:MapEntry}(hk:VR W L μ k e.key)(hv:VR W L μ v e.val):∀ {rs:List MapEntry},ER W L μ es rs→ER W L μ (es++[(k,v)]) (rs++[e]):=by
 induction es with
 |nil=>intro rs h;cases rs with
  |nil=>exact ⟨hk,hv,trivial⟩
  |cons _ _=>exact h.elim
 |cons p es ih=>intro rs h;cases rs with
  |nil=>exact h.elim
  |cons r rs=>exact ⟨h.1,h.2.1,ih h.2.2⟩
theorem ER.set {es:List (AV × AV)}{k v:AV}{e:MapEntry}(hk:VR W L μ k e.key)(hv:VR W L μ v e.val):∀ {rs:List MapEntry} (i:Nat),ER W L μ es rs→ER W L μ (es.set i (k,v)) (rs.set i e):=by
 induction es with
 |nil=>intro rs i h;cases rs with
  |nil=>trivial
  |cons _ _=>exact h.elim
 |cons p es ih=>intro rs i h;cases rs with
  |nil=>exact h.elim
  |cons r rs=>
   cases i with
   |zero=>exact ⟨hk,hv,h.2.2⟩
   |succ i=>exact ⟨h.1,h.2.1,ih i h.2.2⟩

theorem zcf {r:Nat}{o o':Obj}(h:W.heap[r]?=some o)(hn:∀ c t f,o≠.cells c t f):(setObj r o').run P W=.ok () { W with heap:=W.heap.setIfInBounds r o' }∧Upd r o' W { W with heap:=W.heap.setIfInBounds r o' }:=by
 have hlt:r<W.heap.size:=(Array.getElem?_eq_some_iff.1 h).1
 refine ⟨?_,by simp,by simp[hlt],fun b hb=>by simp[Ne.symm hb],rfl,rfl,rfl⟩
 cases o<;>first|exact absurd rfl (hn _ _ _)|simp[setObj,Sem.run,h]

theorem zuj {t k e:Nat}{kn:EK}{m key y:Operand}{m' key' y':Opnd}(h:Hp P E tc W L μ H)(he:Env C W L μ tm a)(hu:P.underlying t=some (.map k e))(hk:keyT P k=some kn)(h1:opnd m=some m')(h2:opnd key=some key')(h3:opnd y=some y')
  {r:XR} (hx:xeff H (val C tm) (.mapupd kn m' key' y')=some r):
  ∃ W',(Instr.mapUpdate t (a.eval m) (a.eval key) (a.eval y)).run P W=.ok () W'∧r.v=.unk∧Hp P E (r.tc.filter (·<E.pin)++tc) W' L μ r.hp∧Later L L W W':=by
 have e1:=zat he h1
 have e2:=zat he h2
 have e3:=zat he h3
 simp only[xeff] at hx
 split at hx
 ·rename_i b hb
  rw[hb] at e1
  split at hx
  ·rename_i es hes
   split at hx
   case isFalse=>cases hx
   rename_i hko
   cases hp:putA kn (val C tm key') (val C tm y') es with
   |none=>rw[hp] at hx;cases hx
   |some es'=>
    rw[hp] at hx;cases hx
    obtain ⟨B,res,clk,hm,g2,g3,g4,g5,g6⟩:=map_at h.sim e1 hes
    have hg:(getObj B).run P W=.ok (.map res clk) W:=by simp[getObj,Sem.run,g3]
    have hc:=zep hk hko e2 (P:=P) false
    rcases zjx hp with ⟨f1,rfl⟩|⟨i,k',u',f1,f2,rfl,f3,f4⟩
    ·obtain ⟨r',p1,p2⟩:=zdb (P:=P) hk hko e2 g5 f1
     cases r' with
     |some q=>exact p2.elim
     |none=>
      obtain ⟨s1,s2⟩:=zcf (P:=P) (o':=.map (res.push { key:=a.eval key,val:=a.eval y,born:=clk }) (clk+1)) g3 (fun _ _ _=>by simp)
      refine ⟨_,?_,rfl,h.put hm g3 s2 (zgp fun n i hn=>zhl hn) (br_map (zlb g6 rfl) ?_)⟩
      ·simp[Instr.mapUpdate,run_underlying hu,g2,hg,hc,p1,s1]
      ·rw[Array.toList_push];exact ER.append e2 e3 g5
    ·obtain ⟨r',p1,p2⟩:=zdb (P:=P) hk hko e2 g5 f2
     cases r' with
     |none=>exact p2.elim
     |some q=>
      obtain ⟨j,x⟩:=q
      obtain ⟨_,_,⟨k2,q1,q2⟩,q3⟩:=p2
      simp only[Nat.sub_zero] at q1 q3
      have hij:j=i:=by
       rcases Nat.lt_trichotomy j i with hlt|heq|hgt
       ·have:=f4 j k2 _ hlt q1;rw[q2] at this;cases this
       ·exact heq
       ·have:=q3 i hgt k' u' f1;rw[f3] at this;cases this
      subst hij
      have hjl:j<res.size:=by rw[← g4];exact (List.getElem?_eq_some_iff.1 f1).1
      have hrj:res[j]?=some res[j]:=Array.getElem?_eq_getElem hjl
      have hkey:VR W L μ k' res[j].key:=by
       have:=br_map (P:=P) g6 g5
       cases this with
       |map _ _ hh=>exact (hh j k' u' _ f1 hrj).1
      have hst:=zgu (P:=P) hk f3 e2 hkey
      obtain ⟨s1,s2⟩:=zcf (P:=P) (o':=.map (res.modify j fun e=>{ e with key:=a.eval key,val:=a.eval y }) clk) g3 (fun _ _ _=>by simp)
      refine ⟨_,?_,rfl,h.put hm g3 s2 (zgp fun n i hn=>zcl (by intro _;rfl) hn) (br_map (zeq g6 (by intro _;rfl)) ?_)⟩
      ·simp[Instr.mapUpdate,run_underlying hu,g2,hg,hc,p1,hrj,hst,s1]
      ·have:(res.modify j fun e=>{ e with key:=a.eval key,val:=a.eval y }).toList=res.toList.set j { res[j] with key:=a.eval key,val:=a.eval y }:=by
        apply List.ext_getElem?
        intro q
        rw[Array.getElem?_toList,Array.getElem?_modify,List.getElem?_set]
        by_cases hq:j=q
        ·subst hq;simp[hjl]
        ·simp[hq]
       rw[this]
       exact ER.set e2 e3 j g5
  ·cases hx
 ·cases hx

theorem zkw {kn:EK}{key z:AV}:∀ {es es':List (AV × AV)} {v:AV} {i:Nat},entA kn key z es=some (v,i,es')→(findA kn key es=some none∧v=z∧i=es.length∧es'=es++[(key,z)]) ∨
  (∃ k,es[i]?=some (k,v)∧findA kn key es=some (some v)∧es'=es.set i (key,v)∧aeqK kn key k=some true∧∀ j k' u',j<i→es[j]?=some (k',u')→aeqK kn key k'=some false)
 |[],es',v,i,h=>by cases h;exact .inl ⟨rfl,rfl,rfl,rfl⟩
 |(k,u)::es,es',v,i,h=>by
   unfold entA at h
   split at h
   ·rename_i hq
    cases h
    exact .inr ⟨k,rfl,by simp[findA,hq],rfl,hq,fun j _ _ hj=>by omega⟩
   ·rename_i hq
    cases hr:entA kn key z es with
    |none=>rw[hr] at h;cases h
    |some r=>
     obtain ⟨v2,i2,es2⟩:=r
     rw[hr] at h;cases h
     rcases zkw hr with ⟨h1,rfl,rfl,rfl⟩|⟨k',h1,h2,rfl,h3,h4⟩
     ·exact .inl ⟨by simp[findA,hq,h1],rfl,by simp,rfl⟩
     ·refine .inr ⟨k',by simpa using h1,by simp[findA,hq,h2],rfl,h3,fun j k'' u'' hj hg=>?_⟩
      cases j with
      |zero=>simp at hg;rw[← hg.1];exact hq
      |succ j=>exact h4 j k'' u'' (by simp only at hj;omega) (by simpa using hg)
   ·cases h

theorem zuk {t k e:Nat}{kn:EK}{z:AV}{m key:Operand}{m' key':Opnd}(h:Hp P E tc W L μ H)(he:Env C W L μ tm a)(hu:P.underlying t=some (.map k e))(hk:keyT P k=some kn)(hz:zeroV P e=some z)(h1:opnd m=some m')(h2:opnd key=some key')
  {r:XR} (hx:xeff H (val C tm) (.mapent kn z m' key')=some r):
  ∃ w W',(Instr.mapEntry t (a.eval m) (a.eval key)).run P W=.ok w W'∧VR W' L μ r.v w∧Hp P E (r.tc.filter (·<E.pin)++tc) W' L μ r.hp∧Later L L W W':=by
 have e1:=zat he h1
 have e2:=zat he h2
 obtain ⟨zv,hzr,hzv⟩:=zim (P:=P) (W:=W) (L:=L) (μ:=μ) hz
 simp only[xeff] at hx
 split at hx
 ·rename_i b hb
  rw[hb] at e1
  split at hx
  ·rename_i es hes
   split at hx
   case isFalse=>cases hx
   rename_i hko
   cases hp:entA kn (val C tm key') z es with
   |none=>rw[hp] at hx;cases hx
   |some q=>
    obtain ⟨v,i,es'⟩:=q
    rw[hp] at hx;cases hx
    obtain ⟨B,res,clk,hm,g2,g3,g4,g5,g6⟩:=map_at h.sim e1 hes
    have hg:(getObj B).run P W=.ok (.map res clk) W:=by simp[getObj,Sem.run,g3]
    have hc:=zep hk hko e2 (P:=P) false
    rcases zkw hp with ⟨f1,rfl,rfl,rfl⟩|⟨k',f1,f2,rfl,f3,f4⟩
    ·obtain ⟨r',p1,p2⟩:=zdb (P:=P) hk hko e2 g5 f1
     cases r' with
     |some q=>exact p2.elim
     |none=>
      obtain ⟨s1,s2⟩:=zcf (P:=P) (o':=.map (res.push { key:=a.eval key,val:=zv,born:=clk }) (clk+1)) g3 (fun _ _ _=>by simp)
      obtain ⟨q1,q2⟩:=h.put hm g3 s2 (zgp fun n i hn=>zhl hn) (br_map (zlb g6 rfl) (es:=es++[(val C tm key',v)]) (by rw[Array.toList_push];exact ER.append e2 hzv g5))
      refine ⟨.tuple #[zv,goInt clk],_,by simp[Instr.mapEntry,run_underlying hu,g2,hg,hc,p1,s1,hzr],?_,q1,q2⟩
      exact tup_ok (VL.cons (hzv.mono q2 (Ext.refl _)) (VL.cons (.stamp hm s2.at_ (by rw[g4];exact zrg g6 rfl)) VL.nil))
    ·obtain ⟨r',p1,p2⟩:=zdb (P:=P) hk hko e2 g5 f2
     cases r' with
     |none=>exact p2.elim
     |some q=>
      obtain ⟨j,x⟩:=q
      obtain ⟨q0,_,⟨k2,q1,q2⟩,q3⟩:=p2
      simp only[Nat.sub_zero] at q1 q3
      have hij:j=i:=by
       rcases Nat.lt_trichotomy j i with hlt|heq|hgt
       ·have:=f4 j k2 _ hlt q1;rw[q2] at this;cases this
       ·exact heq
       ·have:=q3 i hgt k' v f1;rw[f3] at this;cases this
      subst hij
      have hjl:j<res.size:=by rw[← g4];exact (List.getElem?_eq_some_iff.1 f1).1
      have hrj:res[j]?=some res[j]:=Array.getElem?_eq_getElem hjl
      have hkey:VR W L μ k' res[j].key∧VR W L μ v res[j].val:=by
       have:=br_map (P:=P) g6 g5
       cases this with
       |map _ _ hh=>exact hh j k' v _ f1 hrj
      have hst:=zgu (P:=P) hk f3 e2 hkey.1
      obtain ⟨s1,s2⟩:=zcf (P:=P) (o':=.map (res.modify j fun e=>{ e with key:=a.eval key }) clk) g3 (fun _ _ _=>by simp)
      obtain ⟨q4, q5⟩ := h.put hm g3 s2 (zgp fun n i hn => zcl (by intro _; rfl) hn) (br_map (zeq g6 (by intro _; rfl)) (es := es.set j (val C tm key', v)) (by
       have:(res.modify j fun e=>{ e with key:=a.eval key }).toList=res.toList.set j { res[j] with key:=a.eval key }:=by
        apply List.ext_getElem?
        intro q
        rw[Array.getElem?_toList,Array.getElem?_modify,List.getElem?_set]
        by_cases hq:j=q
        ·subst hq;simp[hjl]
        ·simp[hq]
       rw[this]
       exact ER.set (e:={ res[j] with key:=a.eval key }) e2 hkey.2 j g5))
      refine ⟨.tuple #[x,goInt res[j].born],_,by simp[Instr.mapEntry,run_underlying hu,g2,hg,hc,p1,hrj,hst,s1],?_,q4,q5⟩
      exact tup_ok (VL.cons (q0.mono q5 (Ext.refl _)) (VL.cons (.stamp hm s2.at_ (zcl (by intro _;rfl) (zrf g6 hrj))) VL.nil))
  ·cases hx
 ·cases hx

theorem zxb (hs:Sim P W L μ H){b i:Nat}{x:Value}(h:VR W L μ (.stamp b i) x){es:List (AV × AV)}(hb:H[b]?=some (.map es)):
  ∃ B res clk n,μ b=.at B∧x=.int .i64 n∧W.heap[B]?=some (.map res clk)∧bornAt res n=some i:=by
 cases h with
 |@dead _ _ _ b' h hd _=>
  simp[headRef] at h;subst h
  cases hs.dead _ _ hd hb
 |stamp h1 h2 h3=>exact ⟨_,_,_,_,h1,rfl,h2,h3⟩

theorem zyn {t:Nat}{m s y:Operand}{m' s' y':Opnd}(h:Hp P E tc W L μ H)(he:Env C W L μ tm a)(h1:opnd m=some m')(h2:opnd s=some s')(h3:opnd y=some y')
  {r:XR} (hx:xeff H (val C tm) (.entst m' s' y')=some r):
  ∃ W',(Instr.entryStore t (a.eval m) (a.eval s) (a.eval y)).run P W=.ok () W'∧r.v=.unk∧Hp P E (r.tc.filter (·<E.pin)++tc) W' L μ r.hp∧Later L L W W':=by
 have e1:=zat he h1
 have e2:=zat he h2
 have e3:=zat he h3
 simp only[xeff] at hx
 split at hx
 case h_2=>cases hx
 rename_i b b' i hb hs
 rw[hb] at e1;rw[hs] at e2
 split at hx
 case isFalse=>cases hx
 rename_i hbb
 subst hbb
 split at hx
 case h_2=>cases hx
 rename_i es hes
 split at hx
 case h_2=>cases hx
 rename_i k u hi
 cases hx
 obtain ⟨B,res,clk,hm,g2,g3,g4,g5,g6⟩:=map_at h.sim e1 hes
 obtain ⟨B',res',clk',n,hm',k2,k3,k4⟩:=zxb h.sim e2 hes
 rw[hm] at hm';cases hm'
 rw[g3] at k3;cases k3
 have hg:(getObj B).run P W=.ok (.map res clk) W:=by simp[getObj,Sem.run,g3]
 have hjl:i<res.size:=by rw[← g4];exact (List.getElem?_eq_some_iff.1 hi).1
 have hrj:res[i]?=some res[i]:=Array.getElem?_eq_getElem hjl
 have hkey:VR W L μ k res[i].key:=by
  have:=br_map (P:=P) g6 g5
  cases this with
  |map _ _ hh=>exact (hh i k u _ hi hrj).1
 obtain ⟨s1,s2⟩:=zcf (P:=P) (o':=.map (res.modify i fun e=>{ e with val:=a.eval y }) clk) g3 (fun _ _ _=>by simp)
 have k4':res.findIdx? (fun e=>(e.born:Int)==n)=some i:=k4
 refine ⟨_,by simp[Instr.entryStore,g2,hg,k2,asInt,asIntOf,k4',s1],rfl,h.put hm g3 s2 (zgp fun n i hn=>zcl (by intro _;rfl) hn) (br_map (zeq g6 (by intro _;rfl)) ?_)⟩
 have:(res.modify i fun e=>{ e with val:=a.eval y }).toList=res.toList.set i { res[i] with val:=a.eval y }:=by
  apply List.ext_getElem?
  intro q
  rw[Array.getElem?_toList,Array.getElem?_modify,List.getElem?_set]
  by_cases hq:i=q
  ·subst hq;simp[hjl]
  ·simp[hq]
 rw[this]
 exact ER.set (e:={ res[i] with val:=a.eval y }) hkey e3 i g5
end
section
variable {P:Program} {E:Ent} {tc:List Nat} {W:World} {L:Nat→Prop} {μ:Mu} {H:List AB} {C:Cfg} {tm:List AV} {a:Act}

theorem zdm {k:Nat}(hk:0<k):∀ {es:List AV},(∀ (i:Nat) (e:AV),es[i]?=some e→e.cells.length=k)→(elemCells es).length=es.length * k∧∀ q x,(elemCells es)[q]?=some x→∃ e,es[q / k]?=some e∧e.cells[q % k]?=some x
 |[],_=>⟨by simp[elemCells],fun q x h=>by simp[elemCells] at h⟩
 |e::es,h=>by
  have h0:=h 0 e rfl
  obtain ⟨h1,h2⟩:=zdm hk (es:=es) fun i e he=>h (i+1) e (by simpa using he)
  refine ⟨by simp[elemCells,h1,h0,Nat.add_mul,Nat.add_comm],fun q x hx=>?_⟩
  simp only[elemCells] at hx
  by_cases hq:q<k
  ·rw[List.getElem?_append_left (by omega)] at hx
   exact ⟨e,by simp[Nat.div_eq_of_lt hq],by rw[Nat.mod_eq_of_lt hq];exact hx⟩
  ·rw[List.getElem?_append_right (by omega),h0] at hx
   obtain ⟨e',g1,g2⟩:=h2 _ _ hx
   refine ⟨e',?_,by rwa [Nat.mod_eq_sub_mod (by omega)]⟩
   rw[Nat.div_eq_sub_div hk (by omega)]
   simpa using g1

theorem zfi (hs:Sim P W L μ H){k:Nat}(hk:0<k){v:AV}{x:Value}(hv:VR W L μ v x){news:List AV}{n:Nat}(hc:slCells k H v=some news)(hn:slLen H v=some n):
  ∃ p cap,x=.slice p n cap∧news.length=n * k∧n≤cap∧(n=0∨∃ b o,p=some ⟨b,o,none⟩∧Rd W L μ news b o):=by
 unfold slCells at hc
 split at hc
 ·cases hc;cases hn
  exact ⟨none,0,zio hv,by simp,Nat.le_refl _,.inl rfl⟩
 ·rename_i k' es
  simp[slLen] at hn;subst hn
  split at hc<;>cases hc
  rename_i hk'
  cases hv with
  |dead h=>simp[headRef] at h
  |vs0=>exact ⟨_,_,rfl,by simp[elemCells],Nat.zero_le _,.inl rfl⟩
  |@vs _ _ b o cap _ rs g1 g2 g3 g4=>
   by_cases h0:es=[]
   ·subst h0;exact ⟨_,_,rfl,by simp[elemCells],Nat.zero_le _,.inl rfl⟩
   ·have hkk:k=k':=by rcases hk' with h|h;exact h;exact absurd (by simpa using h) h0
    subst hkk
    obtain ⟨f1,f2⟩:=zdm hk g2
    refine ⟨_,_,rfl,f1,g1,.inr ⟨b,o,rfl,fun q x hx=>?_⟩⟩
    obtain ⟨e,e1,e2⟩:=f2 q x hx
    refine ⟨rs (q / k) (q % k),?_,(g4 _ _ _ _ e1 e2).lift⟩
    have:=(g3 _ _ _ _ e1 e2).2
    rwa [Nat.add_assoc,show q / k * k+q % k=q by rw[Nat.mul_comm];exact Nat.div_add_mod q k] at this
 ·rename_i b off n' k'
  split at hc
  case isFalse=>cases hc
  rename_i hkk
  subst hkk
  split at hc
  ·rename_i cs hcs
   split at hc<;>cases hc
   rename_i hle
   have ha:alive H b=true:=by unfold alive;rw[hcs]
   simp[slLen,ha] at hn;subst hn
   obtain ⟨B,cap,rs,t,g1,g2,g3,g4,g5⟩:=zdf hs hv ha
   refine ⟨_,_,g2,by simp;omega,g3,?_⟩
   by_cases h0:n'=0
   ·exact .inl h0
   ·refine .inr ⟨B,off,rfl,?_⟩
    obtain ⟨_,_,blk,o,e1,e2,e3⟩:=hs.live b B g1
    rw[hcs] at e1;cases e1
    rw[g4] at e2;cases e2
    have hrd:Rd W L μ cs B 0:=fun j x hx=>by
     cases e3 with
     |cells l1 l2=>
      have hj:=(List.getElem?_eq_some_iff.1 hx).1
      exact ⟨rs[j],by simp[World.cell?,g4],l2 j x _ hx (Array.getElem?_eq_getElem (by omega))⟩
    have:=(hrd.drop off).take (n' * k)
    simpa using this
  ·cases hc
 ·cases hc

theorem zmx {news:List AV}{b o:Nat}(hp:news.all AV.plain=true)(h:Rd W L μ news b o):∀ u∈cellsW W b o news.length,u.oneCell'=true:=zmw hp h.vl

theorem zds {t e ty:Nat}{i:TypeInfo}(hu:P.underlying t=some (.slice e))(hi:P.info? e=some i)(q:Option Addr)(n cap:Nat)(p:Option Addr)(c:Nat)(hn:n≤cap):
  (Builtin.append_ #[t,t] ty #[.slice q n cap,.slice p 0 c]).run P W=.ok (.slice q n cap) W:=by
 cases p<;>cases q<;>simp[Builtin.append_,run_underlying hu,sizeOf,typeInfo,hi,Builtin.lenOf,hn,Builtin.firstCells,loadCells,loadCellsFrom,storeCells]

theorem zgx (hs:Sim P W L μ H){b B:Nat}(hm:μ b=.at B):∀ i,updM μ b .dead i≠.at B:=by
 intro i h
 by_cases hi:i=b
 ·subst hi;rw[zbc] at h;cases h
 ·rw[zbd _ _ hi] at h;exact hi (hs.inj i b B h hm)

theorem Hp.ownAt (h:Hp P E tc W L μ H){b B:Nat}(hm:μ b=.at B):E.W.heap.size≤B∨∃ i,i∈[b].filter (·<E.pin)++tc∧E.μ i=.at B:=by
 by_cases hb:b<E.pin
 ·rcases h.pins b hb with e|⟨e,_⟩
  ·exact .inr ⟨b,List.mem_append_left _ (by simp[hb]),e.symm.trans hm⟩
  ·rw[hm] at e;cases e
 ·rcases h.own b B (by omega) hm with e|⟨i,e,f⟩
  ·exact .inl e
  ·exact .inr ⟨i,List.mem_append_right _ e,f⟩

theorem zgc {t e ty t':Nat}{i:TypeInfo}(ht:P.underlying t=some (.slice e))(hi:P.info? e=some i)(w:World)
  (g sLen sCap:Nat) (cur:Array Value) (hg:w.heap[g]?=some (.cells cur t' (0,0)))
  (a:Addr) (m c:Nat) (news:List Value) (hl:news.length=m * i.size) (hnews:∀ j u,news[j]?=some u→w.cell? (a.add j)=some u) (h1:∀ u∈news,u.oneCell'=true)
  (hroom:sLen+m≤sCap) (hfit:sLen * i.size+news.length≤cur.size):
  (Builtin.append_ #[t,t] ty #[.slice (some ⟨g,0,none⟩) sLen sCap,.slice (some a) m c]).run P w=
   .ok (.slice (some ⟨g,0,none⟩) (sLen+m) sCap) (w.setRow g (cur.toList.take (sLen * i.size)++news++cur.toList.drop (sLen * i.size+news.length)).toArray):=by
 have hf:=run_firstCells_some (P:=P) w i.size m a m c news hl hnews
 have hst:=run_storeCells_at P g (sLen * i.size) t' news 0 cur w hg (by simpa using hfit) h1
 simp only[Nat.add_zero] at hst
 simp[Builtin.append_,run_underlying ht,sizeOf,typeInfo,hi,Builtin.lenOf,hroom,hf,Addr.add_lit,hst]

def Stays (N:Nat)(μ μ':Mu):Prop:=∀ j,j<N→μ j=.no→μ' j=.no
theorem Stays.new {N:Nat}{r:MR}{μ:Mu}:Stays N μ (updM μ N r):=fun j hj h=>by rw[zbd _ _ (by omega)];exact h
theorem Stays.kill_new {N b B:Nat}{r:MR}{μ:Mu}(hb:μ b=.at B):Stays N μ (updM (updM μ b .dead) N r):=fun j hj h=>by
 rw[zbd _ _ (by omega),zbd]
 ·exact h
 ·rintro rfl;rw[hb] at h;cases h

theorem zwj {t e k by':Nat}{x y:Operand}{x' y':Opnd}{z:List AV}(h:Hp P E tc W L μ H)(he:Env C W L μ tm a)(hu:slElem P t=some (e,k,by'))(hk:0<k)(hby:by'≤134217728)(hz:zeroT P e=some z)(hzk:z.length=k)
  (h1:opnd x=some x') (h2:opnd y=some y') {r:XR} (hx:xeff H (val C tm) (.append k x' y')=some r) (ty:Nat):
  ∃ w W' L' μ',(Builtin.append_ #[t,t] ty #[a.eval x,a.eval y]).run P W=.ok w W'∧VR W' L' μ' r.v w∧Hp P E (r.tc.filter (·<E.pin)++tc) W' L' μ' r.hp∧Later L L' W W'∧Ext μ μ'∧(∀ b,L b→L' b)∧Stays H.length μ μ':=by
 have e1:=zat he h1
 have e2:=zat he h2
 obtain ⟨u1,u2,i,hi,hik,hib⟩:=zdq hu
 obtain ⟨i',zv,z1,z2,z3⟩:=zes (W:=W) (L:=L) (μ:=μ) hz
 rw[hi] at z1;cases z1
 have hzs:zv.cells.size=k:=by have:=z3.1;simp at this;omega
 simp only[xeff] at hx
 split at hx
 case h_2=>cases hx
 rename_i news m hnews hm
 obtain ⟨p,cap,f1,f2,f3,f4⟩:=zfi h.sim hk e2 hnews hm
 have hbound:bound=1048576:=rfl
 split at hx
 ·rename_i hb
  rw[hb] at e1
  have g1:=zio e1
  split at hx
  ·rename_i h0
   cases hx
   subst h0
   refine ⟨.slice none 0 0,W,L,μ,?_,.nils,by simpa using h,Later.refl _ _,Ext.refl _,fun _ hb=>hb,fun _ _ h=>h⟩
   rw[g1,f1]
   exact zds u1 hi none 0 0 p cap (Nat.le_refl _)
  ·rename_i h0
   split at hx<;>cases hx
   rename_i hb'
   rw[hbound] at hb'
   rcases f4 with h'|⟨b,o,rfl,hrd⟩
   ·exact absurd h' h0
   ·have hlen:(cellsW W b o news.length).length=m * i.size:=by simp[cellsW,f2,hik]
    have hmul:m * i.bytes≤1048576 * 134217728:=Nat.mul_le_mul hb' (by omega)
    have hrun:=run_append_nil (P:=P) W t ty e i zv u1 hi z2 ⟨b,o,none⟩ m cap _ hlen hrd.cells (by omega) (by omega) (by omega)
    have hcap:m≤grownCap W m 0 e:=grownCap_ge W m 0 e
    obtain ⟨hh,hl⟩:=h.env' (W':=W.drew) rfl ⟨rfl,rfl,rfl⟩
    have hpu:=hh.push [.cells news]
    have hvl:VL W.drew L μ news (cellsW W b o news.length):=(hrd.vl).mono hl (Ext.refl _)
    have hbr:BR P W.drew L μ (.cells news) (.cells ((cellsW W b o news.length).toArray++Builtin.zeroCells zv.cells (grownCap W m 0 e - m)) e (0,0)):=by
     have:=zfe (P:=P) (t:=e) (ys:=(Builtin.zeroCells zv.cells (grownCap W m 0 e - m)).toList) hvl
     rwa [show ((cellsW W b o news.length).toArray++Builtin.zeroCells zv.cells (grownCap W m 0 e - m))=(cellsW W b o news.length++(Builtin.zeroCells zv.cells (grownCap W m 0 e - m)).toList).toArray from Array.ext' (by simp)]
    obtain ⟨m1,m2,m3⟩:=hpu.mat (j:=H.length) (by simp) (h.sim.out _ (Nat.le_refl _)) h.len hbr
    refine ⟨_,_,_,_,by rw[g1,f1];exact hrun,?_,by simpa using m1,hl.trans (fun _ hb=>hb) m2,m3,fun _ hb=>.inl hb,Stays.new⟩
    refine .sl (zbc ..) hcap (World.alloc_heap_new _ _) ?_
    rw[Array.size_append,size_zeroCells,hzs]
    simp[hlen,hik]
    rw[← Nat.add_mul,show m+(grownCap W m 0 e - m)=grownCap W m 0 e by omega]
    exact Nat.le_refl _
 ·rename_i b off n k' hb
  rw[hb] at e1
  split at hx
  case isFalse=>cases hx
  rename_i hc
  obtain ⟨rfl,rfl⟩:=hc
  split at hx
  ·rename_i cs hcs
   split at hx<;>cases hx
   rename_i hc
   obtain ⟨c1,c2,c3⟩:=hc
   rw[hbound] at c2
   have ha:alive H b=true:=by unfold alive;rw[hcs]
   obtain ⟨B,cp,rs,t',g1,g2,g3,g4,g5⟩:=zdf h.sim e1 ha
   obtain ⟨hLB,_,blk,ob,q1,q2,q3⟩:=h.sim.live b B g1
   rw[hcs] at q1;cases q1
   rw[g4] at q2;cases q2
   have hb0:b<H.length:=(List.getElem?_eq_some_iff.1 hcs).1
   have hblen:(H.set b AB.dead).length=H.length:=by simp
   have hset:∀ blk,(H.set b blk).set b AB.dead=H.set b AB.dead:=fun blk=>by simp
   have hpre:=zjl q3
   by_cases hroom:n+m≤cp
   ·-- there is room: the same block
    have hres:∃ W',(Builtin.append_ #[t,t] ty #[a.eval x,a.eval y]).run P W=.ok (.slice (some ⟨B,0,none⟩) (n+m) cp) W'∧Hp P E ([b].filter (·<E.pin)++tc) W' L μ (H.set b (.cells (cs++news)))∧Later L L W W' ∧
      (∃ rs',W'.heap[B]?=some (.cells rs' t' (0,0))∧rs'.size=rs.size∧BR P W' L μ (.cells (cs++news)) (.cells rs' t' (0,0))):=by
     rcases f4 with h0|⟨b2,o2,rfl,hrd⟩
     ·subst h0
      have hnil:news=[]:=List.eq_nil_of_length_eq_zero (by simpa using f2)
      subst hnil
      refine ⟨W,by rw[g2,f1];exact zds u1 hi _ n cp p cap g3,?_,Later.refl _ _,rs,g4,rfl,by simpa using q3⟩
      have:=(h.more (tc':=[b].filter (·<E.pin)++tc) fun i hi=>List.mem_append_right _ hi)
      rw [List.append_nil, show H.set b (.cells cs) = H from by
       apply List.ext_getElem?;intro j
       rw[List.getElem?_set]
       by_cases hj:b=j
       ·subst hj;simp[hb0];exact (Option.some.inj ((List.getElem?_eq_getElem hb0).symm.trans hcs)).symm
       ·simp[hj]]
      exact this
     ·have hlen:(cellsW W b2 o2 news.length).length=m * i.size:=by simp[cellsW,f2,hik]
      have hcl:cs.length≤rs.size:=by cases q3 with|cells l1 _=>exact l1
      have hcapk:(n+m) * k≤cp * k:=Nat.mul_le_mul_right k hroom
      rw[Nat.add_mul] at hcapk
      have hlen':(cellsW W b2 o2 news.length).length=m * k:=by rw[hlen,hik]
      have hfit:n * i.size+(cellsW W b2 o2 news.length).length≤rs.size:=by rw[hik,hlen'];omega
      have hrun:=zgc (P:=P) (ty:=ty) u1 hi W B n cp rs g4 ⟨b2,o2,none⟩ m cap _ hlen hrd.cells (zmx c3 hrd) hroom hfit
      rw[hik,hlen'] at hrun
      have hsp:rs.toList.take (n * k)++cellsW W b2 o2 news.length++rs.toList.drop (n * k+m * k)=(rs.toList.take cs.length++cellsW W b2 o2 news.length)++rs.toList.drop (n * k+m * k):=by rw[c1]
      rw[hsp] at hrun
      have hbr:BR P W L μ (.cells (cs++news)) (.cells ((rs.toList.take cs.length++cellsW W b2 o2 news.length)++rs.toList.drop (n * k+m * k)).toArray t' (0,0)):=zfe (hpre.append hrd.vl)
      have hsz':((rs.toList.take cs.length++cellsW W b2 o2 news.length)++rs.toList.drop (n * k+m * k)).toArray.size=rs.size:=by simp[hlen'];omega
      obtain ⟨p1,p2⟩:=h.put g1 g4 (zhs g4) (.ofCells (fun rs' t2 f hh=>by cases hh;exact ⟨_,rfl,hsz'⟩) fun _ _=>by simp) hbr
      exact ⟨_,by rw[g2,f1];exact hrun,p1,p2,_,setRow_heap W B rs _ t' (0,0) g4,hsz',hbr.mono p2 (Ext.refl _)⟩
    obtain ⟨W',r1,r2,r3,rs',r4,r5,r6⟩:=hres
    obtain ⟨k1,k2⟩:=r2.kill b (by simpa using hb0) (by rw[g1];simp)
    rw[hset] at k1
    have k3:=k1.push [.cells (cs++news)]
    have hno:updM μ b .dead H.length=.no:=by rw[zbd _ _ (by omega)];exact h.sim.out _ (Nat.le_refl _)
    have hown:E.W.heap.size≤B∨∃ i,i∈[b].filter (·<E.pin)++([b].filter (·<E.pin)++tc)∧E.μ i=.at B:=by
     rcases h.ownAt g1 with h'|⟨i,h1,h2⟩
     ·exact .inl h'
     ·exact .inr ⟨i,List.mem_append_right _ h1,h2⟩
    obtain ⟨k4,k5⟩:=k3.reuse (j:=H.length) (B:=B) (blk:=.cells (cs++news)) (by rw[List.getElem?_append_right (by simp)];simp) hno h.len hLB r4 (zgx h.sim g1) hown (r6.mono (Later.refl _ _) k2)
    refine ⟨_,W',L,_,r1,?_,?_,r3,k2.trans k5,fun _ hb=>hb,Stays.kill_new g1⟩
    ·exact .sl (zbc ..) hroom r4 (by rw[r5];exact g5)
    ·exact k4.more fun i hi=>by
      simp only[List.mem_append] at hi ⊢
      rcases hi with h|h|h
      ·exact .inl h
      ·exact .inl h
      ·exact .inr h
   ·-- there is none: a new block
    rcases f4 with h0|⟨b2,o2,rfl,hrd⟩
    ·omega
    ·have hlen:(cellsW W b2 o2 news.length).length=m * i.size:=by simp[cellsW,f2,hik]
     have hmul:(n+m) * i.bytes≤1048576 * 134217728:=Nat.mul_le_mul c2 (by omega)
     have hold:Rd W L μ cs B 0:=fun j x hx=>by
      cases q3 with
      |cells l1 l2=>
       have hj:=(List.getElem?_eq_some_iff.1 hx).1
       exact ⟨rs[j],by simp[World.cell?,g4],l2 j x _ hx (Array.getElem?_eq_getElem (by omega))⟩
     have holen:(cellsW W B 0 cs.length).length=n * i.size:=by simp[cellsW,c1,hik]
     have hrun:=run_append_grow (P:=P) W t ty e i zv u1 hi z2 ⟨B,0,none⟩ n cp _ holen hold.cells ⟨b2,o2,none⟩ m cap _ hlen hrd.cells (by omega) (by omega) (growslice_fits (by omega) (by omega))
     have hcap:n+m≤grownCap W (n+m) cp e:=grownCap_ge W (n+m) cp e
     obtain ⟨hh,hl⟩:=h.env' (W':=W.drew) rfl ⟨rfl,rfl,rfl⟩
     obtain ⟨k1,k2⟩:=hh.kill b hb0 (by rw[g1];simp)
     have k3:=k1.push [.cells (cs++news)]
     have hno:updM μ b .dead H.length=.no:=by rw[zbd _ _ (by omega)];exact h.sim.out _ (Nat.le_refl _)
     have hvl:VL W.drew L (updM μ b .dead) (cs++news) (cellsW W B 0 cs.length++cellsW W b2 o2 news.length):=(hold.vl.append hrd.vl).mono hl k2
     have hbr:BR P W.drew L (updM μ b .dead) (.cells (cs++news)) (.cells ((cellsW W B 0 cs.length).toArray++(cellsW W b2 o2 news.length).toArray++Builtin.zeroCells zv.cells (grownCap W (n+m) cp e - (n+m))) e (0,0)):=by
      have:=zfe (P:=P) (t:=e) (ys:=(Builtin.zeroCells zv.cells (grownCap W (n+m) cp e - (n+m))).toList) hvl
      rwa [show ((cellsW W B 0 cs.length).toArray++(cellsW W b2 o2 news.length).toArray++Builtin.zeroCells zv.cells (grownCap W (n+m) cp e - (n+m)))=((cellsW W B 0 cs.length++cellsW W b2 o2 news.length)++(Builtin.zeroCells zv.cells (grownCap W (n+m) cp e - (n+m))).toList).toArray from Array.ext' (by simp)]
     obtain ⟨m1,m2,m3⟩:=k3.mat (j:=H.length) (by rw[List.getElem?_append_right (by simp)];simp) hno h.len hbr
     refine ⟨_,_,_,_,by rw[g2,f1];exact hrun,?_,m1,hl.trans (fun _ hb=>hb) m2,k2.trans m3,fun _ hb=>.inl hb,Stays.kill_new g1⟩
     refine .sl (zbc ..) hcap (World.alloc_heap_new _ _) ?_
     rw[Array.size_append,size_zeroCells,hzs]
     simp[hlen,holen,hik]
     rw[← Nat.add_mul,← Nat.add_mul,show n+m+(grownCap W (n+m) cp e - (n+m))=grownCap W (n+m) cp e by omega]
     exact Nat.le_refl _
  ·cases hx
 ·cases hx

theorem zsw (cs:List AV)(off:Nat):setAt cs off []=cs:=by simp[setAt]

theorem yal {t u e k by':Nat}{x y:Operand}{x' y':Opnd}(h:Hp P E tc W L μ H)(he:Env C W L μ tm a)(hu:slElem P t=some (e,k,by'))(hk:0<k)
  (h1:opnd x=some x') (h2:opnd y=some y') {r:XR} (hx:xeff H (val C tm) (.copy k x' y')=some r) (ty:Nat):
  ∃ w W',(Builtin.copy_ #[t,u] ty #[a.eval x,a.eval y]).run P W=.ok w W'∧VR W' L μ r.v w∧Hp P E (r.tc.filter (·<E.pin)++tc) W' L μ r.hp∧Later L L W W':=by
 have e1:=zat he h1
 have e2:=zat he h2
 obtain ⟨u1,u2,i,hi,hik,hib⟩:=zdq hu
 simp only[xeff] at hx
 split at hx
 case h_2=>cases hx
 rename_i d off n k' src m hd hsrc hm
 rw[hd] at e1
 split at hx
 case isFalse=>cases hx
 rename_i hkk
 subst hkk
 split at hx
 case h_2=>cases hx
 rename_i cs hcs
 split at hx
 case isFalse=>cases hx
 rename_i hc
 obtain ⟨c1,c2⟩:=hc
 cases hx
 have ha:alive H d=true:=by unfold alive;rw[hcs]
 obtain ⟨B,cp,rs,t',g1,g2,g3,g4,g5⟩:=zdf h.sim e1 ha
 obtain ⟨p,cap,f1,f2,f3,f4⟩:=zfi h.sim hk e2 hsrc hm
 have hmin:Nat.min m n=min m n:=rfl
 have hd0:d<H.length:=(List.getElem?_eq_some_iff.1 hcs).1
 by_cases h0:min m n=0
 ·refine ⟨goInt 0,W,?_,by rw[h0];exact .int,?_,Later.refl _ _⟩
  ·rw[g2,f1]
   cases p<;>simp[Builtin.copy_,run_underlying u1,Builtin.lenOf,Builtin.firstCells,hmin,h0,zbb u2,loadCells,loadCellsFrom,storeCells]
  ·rw[h0]
   simp only[Nat.zero_mul,List.take_zero,zsw]
   rw [show H.set d (.cells cs) = H from by
    apply List.ext_getElem?;intro j
    rw[List.getElem?_set]
    by_cases hj:d=j
    ·subst hj;simp[hd0];exact (Option.some.inj ((List.getElem?_eq_getElem hd0).symm.trans hcs)).symm
    ·simp[hj]]
   exact h.more fun i hi=>List.mem_append_right _ hi
 ·rcases f4 with h'|⟨b,o,rfl,hrd⟩
  ·omega
  ·have hnk:min m n * k≤m * k:=Nat.mul_le_mul_right k (by omega)
   have hnk2:min m n * k≤n * k:=Nat.mul_le_mul_right k (by omega)
   have htl:(src.take (min m n * k)).length=min m n * k:=by simp;omega
   have hr2:=hrd.take (min m n * k)
   have hp2:(src.take (min m n * k)).all AV.plain=true:=by
    rw[List.all_eq_true] at c2 ⊢
    exact fun x hx=>c2 x (List.mem_of_mem_take hx)
   have hf:=run_firstCells_some (P:=P) W k (min m n) ⟨b,o,none⟩ m cap (cellsW W b o (src.take (min m n * k)).length) (by simp[cellsW,htl]) hr2.cells
   obtain ⟨W',w1,w2,w3⟩:=h.write hcs g1 hr2.vl (zmx hp2 hr2) (off:=off) (by rw[htl];omega)
   refine ⟨goInt (min m n:Nat),W',?_,.int,w2,w3⟩
   rw[htl] at hf w1
   rw[g2,f1]
   simp[Builtin.copy_,run_underlying u1,Builtin.lenOf,hmin,zbb u2,hf,w1]

theorem zzf {o:Oper}{k:AK}(hc:compOp P o=some k)(h:Hp P E tc W L μ H)(he:Env C W L μ tm a){r:XR}(hx:xeff H (val C tm) k=some r):
  ∃ nx x W' L' μ',(execOp a.eval o).run P W=.ok nx W'∧NX nx x∧VR W' L' μ' r.v x∧Hp P E (r.tc.filter (·<E.pin)++tc) W' L' μ' r.hp∧Later L L' W W'∧Ext μ μ'∧(∀ b,L b→L' b)∧Stays H.length μ μ':=by
 have hk:(∃ k' x y,k=.store k' x y)∨(∃ kn m key v,k=.mapupd kn m key v)∨(∃ k' x y,k=.append k' x y)∨(∃ k' x y,k=.copy k' x y)∨(∃ kn z m key,k=.mapent kn z m key)∨(∃ m s y,k=.entst m s y):=by
  cases k<;>simp[xeff] at hx<;>simp
 unfold compOp at hc
 cases ho:o.op<;>rw[ho] at hc<;>simp only at hc
 case store t x y=>
  split at hc<;>cases hc
  rename_i k' x' y' h0 h1 h2
  obtain ⟨W',p1,p2,p3,p4⟩:=zwz h he h0 h1 h2 hx
  refine ⟨.skip,undef,W',L,μ,by simp[execOp,ho,p1],.inr ⟨rfl,rfl⟩,by rw[p2];exact .unk,p3,p4,Ext.refl _,fun _ hb=>hb,fun _ _ h=>h⟩
 case mapEntry t m key=>
  split at hc
  ·rename_i kt e m' key' hu h1 h2
   split at hc<;>cases hc
   rename_i kn z hkn hz
   obtain ⟨w,W',p1,p2,p3,p4⟩:=zuk h he hu hkn hz h1 h2 hx
   exact ⟨.value w,w,W',L,μ,by simp[execOp,ho,p1],.inl rfl,p2,p3,p4,Ext.refl _,fun _ hb=>hb,fun _ _ h=>h⟩
  ·cases hc
 case entryStore t m s y=>
  split at hc<;>cases hc
  rename_i m' s' y' h1 h2 h3
  obtain ⟨W',p1,p2,p3,p4⟩:=zyn (t:=t) h he h1 h2 h3 hx
  exact ⟨.skip,undef,W',L,μ,by simp[execOp,ho,p1],.inr ⟨rfl,rfl⟩,by rw[p2];exact .unk,p3,p4,Ext.refl _,fun _ hb=>hb,fun _ _ h=>h⟩
 case mapUpdate t m key y=>
  split at hc
  ·rename_i kt e m' key' y' hu h1 h2 h3
   split at hc<;>cases hc
   rename_i kn hkn
   obtain ⟨W',p1,p2,p3,p4⟩:=zuj h he hu hkn h1 h2 h3 hx
   exact ⟨.skip,undef,W',L,μ,by simp[execOp,ho,p1],.inr ⟨rfl,rfl⟩,by rw[p2];exact .unk,p3,p4,Ext.refl _,fun _ hb=>hb,fun _ _ h=>h⟩
  ·cases hc
 case call c=>
  split at hc
  ·split at hc<;>cases hc;simp[xeff] at hx
  ·split at hc<;>cases hc;simp[xeff] at hx
  ·rename_i b hcal
   split at hc
   ·split at hc<;>cases hc;simp[xeff] at hx
   ·rename_i x y t u hargs htys
    split at hc
    ·rename_i e k' by' q x' y' hu hq h1 h2
     split at hc<;>cases hc
     rename_i hcond
     obtain ⟨c1,c2,rfl,c4⟩:=hcond
     cases hz:zeroT P e with
     |none=>rw[hz] at c4;cases c4
     |some z=>
      rw[hz] at c4;simp at c4
      obtain ⟨w,W',L',μ',p1,p2,p3,p4,p5,p6⟩:=zwj h he hu c1 c2 hz c4 h1 h2 hx o.type
      have ha:c.args=#[x,y]:=Array.ext' (by simpa using hargs)
      have ht:c.argTypes=#[t,t]:=Array.ext' (by simpa using htys)
      exact ⟨.value w,w,W',L',μ',by simp[execOp,ho,resolve,hcal,ha,ht,invoke,builtin,p1],.inl rfl,p2,p3,p4,p5,p6⟩
    ·cases hc
   ·rename_i x y t u hargs htys
    split at hc
    ·rename_i e k' by' e' k2 by2 x' y' hu hq h1 h2
     split at hc<;>cases hc
     rename_i hcond
     obtain ⟨w,W',p1,p2,p3,p4⟩:=yal (u:=u) h he hu hcond.1 h1 h2 hx o.type
     have ha:c.args=#[x,y]:=Array.ext' (by simpa using hargs)
     have ht:c.argTypes=#[t,u]:=Array.ext' (by simpa using htys)
     exact ⟨.value w,w,W',L,μ,by simp[execOp,ho,resolve,hcal,ha,ht,invoke,builtin,p1],.inl rfl,p2,p3,p4,Ext.refl _,fun _ hb=>hb,fun _ _ h=>h⟩
    ·cases hc
   ·obtain ⟨y,_,rfl⟩:=Option.map_eq_some_iff.1 hc;simp[xeff] at hx
   ·obtain ⟨y,_,rfl⟩:=Option.map_eq_some_iff.1 hc;simp[xeff] at hx
   ·cases hc
 case unOp op t x=>cases op<;>simp only at hc<;>first|(cases hc;done)|(obtain ⟨y,_,rfl⟩:=Option.map_eq_some_iff.1 hc;simp[xeff] at hx;done)
 all_goals (exfalso;revert hc;(repeat' split)<;>intro hc<;>first|contradiction|(cases hc;done)|(cases hc;simp[xeff] at hx;done)|(obtain ⟨y,_,rfl⟩:=Option.map_eq_some_iff.1 hc;simp[xeff] at hx;done))
end
section
variable {P:Program} {E:Ent} {W:World} {L:Nat→Prop} {μ:Mu} {C:Cfg}

theorem valO {tm tm':List AV}{x:Opnd}(h:∀ t,t∈tmpsO x→tm.getD t .unk=tm'.getD t .unk):val C tm x=val C tm' x:=by
 cases x with
 |tmp t=>exact h t (by simp[tmpsO])
 |val v=>rfl
 |glob g=>rfl
theorem valL {tm tm':List AV}:∀ {l:List Opnd},(∀ t,t∈tmpsL l→tm.getD t .unk=tm'.getD t .unk)→l.map (val C tm)=l.map (val C tm')
 |[],_=>rfl
 |x::l,h=>by
  rw[List.map_cons,List.map_cons,valO fun t ht=>h t (by simp[tmpsL,ht]),valL fun t ht=>h t (by simp[tmpsL,ht])]
theorem valP {tm tm':List AV}:∀ {l:List (Nat × Nat × Opnd)},(∀ t,t∈l.flatMap (fun p=>tmpsO p.2.2)→tm.getD t .unk=tm'.getD t .unk) →
  l.map (fun p=>(p.1,p.2.1,val C tm p.2.2))=l.map (fun p=>(p.1,p.2.1,val C tm' p.2.2))
 |[],_=>rfl
 |x::l,h=>by
  rw[List.map_cons,List.map_cons,valO fun t ht=>h t (by simp[ht]),valP fun t ht=>h t (by rw[List.flatMap_cons];exact List.mem_append_right _ ht)]
theorem valS {tm tm':List AV}(k:Nat):∀ {l:List (Nat × Opnd)},(∀ t,t∈l.flatMap (fun p=>tmpsO p.2)→tm.getD t .unk=tm'.getD t .unk) →
  l.map (fun p=>(p.1 * k,k,val C tm p.2))=l.map (fun p=>(p.1 * k,k,val C tm' p.2))
 |[],_=>rfl
 |x::l,h=>by
  rw[List.map_cons,List.map_cons,valO fun t ht=>h t (by simp[ht]),valS k fun t ht=>h t (by rw[List.flatMap_cons];exact List.mem_append_right _ ht)]
theorem valE {tm tm':List AV}(d:AV){l:Option Opnd}(h:∀ t,t∈l.elim [] tmpsO→tm.getD t .unk=tm'.getD t .unk):l.elim d (val C tm)=l.elim d (val C tm'):=by
 cases l with
 |none=>rfl
 |some x=>exact valO h

section
variable {tm tm':List AV}
theorem zmd {k:AK}{H:List AB}(h:∀ t,t∈k.tmps→tm.getD t .unk=tm'.getD t .unk):float (val C tm) H k=float (val C tm') H k:=by
 cases k<;>simp only[AK.tmps,List.mem_append,or_imp,forall_and] at h<;>simp only[float,xnew,xval]
 case mov x=>rw[valO h]
 case pick=>rw[valO h.1.1,valO h.1.2,valO h.2]
 case box=>rw[valO h]
 case build=>rw[valP h]
 case buildSl k _ _ _=>rw[valS k h]
 case load=>rw[valO h]
 case nilck=>rw[valO h]
 case nilckM=>rw[valO h]
 case bin=>rw[valO h.1,valO h.2]
 case eq=>rw[valO h.1,valO h.2]
 case not=>rw[valO h]
 case neg=>rw[valO h]
 case conv=>rw[valO h]
 case iface=>rw[valO h]
 case mkfn=>rw[valL h.1,valL h.2]
 case mksl=>rw[valO h.1,valO h.2]
 case slice=>rw[valO h.1.1,valE _ h.1.2,valE _ h.2]
 case isnil=>rw[valO h]
 case sliceA=>rw[valO h.1.1,valE _ h.1.2,valE _ h.2]
 case fieldA=>rw[valO h]
 case fieldV=>rw[valO h]
 case indexA=>rw[valO h.1,valO h.2]
 case indexV=>rw[valO h.1,valO h.2]
 case lookup=>rw[valO h.1,valO h.2]
 case tassert=>rw[valO h]
 case extract=>rw[valO h]
 case len=>rw[valO h]
 case max=>rw[valL h]
 case min=>rw[valL h]
theorem zgm {k:AK}{call:CallF}{H:List AB}(h:∀ t,t∈k.tmps→tm.getD t .unk=tm'.getD t .unk):spine call (val C tm) H k=spine call (val C tm') H k:=by
 cases k<;>simp only[AK.tmps,List.mem_append,or_imp,forall_and] at h<;>simp only[spine,xeff]
 case store=>rw[valO h.1,valO h.2]
 case mapupd=>rw[valO h.1.1,valO h.1.2,valO h.2]
 case mapent=>rw[valO h.1,valO h.2]
 case entst=>rw[valO h.1.1,valO h.1.2,valO h.2]
 case append=>rw[valO h.1,valO h.2]
 case copy=>rw[valO h.1,valO h.2]
 case call=>rw[valO h.1,valL h.2]
 case invoke=>rw[valO h.1,valL h.2]
 case panic=>rw[valO h]
end

theorem zed {ρ:Opnd→AV}{H H':List AB}{k:AK}{v:AV}{ft:List Nat}(h:float ρ H k=some (v,H',ft)):
  (∃ blk mk,xnew ρ k=some (blk,mk)∧v=mk H.length∧H'=H++[blk]∧ft=[H.length])∨(xnew ρ k=none∧H'=H∧xval H ρ k=some (v,ft)∧∀ b,b∈ft→b<H.length):=by
 unfold float at h
 split at h
 ·rename_i blk mk hn;cases h;exact .inl ⟨blk,mk,hn,rfl,rfl,rfl⟩
 ·rename_i hn
  split at h
  ·rename_i v' ft' hv
   rw[Option.ite_none_right_eq_some] at h
   obtain ⟨hc,h⟩:=h
   cases h
   exact .inr ⟨hn,rfl,hv,by simpa using hc⟩
  ·cases h

def Kept (H H':List AB)(tc:List Nat):Prop:=H.length≤H'.length∧∀ b,b<H.length→b∉tc→H'[b]?=H[b]?
theorem Kept.refl (H:List AB)(tc:List Nat):Kept H H tc:=⟨Nat.le_refl _,fun _ _ _=>rfl⟩

def CallFr (call:CallF):Prop:=∀ f args H x H' tc,call f args H=some (x,H',tc)→Kept H H' tc

theorem zrs {ρ:Opnd→AV}{H:List AB}{k:AK}{r:XR}(h:xeff H ρ k=some r):Kept H r.hp r.tc:=by
 have hset:∀ (d:Nat) (x:AB),Kept H (H.set d x) [d]:=fun d x=>⟨by simp,fun b _ hb=>List.getElem?_set_ne fun e=>hb (by simp[e])⟩
 cases k<;>simp only[xeff] at h<;>try contradiction
 case store=>
  split at h
  ·split at h
   ·split at h<;>cases h;exact hset _ _
   ·cases h
  ·cases h
 case mapupd=>
  split at h
  ·split at h
   ·split at h
    ·obtain ⟨es,_,rfl⟩:=Option.map_eq_some_iff.1 h;exact hset _ _
    ·cases h
   ·cases h
  ·cases h
 case mapent=>
  split at h
  ·split at h
   ·split at h
    ·obtain ⟨es,_,rfl⟩:=Option.map_eq_some_iff.1 h;exact hset _ _
    ·cases h
   ·cases h
  ·cases h
 case entst=>
  split at h
  ·split at h
   ·split at h
    ·split at h
     ·cases h;exact hset _ _
     ·cases h
    ·cases h
   ·cases h
  ·cases h
 case append=>
  split at h
  ·split at h
   ·split at h
    ·cases h;exact Kept.refl _ _
    ·split at h<;>cases h
     exact ⟨by simp,fun b hb _=>List.getElem?_append_left hb⟩
   ·split at h
    ·split at h
     ·split at h<;>cases h
      refine ⟨by simp,fun b hb hn=>?_⟩
      rw[List.getElem?_append_left (by simpa using hb)]
      exact List.getElem?_set_ne fun e=>hn (by simp[e])
     ·cases h
    ·cases h
   ·cases h
  ·cases h
 case copy=>
  split at h
  ·split at h
   ·split at h
    ·split at h<;>cases h;exact hset _ _
    ·cases h
   ·cases h
  ·cases h

theorem zhr {call:CallF}(hf:CallFr call){ρ:Opnd→AV}{H H':List AB}{k:AK}{x:CRes}{tc:List Nat}(h:spine call ρ H k=some (x,H',tc)):Kept H H' tc:=by
 unfold spine at h
 split at h
 ·split at h<;>cases h;exact Kept.refl _ _
 ·cases h
 ·exact hf _ _ _ _ _ _ h
 ·split at h
  ·split at h
   ·exact hf _ _ _ _ _ _ h
   ·cases h
  ·cases h
 ·obtain ⟨r,hr,e⟩:=Option.map_eq_some_iff.1 h
  cases e;exact zrs hr
end
section
variable {P:Program} {E:Ent} {W:World} {L:Nat→Prop} {μ:Mu} {C:Cfg} {tc:List Nat} {H:List AB} {tm:List AV} {a:Act}

theorem zex {t f:Nat}:∀ {l:List (Nat × Nat)},l.lookup t=some f→(t,f)∈l
 |[],h=>by simp at h
 |(u,g)::l,h=>by
   rw[List.lookup_cons] at h
   split at h
   ·rename_i he
    cases h;simp at he;subst he;exact List.mem_cons_self ..
   ·exact List.mem_cons_of_mem _ (zex h)

def Globs (_C:Cfg)(W:World)(L:Nat→Prop):Prop:=∀ g cs,globA g=some cs→VR W L nomu (.rp cs) (.pointer (some ⟨g,0,none⟩))

def one (w:Value):List PanicEntry:=[{ v:=w,recovered:=false }]

def CRel (W:World)(L:Nat→Prop)(μ:Mu):CRes→Ending→Prop
 |.ret v,.returned w=>VR W L μ v w
 |.pan v,.panicked chain=>∃ w,chain=one w∧VR W L μ v w
 |_,_=>False

def CPost (P:Program)(E:Ent)(tc0:List Nat)(W:World)(L:Nat→Prop)(μ:Mu)(n:Nat)(x:CRes)(H':List AB)(tc:List Nat)(e:Ending)(W':World):Prop:=
 ∃ L' μ',CRel W' L' μ' x e∧Hp P E (tc.filter (·<E.pin)++tc0) W' L' μ' H'∧Later L L' W W'∧Ext μ μ'∧(∀ b,L b→L' b)∧Stays n μ μ'

def GoesTo (P:Program)(rf:Value)(rargs:Array Value)(W:World)(R:Ending→World→Prop):Prop:=
 ∃ r W1,(do let d ← Deferred.ofValue rf rargs;invoke d.target d.args:Sem Next).run P W=.ok r W1 ∧
  match r with
  |.value v=>R (.returned v) W1
  |.enter f args=>CallsIn Fence.wide 0 P f args W1 R
  |.round l f tmps assign body=>RoundIn Fence.wide 0 P l f tmps assign body W1 R
  |_=>False

structure CallOk (P:Program) (C:Cfg) (call:CallF):Prop where
 fr:CallFr call
 fn:∀ {f:Nat} {first captured args:List AV} {H:List AB} {r:CRes × List AB × List Nat},call (.fn (.func f) first captured) args H=some r→∀ (rargs:Array Value) (W:World),(callFunc f rargs).run P W=.ok (.enter f rargs) W
 sound:∀ {E:Ent} {tc0:List Nat} {W:World} {L:Nat→Prop} {μ:Mu} {H:List AB} {f:AV} {args:List AV} {rf:Value} {rargs:Array Value} {x:CRes} {H':List AB} {tc:List Nat},
  call f args H=some (x,H',tc)→Hp P E tc0 W L μ H→Globs C W L→VR W L μ f rf→VL W L μ args rargs.toList→GoesTo P rf rargs W (CPost P E tc0 W L μ H.length x H' tc)

structure Wide (F:Fence):Prop where
 fn:∀ f,F.fn f
 depth:F.depth=none
 fenced:Machine.fenced P F=Machine.fenced P Fence.wide

theorem zfd {F:Fence}(hF:Wide (P:=P) F){f:FuncId}{args:Array Value}{R:Ending→World→Prop}(h:CallsIn Fence.wide 0 P f args W R):CallsIn F 0 P f args W R:=
 ⟨hF.fn f,fun cs _=>by rw[hF.fenced];exact h.2 cs (room_wide _)⟩
theorem zis {F:Fence}(hF:Wide (P:=P) F){l:Nat}{f:FuncId}{tmps:Array Value}{assign body:Code}{R:Ending→World→Prop}(h:RoundIn Fence.wide 0 P l f tmps assign body W R):RoundIn F 0 P l f tmps assign body W R:=
 ⟨hF.fn f,fun c cs _=>by rw[hF.fenced];exact h.2 c cs (room_wide _)⟩

theorem zdn {ops:Array Oper}{o:Oper}{k:AK}(hc:compOpM P ops o=some k)(hk:∀ m t x,k≠.nilckM m t x):compOp P o=some k:=by
 unfold compOpM at hc
 split at hc
 ·split at hc
  ·cases hc;exact absurd rfl (hk _ _ _)
  ·exact hc
 ·exact hc

theorem zca {F:Fence}{o:Oper}(ho:∀ c,o.op≠.defer c):o.semAt F.round a.eval=execOp a.eval o:=Oper.semAt_eq _ _ _ ho

theorem zvd {ops:Array Oper}{o:Oper}{k:AK}(hc:compOpM P ops o=some k)(hs:Sim P W L μ H)(he:Env C W L μ tm a){v:AV}{ft:List Nat}(hx:xval H (val C tm) k=some (v,ft)):
  ∃ z,(execOp a.eval o).run P W=.ok (.value z) W∧VR W L μ v z:=by
 unfold compOpM at hc
 split at hc
 ·rename_i t ho
  split at hc
  ·rename_i m hm
   cases hc
   exact ztx ho hs he rfl hx
  ·exact zrr hc hs he hx
 ·exact zrr hc hs he hx

theorem zzx {ops:Array Oper}{o:Oper}{k:AK}(hc:compOpM P ops o=some k)(he:Env C W L μ tm a){blk:AB}{mk:Nat→AV}(hx:xnew (val C tm) k=some (blk,mk)):
  ∃ obj x,(execOp a.eval o).run P W=.ok (.value x) (W.alloc obj)∧BR P W L μ blk obj∧Names mk W.heap.size obj x:=by
 refine zze (zdn hc ?_) he hx
 rintro m t x rfl
 simp[xnew] at hx

theorem zfq {o:Oper}{k:AK}(hc:compOp P o=some k):(∃ c f args f' args',o.op=.defer c∧c.callee=.value f∧opnd f=some f'∧opndL c.args.toList=some args'∧k=.defer f' args'∧args=c.args)∨((∀ c,o.op≠.defer c)∧∀ f args,k≠.defer f args):=by
 cases ho:o.op
 case defer c=>
  unfold compOp at hc
  rw[ho] at hc
  simp only at hc
  split at hc
  ·rename_i f hf
   split at hc<;>cases hc
   rename_i f' args' h1 h2
   exact .inl ⟨c,f,c.args,f',args',rfl,hf,h1,h2,rfl,rfl⟩
  ·cases hc
 all_goals
  right
  refine ⟨fun c=>(by simp),?_⟩
  rintro f args rfl
  unfold compOp at hc
  rw[ho] at hc
  simp only at hc
 case call c=>
  split at hc
  ·split at hc<;>cases hc
  ·split at hc<;>cases hc
  ·split at hc<;>(try (split at hc))<;>(try (split at hc))<;>first|(cases hc;done)|(simp at hc;done)
 all_goals (revert hc;(repeat' split)<;>intro hc<;>first|contradiction|(cases hc;done)|(simp at hc;done))

theorem zeu {ops:Array Oper}{o:Oper}{k:AK}{call:CallF}(hcall:CallOk P C call)(hc:compOpM P ops o=some k)(h:Hp P E tc W L μ H)(he:Env C W L μ tm a){x:CRes}{H':List AB}{tc':List Nat}
  (hx:spine call (val C tm) H k=some (x,H',tc')) {F:Fence} (hF:Wide (P:=P) F) {K:Act→World→Prop} {Q:Exit→Act→World→Prop}
  (hK:∀ v w W' L' μ',x=.ret v→VR W' L' μ' v w→Hp P E (tc'.filter (·<E.pin)++tc) W' L' μ' H'→Later L L' W W'→Ext μ μ'→(∀ b,L b→L' b)→Stays H.length μ μ'→K (a.put o.dst w) W')
  (hQ:∀ v w W' L' μ',x=.pan v→VR W' L' μ' v w→Hp P E (tc'.filter (·<E.pin)++tc) W' L' μ' H'→Later L L' W W'→Ext μ μ'→(∀ b,L b→L' b)→Stays H.length μ μ'→Q (.panic (one w)) a W'):
  o.wpIn F 0 P a W K Q:=by
 have hc':compOp P o=some k:=zdn hc (by rintro m t y rfl;simp[spine,xeff] at hx)
 have hnd:∀ c,o.op≠.defer c:=by
  rcases zfq hc' with ⟨c,f,args,f',args',_,_,_,_,rfl,_⟩|h'
  ·simp[spine] at hx
  ·exact h'.1
 have hgo:∀ {rf:Value} {rargs:Array Value} {W0:World},GoesTo P rf rargs W (CPost P E tc W L μ H.length x H' tc')→(execOp a.eval o).run P W=(do let d ← Deferred.ofValue rf rargs;invoke d.target d.args:Sem Next).run P W→o.wpIn F 0 P a W K Q:=by
  intro rf rargs _ hg hrun
  refine ⟨fun f _=>hF.fn f,?_⟩
  rw[zca hnd,hrun]
  obtain ⟨r,W1,h1,h2⟩:=hg
  rw[h1]
  have hend : ∀ e W'', CPost P E tc W L μ H.length x H' tc' e W'' → (match e with
    |.returned v=>K (a.put o.dst v) W''
    |.panicked chain=>Q (.panic chain) a W''
    |.outgrown=>LetsOut Q):=by
   rintro e W'' ⟨L',μ',c1,c2,c3,c4,c5,c6⟩
   cases e with
   |returned w=>
    cases x with
    |ret v=>exact hK v w W'' L' μ' rfl c1 c2 c3 c4 c5 c6
    |pan v=>exact c1.elim
   |panicked chain=>
    cases x with
    |ret v=>exact c1.elim
    |pan v=>obtain ⟨w,rfl,hv⟩:=c1;exact hQ v w W'' L' μ' rfl hv c2 c3 c4 c5 c6
   |outgrown=>cases x<;>exact c1.elim
  cases r<;>simp only[Oper.uponIn]<;>simp only at h2<;>try contradiction
  case value v=>exact hend _ _ h2
  case enter f args=>exact ⟨fun hd=>by simp[hF.depth] at hd,(zfd hF h2).mono fun e w he=>by have:=hend e w he;cases e<;>exact this⟩
  case round l f tmps assign body=>exact ⟨fun hd=>by simp[hF.depth] at hd,(zis hF h2).mono fun e w he=>by have:=hend e w he;cases e<;>exact this⟩
 have hcall':(∃ f args,k=.call f args)∨(∃ y tbl args,k=.invoke y tbl args)∨(∃ y,k=.panic y)∨∃ r,xeff H (val C tm) k=some r∧x=.ret r.v∧H'=r.hp∧tc'=r.tc:=by
  unfold spine at hx
  split at hx
  ·exact .inr (.inr (.inl ⟨_,rfl⟩))
  ·cases hx
  ·exact .inl ⟨_,_,rfl⟩
  ·exact .inr (.inl ⟨_,_,_,rfl⟩)
  ·obtain ⟨r,hr,e⟩:=Option.map_eq_some_iff.1 hx
   cases e;exact .inr (.inr (.inr ⟨r,hr,rfl,rfl,rfl⟩))
 rcases hcall' with ⟨f,args,rfl⟩|⟨y,tbl,args,rfl⟩|⟨y,rfl⟩|⟨r,hr,rfl,rfl,rfl⟩
 ·-- a call of a value
  simp only[spine] at hx
  cases ho:o.op<;>unfold compOp at hc'<;>rw[ho] at hc'<;>simp only at hc'
  case call c=>
   split at hc'
   ·rename_i g hg
    split at hc'<;>cases hc'
    rename_i f' args' h1 h2
    exact hgo (W0:=W) (hcall.sound hx h he.glob (zat he h1) (rargs:=c.args.map a.eval) (by rw[Array.toList_map];exact zct he h2)) (by simp[execOp,ho,resolve,hg])
   ·split at hc'<;>cases hc'
   ·exfalso;revert hc';(repeat' split)<;>intro hc'<;>first|contradiction|(cases hc';done)|(simp at hc';done)
  all_goals (exfalso;revert hc';(repeat' split)<;>intro hc'<;>first|contradiction|(cases hc';done)|(simp at hc';done))
 ·-- a call of a method
  simp only[spine] at hx
  split at hx
  ·rename_i t v hy
   split at hx
   ·rename_i g hl
    cases ho:o.op<;>unfold compOp at hc'<;>rw[ho] at hc'<;>simp only at hc'
    case call c=>
     split at hc'
     ·split at hc'<;>cases hc'
     ·rename_i recv name hg
      split at hc'<;>cases hc'
      rename_i y' args' h1 h2
      have e1:=zat he h1
      rw[hy] at e1
      obtain ⟨w,e2,e3⟩:=zbu e1
      have hm:=zck (zex hl)
      have hs:=hcall.sound hx h he.glob (rf:=.func (.func g) #[] #[]) (rargs:=#[w]++c.args.map a.eval) (.fn (rf:=[]) (rc:=[]) (by intro l;simp) rfl (by intro i x r h;simp at h) rfl (by intro i x r h;simp at h))
       (by
        have:(#[w]++c.args.map a.eval).toList=w::(c.args.toList.map a.eval):=by simp
        rw[this]
        exact VL.cons e3 (zct he h2))
      refine hgo (W0:=W) hs ?_
      have hfu:P.types.size+Made.depth=(P.types.size+99)+1:=rfl
      have hgt:(#[Value.iface t w]++c.args.map a.eval)[0]?=some (Value.iface t w):=by
       rw[Array.getElem?_append_left (by simp)];rfl
      have hex:(c.args.map a.eval).extract 0 c.args.size=c.args.map a.eval:=Array.ext' (by simp;exact List.take_of_length_le (by simp))
      simp[execOp,ho,resolve,hg,invoke,e2,Deferred.ofValue]
      rw[hgt]
      simp[callMethod,hfu,(zgs (W:=W) hm w (P.types.size+99)).1,hex]
     ·exfalso;revert hc';(repeat' split)<;>intro hc'<;>first|contradiction|(cases hc';done)|(simp at hc';done)
    all_goals (exfalso;revert hc';(repeat' split)<;>intro hc'<;>first|contradiction|(cases hc';done)|(simp at hc';done))
   ·cases hx
  ·cases hx
 ·-- a panic
  simp only[spine] at hx
  split at hx<;>cases hx
  rename_i t v hy
  cases ho:o.op<;>unfold compOp at hc'<;>rw[ho] at hc'<;>simp only at hc'
  case panic z=>
   cases h1:opnd z<;>rw[h1] at hc'<;>cases hc'
   have e1:=zat he h1
   rw[hy] at e1
   have e1':=e1
   obtain ⟨w,e2,e3⟩:=zbu e1
   refine ⟨fun f _=>hF.fn f,?_⟩
   rw[zca hnd]
   have:(execOp a.eval o).run P W=.halt (.panic (a.eval z)) W:=by simp[execOp,ho,e2,Instr.panic,goPanic]
   rw[this]
   exact hQ _ _ _ _ _ rfl e1' (h.more fun i hi=>List.mem_append_right _ hi) (Later.refl _ _) (Ext.refl _) (fun _ hb=>hb) (fun _ _ h=>h)
  all_goals (exfalso;revert hc';(repeat' split)<;>intro hc'<;>first|contradiction|(cases hc';done)|(simp at hc';done))
 ·-- what writes
  obtain ⟨nx,w,W',L',μ',p1,p2,p3,p4,p5,p6,p7,p8⟩:=zzf hc' h he hr
  refine ⟨fun f _=>hF.fn f,?_⟩
  rw[zca hnd,p1]
  rcases p2 with rfl|⟨rfl,rfl⟩
  ·exact hK _ _ _ _ _ rfl p3 p4 p5 p6 p7 p8
  ·exact hK _ _ _ _ _ rfl p3 p4 p5 p6 p7 p8
end
section
variable {P:Program} {E:Ent} {W W':World} {L L':Nat→Prop} {μ μ':Mu} {C:Cfg} {tc:List Nat} {H:List AB} {tm:List AV} {a:Act}

inductive DR1 (W:World) (L:Nat→Prop) (μ:Mu):ADef→Deferred→Prop
 |call {f:Nat} {args:List AV} {rargs cap:Array Value}:VL W L μ args (rargs.toList++cap.toList)→DR1 W L μ (.call f args) { target:=.fn (.func f) cap,args:=rargs }
 |mark {d D:Nat} {args:Array Value}:(μ d=.at D∨μ d=.dead)→DR1 W L μ (.mark d) { target:=.collected D,args:=args }
inductive DR (W:World) (L:Nat→Prop) (μ:Mu):List ADef→List Deferred→Prop
 |nil:DR W L μ [] []
 |cons {d:ADef} {r:Deferred} {ds:List ADef} {rs:List Deferred}:DR1 W L μ d r→DR W L μ ds rs→DR W L μ (d::ds) (r::rs)

theorem DR1.mono {d:ADef}{r:Deferred}(h:DR1 W L μ d r)(hl:Later L L' W W')(he:Ext μ μ'):DR1 W' L' μ' d r:=by
 cases h with
 |call h=>exact .call (h.mono hl he)
 |mark h=>exact .mark (he.atd h)
theorem DR.mono {ds:List ADef}{rs:List Deferred}(h:DR W L μ ds rs)(hl:Later L L' W W')(he:Ext μ μ'):DR W' L' μ' ds rs:=by
 induction h with
 |nil=>exact .nil
 |cons h _ ih=>exact .cons (h.mono hl he) ih
theorem Globs.mono (h:Globs C W L)(hl:Later L L' W W'):Globs C W' L':=fun g cs hg=>(h g cs hg).mono hl (Ext.refl _)
theorem Env.mono (h:Env C W L μ tm a)(hl:Later L L' W W')(he:Ext μ μ'):Env C W' L' μ' tm a:=⟨h.tmps.mono hl he,Globs.mono (C:=C) h.glob hl⟩
theorem Env.put (h:Env C W L μ tm a){v:AV}{w:Value}(hv:VR W L μ v w)(dst:Option Nat):Env C W L μ (putT tm dst v) (a.put dst w):=by
 refine ⟨?_,h.glob⟩
 cases dst with
 |none=>exact h.tmps
 |some d=>
  simp only[putT,Act.put]
  rw[Array.toList_setIfInBounds]
  exact h.tmps.set d hv
theorem zbq (a:Act)(dst:Option Nat)(w:Value):(a.put dst w).defers=a.defers:=by cases dst<;>rfl

def SRx (P:Program)(C:Cfg)(E:Ent)(st:St)(v:AV)(w:Value)(a:Act)(W:World):Prop:=
 ∃ L μ,Hp P E st.tc W L μ st.hp∧Env C W L μ st.tm a∧DR W L μ st.df a.defers∧VR W L μ v w
def SR (P:Program)(C:Cfg)(E:Ent)(st:St)(a:Act)(W:World):Prop:=
 ∃ L μ,Hp P E st.tc W L μ st.hp∧Env C W L μ st.tm a∧DR W L μ st.df a.defers

theorem zfh {ops:Array Oper}{o:Oper}{g:Option (Nat × Bool)}(hg:compGuard ops o=some g)(he:Env C W L μ tm a){b:Bool}(hb:wantG (val C tm) g=some b):Region.wanted o (yielded ops a.tmps)=b:=by
 unfold compGuard at hg
 unfold Region.wanted
 split at hg
 ·rename_i h0;cases hg;rw[h0];simpa [wantG] using hb
 ·rename_i j want h0
  split at hg<;>cases hg
  rename_i t ht
  rw[h0]
  simp only[wantG] at hb
  split at hb<;>cases hb
  ·rename_i b' hv
   simp only[val] at hv
   cases htm:tm[t]? with
   |none=>rw[List.getD_eq_getElem?_getD,htm] at hv;cases hv
   |some v=>
    rw[List.getD_eq_getElem?_getD,htm] at hv
    simp at hv;subst hv
    obtain ⟨r,hr,hvr⟩:=he.tmps.get htm
    rw[Array.getElem?_toList] at hr
    have hrb:r=.bool b':=zbf hvr
    have:yielded ops a.tmps j=some b':=by
     unfold yielded
     rw[ht]
     simp only[Option.bind_some]
     rw[hr,hrb]
    simp only[this]
    cases b'<;>cases want<;>rfl
  ·rename_i hv
   simp only[val] at hv
   cases htm:tm[t]? with
   |none=>rw[List.getD_eq_getElem?_getD,htm] at hv;cases hv
   |some v=>
    rw[List.getD_eq_getElem?_getD,htm] at hv
    simp at hv;subst hv
    obtain ⟨r,hr,hvr⟩:=he.tmps.get htm
    rw[Array.getElem?_toList] at hr
    obtain ⟨rs,hrb,_⟩:=vr_tup hvr
    have:yielded ops a.tmps j=none:=by
     unfold yielded
     rw[ht]
     simp only[Option.bind_some]
     rw[hr,hrb]
    simp only[this]
    rfl

theorem zdx {ops:Array Oper}{b:Array Nat}{i:Nat}{o':AOp}(h:compAt P ops b i=some o'):
  ∃ o,ops[i]?=some o∧compOpM P ops o=some o'.op∧compGuard ops o=some o'.guard∧o'.dst=o.dst∧o'.ix=i∧o'.deps=b.getD i 0:=by
 unfold compAt at h
 split at h
 ·cases h
 ·rename_i o ho
  split at h<;>cases h
  rename_i k g h1 h2
  exact ⟨o,ho,h1,h2,rfl,rfl,rfl⟩

theorem znt {ops:Array Oper}{o:Oper}{k:AK}(hc:compOpM P ops o=some k)(h:Hp P E tc W L μ H)(he:Env C W L μ tm a){v:AV}{ft:List Nat}(hx:xval H (val C tm) k=some (v,ft))
  {F:Fence} (hF:Wide (P:=P) F) (hnd:∀ c,o.op≠.defer c) {K:Act→World→Prop} {Q:Exit→Act→World→Prop} (hK:∀ w,VR W L μ v w→K (a.put o.dst w) W):o.wpIn F 0 P a W K Q:=by
 obtain ⟨z,h1,h2⟩:=zvd hc h.sim he hx
 refine ⟨fun f _=>hF.fn f,?_⟩
 rw[zca hnd,h1]
 exact hK z h2

theorem new_wp {ops:Array Oper}{o:Oper}{k:AK}(hc:compOpM P ops o=some k)(h:Hp P E tc W L μ H)(he:Env C W L μ tm a){blk:AB}{mk:Nat→AV}(hx:xnew (val C tm) k=some (blk,mk))
  {j:Nat} (hj:H[j]?=some blk) (hno:μ j=.no) (hpin:E.pin≤j)
  {F:Fence} (hF:Wide (P:=P) F) (hnd:∀ c,o.op≠.defer c) {K:Act→World→Prop} {Q:Exit→Act→World→Prop}
  (hK : ∀ w W', let μ' := updM μ j (.at W.heap.size); let L' := fun b => L b ∨ b = W.heap.size
   VR W' L' μ' (mk j) w→Hp P E tc W' L' μ' H→Later L L' W W'→Ext μ μ'→K (a.put o.dst w) W'):o.wpIn F 0 P a W K Q:=by
 obtain ⟨obj,x,h1,h2,h3⟩:=zzx hc he hx
 obtain ⟨m1,m2,m3⟩:=h.mat hj hno hpin h2
 refine ⟨fun f _=>hF.fn f,?_⟩
 rw[zca hnd,h1]
 exact hK x _ (h3 _ _ _ _ (zbc ..) (World.alloc_heap_new _ _)) m1 m2 m3

theorem zdw {ops:Array Oper}{o:Oper}{k:AK}(hc:compOpM P ops o=some k)(hk:∀ f args,k≠.defer f args):∀ c,o.op≠.defer c:=by
 intro c ho
 have hc':compOp P o=some k:=by unfold compOpM at hc;rw[ho] at hc;exact hc
 rcases zfq hc' with ⟨_,_,_,f',args',_,_,_,_,rfl,_⟩|h'
 ·exact hk _ _ rfl
 ·exact h'.1 c ho

theorem ev1_wp {ops:Array Oper}{o:Oper}{o':AOp}{call:CallF}(hcall:CallOk P C call)(hc:compOpM P ops o=some o'.op)(hg:compGuard ops o=some o'.guard)(hd:o'.dst=o.dst)
  {F:Fence} (hF:Wide (P:=P) F) {nod:Bool} (hnod:nod=false→F.round=none) {fl:List (Nat × List Nat)} {st:St} {r:O1} (hx:ev1 C call E.pin nod false fl o' st=some r) (hs:SR P C E st a W)
  {K:Act→World→Prop} {Q:Exit→Act→World→Prop} (hK:∀ ft st' a' W',r=.next ft st'→SR P C E st' a' W'→K a' W') (hQ:∀ v st' w a' W',r=.pan v st'→SRx P C E st' v w a' W'→Q (.panic (one w)) a' W'):
  if Region.wanted o (yielded ops a.tmps) then o.wpIn F 0 P a W K Q else (∀ f,o.about P W a.eval=some f→F.fn f)∧K (a.put o.dst undef) W:=by
 obtain ⟨L,μ,h1,h2,h3⟩:=hs
 unfold ev1 at hx
 split at hx
 ·cases hx
 ·rename_i hw
  rw[zfh hg h2 hw]
  cases hx
  exact ⟨fun f _=>hF.fn f,hK _ _ _ _ rfl ⟨L,μ,h1,by rw[hd];exact h2.put (tup_ok VL.nil) _,by rw[zbq];exact h3⟩⟩
 ·rename_i hw
  rw[zfh hg h2 hw]
  simp only[if_true]
  split at hx
  ·-- a deferred call
   rename_i f args ho
   rw[ho] at hc
   split at hx
   ·rename_i g cap hv
    cases nod
    ·simp only[Bool.or_self,cond_false] at hx
     cases hx
     have hc':compOp P o=some (.defer f args):=zdn hc (by simp)
     rcases zfq hc' with ⟨c,f0,args0,f',args',ho',hcal,e1,e2,e3,rfl⟩|h'
     ·cases e3
      have v1:=zat h2 e1
      have v2:=zct h2 e2
      rw[hv] at v1
      obtain ⟨rf,rc,q1,_,q3,q4⟩:=vr_fn v1
      have hrf:rf=[]:=List.eq_nil_of_length_eq_zero (by have:=q3.1;simpa using this.symm)
      subst hrf
      refine ⟨fun f _=>hF.fn f,?_⟩
      have hrun:(o.semAt F.round a.eval).run P W=.ok (.defer { target:=.fn (.func g) rc.toArray,args:=c.args.map a.eval }) W:=by
       rw[hnod rfl,Oper.semAt_none]
       simp[execOp,ho',resolve,hcal,q1,Deferred.ofValue]
      rw[hrun]
      refine hK _ _ _ _ rfl ⟨L,μ,h1,by rw[hd];exact Env.put (a:={ a with defers:=_::a.defers }) ⟨h2.tmps,h2.glob⟩ .unk _,?_⟩
      rw[zbq]
      refine .cons (.call ?_) h3
      simp only[Array.toList_map]
      exact v2.append q4
     ·exact absurd rfl (h'.2 _ _)
    ·simp at hx
   ·cases hx
  ·rename_i k hk
   have hnd:=zdw hc (by intro f args;exact hk f args)
   rw[Bool.cond_eq_ite] at hx
   split at hx
   ·split at hx
    ·rename_i v hp tc' hsp
     simp at hx
     subst hx
     refine zeu hcall hc h1 h2 hsp hF (fun v' w W' L' μ' e c1 c2 c3 c4 c5 c6=>?_) (fun _ _ _ _ _ e=>by cases e)
     cases e
     exact hK _ _ _ _ rfl ⟨L',μ',c2,by rw[hd];exact (h2.mono c3 c4).put c1 _,by rw[zbq];exact h3.mono c3 c4⟩
    ·rename_i v hp tc' hsp
     simp at hx
     subst hx
     refine zeu hcall hc h1 h2 hsp hF (fun _ _ _ _ _ e=>by cases e) (fun v' w W' L' μ' e c1 c2 c3 c4 c5 c6=>?_)
     cases e
     exact hQ _ _ _ _ _ rfl ⟨L',μ',c2,h2.mono c3 c4,h3.mono c3 c4,c1⟩
    ·cases hx
   ·split at hx
    ·rename_i v hp ft hfl
     cases hx
     rcases zed hfl with ⟨blk,mk,n1,rfl,rfl,rfl⟩|⟨n1,rfl,n3,_⟩
     ·refine new_wp hc (h1.push [blk]) h2 n1 (j:=st.hp.length) (by simp) (h1.sim.out _ (Nat.le_refl _)) h1.len hF hnd (fun w W' c1 c2 c3 c4=>?_)
      exact hK _ _ _ _ rfl ⟨_,_,c2,by rw[hd];exact (h2.mono c3 c4).put c1 _,by rw[zbq];exact h3.mono c3 c4⟩
     ·refine znt hc h1 h2 n3 hF hnd (fun w c1=>?_)
      exact hK _ _ _ _ rfl ⟨L,μ,h1,by rw[hd];exact h2.put c1 _,by rw[zbq];exact h3⟩
    ·cases hx

theorem znz {ops:Array Oper}{b:Array Nat}{call:CallF}(hcall:CallOk P C call){F:Fence}(hF:Wide (P:=P) F){nod:Bool}(hnod:nod=false→F.round=none){Q:Exit→Act→World→Prop}:
  ∀ {is:List Nat} {l:List AOp} {fl:List (Nat × List Nat)} {st st':St} {r:Option AV} {a:Act} {W:World},compOps P ops b is=some l→evOps C call E.pin nod false l fl st=some (r,st')→SR P C E st a W →
  (∀ a' W',r=none→SR P C E st' a' W'→Q .normal a' W')→(∀ v w a' W',r=some v→SRx P C E st' v w a' W'→Q (.panic (one w)) a' W')→wpOpsIn F 0 P ops Q is a W
 |[],l,fl,st,st',r,a,W,hl,hx,hs,h1,h2=>by
   cases hl
   cases hx
   exact h1 _ _ rfl hs
 |i::is,l,fl,st,st',r,a,W,hl,hx,hs,h1,h2=>by
  unfold compOps at hl
  split at hl<;>cases hl
  rename_i o' os e1 e2
  obtain ⟨o,ho,c1,c2,c3,c4,c5⟩:=zdx e1
  unfold evOps at hx
  unfold wpOpsIn
  rw[ho]
  simp only
  split at hx
  ·rename_i ft st1 hr
   exact ev1_wp hcall c1 c2 c3 hF hnod hr hs (fun ft' st2 a' W' e hs'=>by cases e;exact znz hcall hF hnod e2 hx hs' h1 h2) (fun _ _ _ _ _ e=>by cases e)
  ·rename_i v st1 hr
   cases hx
   exact ev1_wp hcall c1 c2 c3 hF hnod hr hs (fun _ _ _ _ e=>by cases e) (fun v' st2 w a' W' e hs'=>by cases e;exact h2 _ _ _ _ rfl hs')
  ·cases hx
end

def hang (acc:Array Nat)(o:Oper):Nat:=o.after.foldl (fun s e=>if Region.binds .any e then s ||| 2 ^ e.on ||| acc.getD e.on 0 else s) 0

theorem zwb (ops:Array Oper):Region.before ops=ops.toList.foldl (fun acc o=>acc.push (hang acc o)) #[]:=by
 unfold Region.before hang
 rw[Array.foldl_toList]

theorem zlc:∀ (l:List Oper) (acc:Array Nat),(∀ j,j<acc.size→(l.foldl (fun acc o=>acc.push (hang acc o)) acc)[j]?=acc[j]?) ∧
  ∀ (i:Nat) (o:Oper),l[i]?=some o→∃ acc':Array Nat,(∀ j k,(acc'.getD j 0).testBit k=true→((l.foldl (fun acc o=>acc.push (hang acc o)) acc).getD j 0).testBit k=true)∧(l.foldl (fun acc o=>acc.push (hang acc o)) acc)[acc.size+i]?=some (hang acc' o)
 |[],acc=>⟨fun _ _=>rfl,fun i o h=>by simp at h⟩
 |o::l,acc=>by
  obtain ⟨h1,h2⟩:=zlc l (acc.push (hang acc o))
  have hk:∀ j,j<acc.size→((o::l).foldl (fun acc o=>acc.push (hang acc o)) acc)[j]?=acc[j]?:=fun j hj=>by
   rw[List.foldl_cons,h1 j (by simp;omega),Array.getElem?_push_lt hj,Array.getElem?_eq_getElem hj]
  refine ⟨hk,fun i o' ho=>?_⟩
  cases i with
  |zero=>
   simp at ho;subst ho
   refine ⟨acc,fun j k hjk=>?_,?_⟩
   ·by_cases hj:j<acc.size
    ·rw[Array.getD_eq_getD_getElem?,hk j hj,← Array.getD_eq_getD_getElem?];exact hjk
    ·rw[Array.getD_eq_getD_getElem?,Array.getElem?_eq_none (by omega)] at hjk;simp at hjk
   ·rw[List.foldl_cons,Nat.add_zero,h1 acc.size (by simp)];simp
  |succ i=>
   obtain ⟨acc',g1,g2⟩:=h2 i o' (by simpa using ho)
   refine ⟨acc',g1,?_⟩
   rw[List.foldl_cons,show acc.size+(i+1)=(acc.push (hang acc o)).size+i by simp;omega]
   exact g2

theorem znr {acc:Array Nat}{k:Nat}:∀ (l:List Edge) (s:Nat),(l.foldl (fun s e=>if Region.binds .any e then s ||| 2 ^ e.on ||| acc.getD e.on 0 else s) s).testBit k=true ↔
  s.testBit k=true∨∃ e,e∈l∧Region.binds .any e=true∧(e.on=k∨(acc.getD e.on 0).testBit k=true)
 |[],s=>by simp
 |e::l,s=>by
  rw[List.foldl_cons,znr l]
  by_cases hb:Region.binds .any e=true
  ·simp only[hb,if_true,Nat.testBit_or,Bool.or_eq_true,Nat.testBit_two_pow,decide_eq_true_eq,List.mem_cons]
   constructor
   ·rintro ((h|h)|⟨e',h1,h2,h3⟩)
    ·rcases h with h|h
     ·exact .inl h
     ·exact .inr ⟨e,.inl rfl,hb,.inl h⟩
    ·exact .inr ⟨e,.inl rfl,hb,.inr h⟩
    ·exact .inr ⟨e',.inr h1,h2,h3⟩
   ·rintro (h|⟨e',h1|h1,h2,h3⟩)
    ·exact .inl (.inl (.inl h))
    ·subst h1
     rcases h3 with h3|h3
     ·exact .inl (.inl (.inr h3))
     ·exact .inl (.inr h3)
    ·exact .inr ⟨e',h1,h2,h3⟩
  ·simp only[hb,Bool.false_eq_true,if_false,List.mem_cons]
   constructor
   ·rintro (h|⟨e',h1,h2,h3⟩)
    ·exact .inl h
    ·exact .inr ⟨e',.inr h1,h2,h3⟩
   ·rintro (h|⟨e',h1|h1,h2,h3⟩)
    ·exact .inl h
    ·subst h1;exact absurd h2 hb
    ·exact .inr ⟨e',h1,h2,h3⟩

theorem zik {ops:Array Oper}{i:Nat}{o:Oper}(ho:ops[i]?=some o):(∀ e,e∈o.after→Region.binds .any e=true→((Region.before ops).getD i 0).testBit e.on=true) ∧
  ∀ k,((Region.before ops).getD i 0).testBit k=true→∃ e,e∈o.after∧Region.binds .any e=true∧(e.on=k∨((Region.before ops).getD e.on 0).testBit k=true):=by
 rw[zwb]
 obtain ⟨acc',h1,h2⟩:=(zlc ops.toList #[]).2 i o (by rw[Array.getElem?_toList];exact ho)
 simp only[List.size_toArray,List.length_nil,Nat.zero_add] at h2
 have hb:∀ k,((ops.toList.foldl (fun (acc:Array Nat) o=>acc.push (hang acc o)) #[]).getD i 0).testBit k=true↔∃ e,e∈o.after∧Region.binds .any e=true∧(e.on=k∨(acc'.getD e.on 0).testBit k=true):=fun k=>by
  rw[Array.getD_eq_getD_getElem?,h2]
  simp only[Option.getD_some]
  unfold hang
  rw[← Array.foldl_toList,znr]
  simp
 exact ⟨fun e he hbi => (hb _).2 ⟨e, he, hbi, .inl rfl⟩, fun k hk => by
  obtain ⟨e,e1,e2,e3⟩:=(hb k).1 hk
  exact ⟨e,e1,e2,e3.imp id (h1 _ _)⟩⟩

def Closed (ops:Array Oper)(D:Array Bool):Prop:=∀ i k,D.getD i false=true→((Region.before ops).getD i 0).testBit k=true→D.getD k false=true

theorem zhw {ops:Array Oper}{D:Array Bool}(hc:Closed ops D){i:Nat}(hr:i∈Region.ready .any ops D):D.getD i true=false∧(∃ o,ops[i]?=some o)∧∀ k,((Region.before ops).getD i 0).testBit k=true→D.getD k false=true:=by
 obtain ⟨h1,o,h2,h3⟩:=mem_ready.1 hr
 refine ⟨h1,⟨o,h2⟩,fun k hk=>?_⟩
 obtain ⟨e,e1,e2,e3⟩:=(zik h2).2 k hk
 have he:=h3 e e1 e2
 rcases e3 with rfl|e3
 ·exact he
 ·exact hc _ _ he e3

theorem zxq {ops:Array Oper}{D:Array Bool}{i:Nat}{o:Oper}(ho:ops[i]?=some o)(h0:D.getD i true=false)(h:∀ k,((Region.before ops).getD i 0).testBit k=true→D.getD k false=true):i∈Region.ready .any ops D:=
 mem_ready.2 ⟨h0,o,ho,fun e he hb=>h _ ((zik ho).1 e he hb)⟩

theorem Closed.set {ops:Array Oper}{D:Array Bool}(hc:Closed ops D){i:Nat}(h:∀ k,((Region.before ops).getD i 0).testBit k=true→D.getD k false=true):Closed ops (D.setIfInBounds i true):=fun j k hj hk=>by
 have hup:∀ m,D.getD m false=true→(D.setIfInBounds i true).getD m false=true:=fun m hm=>by
  by_cases e:i=m
  ·subst e
   rw[Array.getD_eq_getD_getElem?] at hm ⊢
   rw[Array.getElem?_setIfInBounds_self]
   split
   ·rfl
   ·rename_i hn;rw[Array.getElem?_eq_none (by omega)] at hm;exact hm
  ·rw[Array.getD_eq_getD_getElem?] at hm ⊢
   rw[Array.getElem?_setIfInBounds_ne e];exact hm
 by_cases e:i=j
 ·subst e;exact hup _ (h k hk)
 ·refine hup _ (hc j k ?_ hk)
  rw[Array.getD_eq_getD_getElem?] at hj ⊢
  rwa [Array.getElem?_setIfInBounds_ne e] at hj

theorem zfv:∀ {l acc:List AOp} {done:Nat},okDraw done acc l=true→(∀ p,p∈acc→∀ o,o∈l→okPair p o=true)∧l.Pairwise fun p o=>okPair p o=true
 |[],acc,done,_=>⟨fun _ _ _ h=>by simp at h,.nil⟩
 |o::l,acc,done,h=>by
  unfold okDraw at h
  simp only[Bool.and_eq_true] at h
  obtain ⟨⟨h1,_⟩,h3⟩:=h
  rw[List.all_eq_true] at h1
  obtain ⟨g1,g2⟩:=zfv h3
  refine ⟨fun p hp o' ho'=>?_,?_⟩
  ·rcases List.mem_cons.1 ho' with rfl|ho'
   ·exact h1 p hp
   ·exact g1 p (List.mem_cons_of_mem _ hp) o' ho'
  ·exact List.pairwise_cons.2 ⟨fun o' ho'=>g1 o (List.mem_cons_self ..) o' ho',g2⟩

theorem zby {l:List AOp}(h:okDraw 0 [] l=true){i j:Nat}{p o:AOp}(hi:l[i]?=some p)(hj:l[j]?=some o)(hij:i<j):okPair p o=true:=by
 have:=(zfv h).2
 rw[List.pairwise_iff_getElem] at this
 obtain ⟨hi',rfl⟩:=List.getElem?_eq_some_iff.1 hi
 obtain ⟨hj',rfl⟩:=List.getElem?_eq_some_iff.1 hj
 exact this i j hi' hj' hij

theorem zgr:∀ {l acc:List AOp} {done:Nat},okDraw done acc l=true→∀ (i:Nat) (o:AOp),l[i]?=some o→∀ k,o.deps.testBit k=true→done.testBit k=true∨∃ i' o',i'<i∧l[i']?=some o'∧o'.ix=k
 |[],acc,done,_,i,o,ho,k,hk=>by simp at ho
 |o0::l,acc,done,h,i,o,ho,k,hk=>by
  unfold okDraw at h
  simp only[Bool.and_eq_true] at h
  obtain ⟨⟨_,h2⟩,h3⟩:=h
  cases i with
  |zero=>
   simp at ho;subst ho
   rw[beq_iff_eq] at h2
   rw[← h2,Nat.testBit_and,Bool.and_eq_true] at hk
   exact .inl hk.2
  |succ i=>
   rcases zgr h3 i o (by simpa using ho) k hk with h'|⟨i',o',a1,a2,a3⟩
   ·rw[Nat.testBit_or,Bool.or_eq_true,Nat.testBit_two_pow,decide_eq_true_eq] at h'
    rcases h' with h'|h'
    ·exact .inl h'
    ·exact .inr ⟨0,o0,by omega,rfl,h'⟩
   ·exact .inr ⟨i'+1,o',by omega,by simpa using a2,a3⟩

theorem zfo {ops:List AOp}:∀ {n:Nat} {todo acc:List AOp} {done:Nat} {l:List AOp},greedy ops n todo acc done=some l→∀ o,o∈l→o∈todo∨o∈acc
 |0,[],acc,done,l,h,o,ho=>by simp[greedy] at h;subst h;exact .inr (by simpa using ho)
 |0,_::_,acc,done,l,h,o,ho=>by simp[greedy] at h
 |n+1,[],acc,done,l,h,o,ho=>by simp[greedy] at h;subst h;exact .inr (by simpa using ho)
 |n+1,t::todo,acc,done,l,h,o,ho=>by
  simp only[greedy] at h
  split at h
  ·rename_i o1 h1
   rcases zfo h o ho with h'|h'
   ·exact .inl (List.mem_filter.1 h').1
   ·rcases List.mem_cons.1 h' with rfl|h'
    ·exact .inl (List.mem_of_find?_eq_some h1)
    ·exact .inr h'
  ·split at h
   ·rename_i o1 h1
    rcases zfo h o ho with h'|h'
    ·exact .inl (List.mem_filter.1 h').1
    ·rcases List.mem_cons.1 h' with rfl|h'
     ·exact .inl (List.mem_of_find?_eq_some h1)
     ·exact .inr h'
   ·cases h

theorem zhg {P:Program}{ops:Array Oper}{b:Array Nat}:∀ {is:List Nat} {l:List AOp},compOps P ops b is=some l→∀ o,o∈l→∃ i,i∈is∧compAt P ops b i=some o
 |[],l,h,o,ho=>by simp[compOps] at h;subst h;simp at ho
 |i::is,l,h,o,ho=>by
  unfold compOps at h
  split at h<;>cases h
  rename_i o' os e1 e2
  rcases List.mem_cons.1 ho with rfl|ho
  ·exact ⟨i,List.mem_cons_self ..,e1⟩
  ·obtain ⟨j,hj,h'⟩:=zhg e2 o ho
   exact ⟨j,List.mem_cons_of_mem _ hj,h'⟩

inductive Stp (C:Cfg) (call:CallF) (pin:Nat) (fl:List (Nat × List Nat)) (o:AOp) (st:St):Option (List Nat)→St→Prop
 |skip:wantG (val C st.tm) o.guard=some false→Stp C call pin fl o st none { st with tm:=putT st.tm o.dst (.tup []) }
 |spine {v:AV} {hp:List AB} {tc:List Nat}:wantG (val C st.tm) o.guard=some true→spineK o.op=true→spine call (val C st.tm) st.hp o.op=some (.ret v,hp,tc) →
   (∀ p,p∈fl→o.deps.testBit p.1=true∨∀ b,b∈p.2→b∉tc)→Stp C call pin fl o st none { st with hp:=hp,tm:=putT st.tm o.dst v,tc:=tc.filter (·<pin)++st.tc }
 |float {v:AV} {hp:List AB} {ft:List Nat}:wantG (val C st.tm) o.guard=some true→spineK o.op=false→float (val C st.tm) st.hp o.op=some (v,hp,ft) →
   Stp C call pin fl o st (some ft) { st with hp:=hp,tm:=putT st.tm o.dst v }

theorem zrn {xs ys:List Nat}(h:apart xs ys=true):∀ b,b∈xs→b∉ys:=by
 unfold apart at h
 intro b hb hy
 have:=List.all_eq_true.1 h b hb
 simp[hy] at this
theorem zqo {fl:List (Nat × List Nat)}{deps:Nat}{tc:List Nat}(h:fl.all (fun p=>deps.testBit p.1 || apart p.2 tc)=true):∀ p,p∈fl→deps.testBit p.1=true∨∀ b,b∈p.2→b∉tc:=by
 intro p hp
 have:=List.all_eq_true.1 h p hp
 rw[Bool.or_eq_true] at this
 exact this.imp id zrn

theorem zvm {C:Cfg}{call:CallF}{pin:Nat}{nod:Bool}{fl:List (Nat × List Nat)}{o:AOp}{st:St}{r:O1}(h:ev1 C call pin nod true fl o st=some r):
  (∃ ft st',r=.next ft st'∧Stp C call pin fl o st ft st')∨(∃ v hp tc,r=.pan v { st with hp:=hp,tc:=tc.filter (·<pin)++st.tc }∧wantG (val C st.tm) o.guard=some true∧spineK o.op=true∧spine call (val C st.tm) st.hp o.op=some (.pan v,hp,tc)):=by
 unfold ev1 at h
 split at h
 ·cases h
 ·rename_i hw
  cases h
  exact .inl ⟨_,_,rfl,.skip hw⟩
 ·rename_i hw
  split at h
  ·split at h<;>simp at h
  ·rename_i k hk
   rw[Bool.cond_eq_ite] at h
   split at h
   ·rename_i hs
    split at h
    ·rename_i v hp tc hsp
     rw[Bool.not_true,Bool.false_or,Bool.cond_eq_ite,Option.ite_none_right_eq_some] at h
     obtain ⟨h1,h2⟩:=h
     cases h2
     exact .inl ⟨_,_,rfl,.spine hw hs hsp (zqo h1)⟩
    ·rename_i v hp tc hsp
     rw[Bool.not_true,Bool.false_or,Bool.cond_eq_ite,Option.ite_none_right_eq_some] at h
     obtain ⟨h1,h2⟩:=h
     cases h2
     exact .inr ⟨_,_,_,rfl,hw,hs,hsp⟩
    ·cases h
   ·rename_i hs
    split at h
    ·rename_i v hp ft hfl
     cases h
     exact .inl ⟨_,_,rfl,.float hw (by simpa using hs) hfl⟩
    ·cases h

structure Tr (C:Cfg) (call:CallF) (pin:Nat) (l:List AOp) (S:Nat→St) (FL:Nat→List (Nat × List Nat)) (m:Nat):Prop where
 le:m≤l.length
 step:∀ p,p<m→∃ o ft,l[p]?=some o∧Stp C call pin (FL p) o (S p) ft (S (p+1))∧FL (p+1)=addFl o.ix ft (FL p)

theorem zoa {C:Cfg}{call:CallF}{pin:Nat}{nod:Bool}:∀ {l:List AOp} {fl:List (Nat × List Nat)} {st st':St} {r:Option AV},evOps C call pin nod true l fl st=some (r,st') →
  ∃ S FL m, S 0 = st ∧ FL 0 = fl ∧ Tr C call pin l S FL m ∧ ((r = none ∧ m = l.length ∧ st' = S m) ∨
   ∃ v o hp tc,r=some v∧l[m]?=some o∧wantG (val C (S m).tm) o.guard=some true∧spineK o.op=true∧spine call (val C (S m).tm) (S m).hp o.op=some (.pan v,hp,tc)∧st'={ S m with hp:=hp,tc:=tc.filter (·<pin)++(S m).tc })
 |[],fl,st,st',r,h=>by
   cases h
   exact ⟨fun _=>st,fun _=>fl,0,rfl,rfl,⟨Nat.le_refl _,fun p hp=>by omega⟩,.inl ⟨rfl,rfl,rfl⟩⟩
 |o::l,fl,st,st',r,h=>by
  unfold evOps at h
  split at h
  ·rename_i ft st1 h1
   rcases zvm h1 with ⟨ft',st2,e,hs⟩|⟨v,hp,tc,e,_⟩
   ·cases e
    obtain ⟨S,FL,m,s0,f0,ht,hend⟩:=zoa h
    refine ⟨fun p=>match p with|0=>st|p+1=>S p,fun p=>match p with|0=>fl|p+1=>FL p,m+1,rfl,rfl,⟨by simp;exact ht.le,fun p hp=>?_⟩,?_⟩
    ·cases p with
     |zero=>exact ⟨o,ft,rfl,by simp only[s0];exact hs,by simp only[f0]⟩
     |succ p=>
      obtain ⟨o',ft',a1,a2,a3⟩:=ht.step p (by omega)
      exact ⟨o',ft',by simpa using a1,a2,a3⟩
    ·rcases hend with ⟨a1,a2,a3⟩|⟨v,o',hp,tc,a1,a2,a3⟩
     ·exact .inl ⟨a1,by simp[a2],a3⟩
     ·exact .inr ⟨v,o',hp,tc,a1,by simpa using a2,a3⟩
   ·cases e
  ·rename_i v st1 h1
   cases h
   rcases zvm h1 with ⟨ft',st2,e,hs⟩|⟨v',hp,tc,e,b1,b2,b3⟩
   ·cases e
   ·cases e
    exact ⟨fun _=>st,fun _=>fl,0,rfl,rfl,⟨by simp,fun p hp=>by omega⟩,.inr ⟨v,o,hp,tc,rfl,rfl,b1,b2,b3,rfl⟩⟩
  ·cases h

theorem zgw {tm:List AV}{dst:Option Nat}{v:AV}{t:Nat}(h:dst≠some t):(putT tm dst v).getD t .unk=tm.getD t .unk:=by
 cases dst with
 |none=>rfl
 |some d=>
  have hd:d≠t:=fun e=>h (by rw[e])
  simp only[putT]
  rw[List.getD_eq_getElem?_getD,List.getElem?_set_ne hd,List.getD_eq_getElem?_getD]
theorem len_putT {tm:List AV}{dst:Option Nat}{v:AV}:(putT tm dst v).length=tm.length:=by
 cases dst<;>simp[putT]
theorem zpp {tm tm':List AV}{d:Nat}{v:AV}(h:tm.length=tm'.length):(putT tm (some d) v).getD d .unk=(putT tm' (some d) v).getD d .unk:=by
 simp only[putT]
 rw[List.getD_eq_getElem?_getD,List.getD_eq_getElem?_getD,List.getElem?_set_self',List.getElem?_set_self']
 by_cases hd:d<tm.length
 ·rw[List.getElem?_eq_getElem hd,List.getElem?_eq_getElem (h ▸ hd)];rfl
 ·rw[List.getElem?_eq_none (by omega),List.getElem?_eq_none (by omega)]

section
variable {C:Cfg} {call:CallF} {pin:Nat} {l:List AOp} {S:Nat→St} {FL:Nat→List (Nat × List Nat)} {m:Nat}

theorem Stp.tm {fl:List (Nat × List Nat)}{o:AOp}{st st':St}{ft:Option (List Nat)}(h:Stp C call pin fl o st ft st'):∃ v,st'.tm=putT st.tm o.dst v:=by
 cases h with
 |skip=>exact ⟨_,rfl⟩
 |spine=>exact ⟨_,rfl⟩
 |float=>exact ⟨_,rfl⟩
theorem Stp.df {fl:List (Nat × List Nat)}{o:AOp}{st st':St}{ft:Option (List Nat)}(h:Stp C call pin fl o st ft st'):st'.df=st.df:=by
 cases h<;>rfl
theorem Stp.len (hf:CallFr call){fl:List (Nat × List Nat)}{o:AOp}{st st':St}{ft:Option (List Nat)}(h:Stp C call pin fl o st ft st'):st.hp.length≤st'.hp.length:=by
 cases h with
 |skip=>exact Nat.le_refl _
 |spine _ _ hs=>exact (zhr hf hs).1
 |float _ _ hfl=>
  rcases zed hfl with ⟨blk,mk,_,_,rfl,_⟩|⟨_,rfl,_⟩
  ·simp
  ·exact Nat.le_refl _

theorem Tr.tmlen (h:Tr C call pin l S FL m):∀ p,p≤m→(S p).tm.length=(S 0).tm.length∧(S p).df=(S 0).df
 |0,_=>⟨rfl,rfl⟩
 |p+1,hp=>by
  obtain ⟨o,ft,_,h2,_⟩:=h.step p (by omega)
  obtain ⟨v,hv⟩:=h2.tm
  obtain ⟨g1,g2⟩:=h.tmlen p (by omega)
  exact ⟨by rw[hv,len_putT];exact g1,h2.df.trans g2⟩

theorem Tr.mono (hf:CallFr call)(h:Tr C call pin l S FL m){p:Nat}:∀ k,p+k≤m→(S p).hp.length≤(S (p+k)).hp.length
 |0,_=>Nat.le_refl _
 |k+1,hk=>by
  obtain ⟨o,ft,_,h2,_⟩:=h.step (p+k) (by omega)
  exact Nat.le_trans (h.mono hf k (by omega)) (h2.len hf)
theorem Tr.mono' (hf:CallFr call)(h:Tr C call pin l S FL m){p q:Nat}(hpq:p≤q)(hq:q≤m):(S p).hp.length≤(S q).hp.length:=by
 have:=h.mono hf (p:=p) (q - p) (by omega)
 rwa [show p+(q - p)=q by omega] at this

theorem Tr.tmA (h:Tr C call pin l S FL m){p t:Nat}:∀ k,p+k≤m→(∀ i o,p≤i→i<p+k→l[i]?=some o→o.dst≠some t)→(S (p+k)).tm.getD t .unk=(S p).tm.getD t .unk
 |0,_,_=>rfl
 |k+1,hk,hn=>by
  obtain ⟨o,ft,h1,h2,_⟩:=h.step (p+k) (by omega)
  obtain ⟨v,hv⟩:=h2.tm
  rw[← Nat.add_assoc,hv,zgw (hn _ _ (by omega) (by omega) h1)]
  exact h.tmA k (by omega) fun i o h1 h2=>hn i o h1 (by omega)

theorem Tr.tm_at (h:Tr C call pin l S FL m)(hok:okDraw 0 [] l=true){q t:Nat}(hq:q≤m):
  ((∃ p o,p<q∧l[p]?=some o∧o.dst=some t)→(S q).tm.getD t .unk=(S m).tm.getD t .unk)∧((∀ p o,p<q→l[p]?=some o→o.dst≠some t)→(S q).tm.getD t .unk=(S 0).tm.getD t .unk):=by
 constructor
 ·rintro ⟨p,o,hp,ho,hd⟩
  have:=h.tmA (p:=q) (t:=t) (m - q) (by omega) fun i o' h1 h2 h3 h4=>by
   have hpair:=zby hok ho h3 (by omega)
   unfold okPair at hpair
   simp only[Bool.and_eq_true] at hpair
   have:=hpair.1.2
   rw[hd,h4] at this
   simp at this
  rw[show q+(m - q)=m by omega] at this
  exact this.symm
 ·intro hn
  have:=h.tmA (p:=0) (t:=t) q (by omega) fun i o _ h2 h3=>hn i o (by omega) h3
  rwa [Nat.zero_add] at this

theorem Tr.fl (h:Tr C call pin l S FL m){p:Nat}{o:AOp}{ft:List Nat}(ho:l[p]?=some o)(hf:FL (p+1)=addFl o.ix (some ft) (FL p)):∀ k,p+1+k≤m→(o.ix,ft)∈FL (p+1+k)
 |0,_=>by rw[Nat.add_zero,hf];exact List.mem_cons_self ..
 |k+1,hk=>by
  obtain ⟨o',ft',_,_,h3⟩:=h.step (p+1+k) (by omega)
  have ih:=h.fl ho hf k (by omega)
  rw[← Nat.add_assoc,h3]
  cases ft' with
  |none=>exact ih
  |some f=>exact List.mem_cons_of_mem _ ih

theorem Tr.kept (hf:CallFr call)(h:Tr C call pin l S FL m){p:Nat}{o:AOp}{ft:List Nat}(ho:l[p]?=some o)(hfl:FL (p+1)=addFl o.ix (some ft) (FL p))(hlt:∀ b,b∈ft→b<(S (p+1)).hp.length):
  ∀ k,p+1+k≤m→(∀ i o',p+1≤i→i<p+1+k→l[i]?=some o'→spineK o'.op=true→o'.deps.testBit o.ix=false)→∀ b,b∈ft→(S (p+1+k)).hp[b]?=(S (p+1)).hp[b]?
 |0,_,_,_,_=>rfl
 |k+1,hk,hn,b,hb=>by
  obtain ⟨o',ft',h1,h2,_⟩:=h.step (p+1+k) (by omega)
  rw[← Nat.add_assoc,← h.kept hf ho hfl hlt k (by omega) (fun i o' h1 h2=>hn i o' h1 (by omega)) b hb]
  have hbl:b<(S (p+1+k)).hp.length:=Nat.lt_of_lt_of_le (hlt b hb) (h.mono hf k (by omega))
  generalize (S (p+1+k+1))=st' at h2
  cases h2 with
  |skip=>rfl
  |spine _ hs hsp hap=>
   refine (zhr hf hsp).2 b hbl ?_
   rcases hap _ (h.fl ho hfl k (by omega)) with h'|h'
   ·rw[hn _ _ (by omega) (by omega) h1 hs] at h';cases h'
   ·exact h' b hb
  |float _ _ hfl'=>
   rcases zed hfl' with ⟨blk,mk,_,_,rfl,_⟩|⟨_,rfl,_⟩
   ·exact List.getElem?_append_left hbl
   ·rfl

theorem nextSpine {l:List AOp}{m:Nat}(hm:m≤l.length)(hend:m=l.length∨∃ o,l[m]?=some o∧spineK o.op=true):∀ k p,p+k=m→∃ q,p≤q∧q≤m∧(∀ i o,p≤i→i<q→l[i]?=some o→spineK o.op=false)∧(q=l.length∨∃ o,l[q]?=some o∧spineK o.op=true)
 |0,p,hp=>⟨p,Nat.le_refl _,by omega,fun i o h1 h2=>by omega,by rw[Nat.add_zero] at hp;rw[hp];exact hend⟩
 |k+1,p,hp=>by
  have hpl:p<l.length:=by omega
  by_cases hs:spineK l[p].op=true
  ·exact ⟨p,Nat.le_refl _,by omega,fun i o h1 h2=>by omega,.inr ⟨l[p],List.getElem?_eq_getElem hpl,hs⟩⟩
  ·obtain ⟨q,h1,h2,h3,h4⟩:=nextSpine hm hend k (p+1) (by omega)
   refine ⟨q,by omega,h2,fun i o g1 g2 g3=>?_,h4⟩
   by_cases hi:i=p
   ·subst hi
    rw[List.getElem?_eq_getElem hpl] at g3;cases g3
    simpa using hs
   ·exact h3 i o (by omega) g2 g3

theorem Tr.float_push {P:Program}{E:Ent}{W:World}{L:Nat→Prop}{μ:Mu}(h:Tr C call pin l S FL m){p:Nat}:∀ k,p+k≤m→(∀ i o,p≤i→i<p+k→l[i]?=some o→spineK o.op=false)→Hp P E (S p).tc W L μ (S p).hp →
  Hp P E (S (p+k)).tc W L μ (S (p+k)).hp
 |0,_,_,hh=>hh
 |k+1,hk,hn,hh=>by
  obtain ⟨o,ft,h1,h2,_⟩:=h.step (p+k) (by omega)
  have ih:=h.float_push k (by omega) (fun i o h1 h2=>hn i o h1 (by omega)) hh
  have hs:=hn (p+k) o (by omega) (by omega) h1
  rw[← Nat.add_assoc]
  generalize (S (p+k+1))=st' at h2
  cases h2 with
  |skip=>exact ih
  |spine _ hs'=>rw[hs] at hs';cases hs'
  |float _ _ hfl=>
   rcases zed hfl with ⟨blk,mk,_,_,rfl,_⟩|⟨_,rfl,_⟩
   ·exact ih.push _
   ·exact ih
end
end Ev
end Go.Proofs.YtfpepkbflnendaaGreat
