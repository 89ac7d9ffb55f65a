/- What the rows of chapter 09 share. -/
import Derived.Test.YtimgnlellflciaaGreatCsPD
import Derived.Test.YtimgnlellflciaaGreatCsPB
import Derived.Test.YtimgnlellflciaaGreatCsED
import Derived.Test.YtimgnlellflciaaGreatRows
import Derived.WalkKit
import Derived.ProofKit
import Derived.OpenShut
import Derived.KernelRfl
import Derived.Deep.Slices
import Derived.Deep.Fields
import Derived.ChangeSame
/- Package clamp, told: the configuration that its functions were gone through in. -/
namespace Go.Proofs.YtimgnlellflciaaGreat
open Go Go.Proofs Go.RowKit
namespace Ev
namespace K
set_option maxRecDepth 100000
set_option maxHeartbeats 4000000
theorem zdr (W:World)(L:Nat→Prop)(C:Cfg):Globs C W L:=fun g cs h=>by cases h
theorem tblS:TblOk Tryz.prog cfgS:=⟨fun f fn h=>FT.find_all znn h,fun _ _ h=>(by cases h),fun _ _ h=>(by cases h),fun _ _ _ h=>(by cases h)⟩
noncomputable def allB (p:AFunc→Bool):FT→Bool:=fun t=>FT.rec true (fun _ f _ _ ihl ihr=>Q.andB (p f) (Q.andB ihl ihr)) t
theorem zlm {p:AFunc→Bool}:∀ {t:FT},allB p t=true→FT.All (fun _ f=>p f=true) t
  |.leaf,_=>trivial
  |.node k f l r,h=>by
    have e:allB p (.node k f l r)=Q.andB (p f) (Q.andB (allB p l) (allB p r)):=rfl
    rw[e,Q.andB_eq,Q.andB_eq,Bool.and_eq_true,Bool.and_eq_true] at h
    exact ⟨h.1,zlm h.2.1,zlm h.2.2⟩
theorem all_ok:allB Q.okF fnTree=true:=by kernel_rfl
theorem quickS:Q.Quick cfgS:=⟨fun _=>rfl,fun _ _ h=>FT.find_all (zlm all_ok) h⟩
theorem zwz:∀ {l:List AV} {m:List Nat},eqCs l m=true→l=m.map setE
  |[],[],_=>rfl
  |[],b::m,h=>by cases h
  |v::l,[],h=>by cases h
  |v::l,b::m,h=>by
    cases v with
    |int k n=>
      cases k with
      |u64=>
        cases n with
        |ofNat a=>
          have e:eqCs (.int .u64 (.ofNat a)::l) (b::m)=Q.andB (Nat.beq a b) (eqCs l m):=rfl
          rw[e,Q.andB_eq,Bool.and_eq_true] at h
          rw[Nat.eq_of_beq_eq_true h.1,zwz h.2];rfl
        |negSucc a=>cases h
      |_=>cases h
    |_=>cases h
theorem zui {k:Nat}(h:setsB k (Q.callQ cfgS 30 (.fn (.func 61) [] []) [.int .i64 k] (.e Q.cap) 0)=true):
    ∃ b H' tc,Ev.call cfgS 30 (.fn (.func 61) [] []) [.int .i64 k] []=some (.ret (.sl b 0 (2 ^ k) 1),H',tc)∧H'[b]?=some (.cells ((Clm.setsBy k).map setE)):=by
  generalize hr:Q.callQ cfgS 30 (.fn (.func 61) [] []) [.int .i64 k] (.e Q.cap) 0=r at h
  unfold setsB at h
  split at h
  · rename_i b n hp m tc
    rw[Q.andB_eq,Bool.and_eq_true] at h
    obtain ⟨h1,h2⟩:=h
    have hf:=(Q.found quickS Q.wh_empty hr).1
    have hn:=Nat.eq_of_beq_eq_true h1
    subst hn
    split at h2
    · rename_i cs hcs
      exact ⟨b,_,tc,hf,by rw[hcs,zwz h2]⟩
    · cases h2
  · cases h
theorem zyg:∀ k,k≤6→setsB k (Q.callQ cfgS 30 (.fn (.func 61) [] []) [.int .i64 k] (.e Q.cap) 0)=true
  |0,_=>sets_0
  |1,_=>sets_1
  |2,_=>sets_2
  |3,_=>sets_3
  |4,_=>sets_4
  |5,_=>sets_5
  |6,_=>sets_6
  |k+7,h=>absurd h (by omega)
def gSets (args:List AV)(_:List AB):Option AV:=match args with
  |[.int .i64 n]=>if 0≤n∧n≤6 then some (.vs 1 ((Clm.setsBy n.toNat).map setE)) else none
  |_=>none
noncomputable def exthK (f:Nat):Option (List AV→List AB→Option AV):=if f=61 then some gSets else none
noncomputable def cfgK:Cfg where
  fns:=FT.find fnTree
  glob:=fun _=>none
  dfk:=fun f=>Bool.rec none (some (104,true)) (memN closures f)
  ext:=fun _=>none
  exth:=exthK
  calm:=true
  whole:=fun _=>true
theorem known (f : Nat) (h : ∃ F, Tryz.prog.funcs[f]? = some F ∧ (F.name == "runtime.NumGoroutine")=false∧∃ af:AFunc,compFn Tryz.prog F=some af.strip):∃ F,Tryz.prog.funcs[f]?=some F∧(F.name== "runtime.NumGoroutine")=false∧F.body.isNone=false:=by
  obtain ⟨F,f1,f2,af,f3⟩:=h
  obtain ⟨c,g1,_⟩:=ziz f3
  exact ⟨F,f1,f2,by rw[g1];rfl⟩
theorem tblK:TblOk Tryz.prog cfgK:=by
  refine ⟨fun f fn h=>FT.find_all znn h,fun _ _ h=>(by cases h),fun f g h=>?_,dfk_ok⟩
  have h':exthK f=some g:=h
  unfold exthK at h'
  split at h'
  · rename_i hf
    subst hf
    cases h'
    obtain ⟨F,f1,f2,f3⟩:=is61
    refine ⟨known _ ⟨F,f1,f2,_,f3⟩,fun args H v rargs W L μ hv hr hs hG=>?_⟩
    unfold gSets at hv
    split at hv
    · rename_i n
      split at hv
      · rename_i hn
        cases hv
        obtain ⟨m,rfl⟩:=Int.eq_ofNat_of_zero_le hn.1
        obtain ⟨b,H',tc,c1,c2⟩:=zui (zyg m (by omega))
        rw[Int.toNat_natCast]
        refine zrj tblS c1 c2 (by rw[List.length_map,Clm.sets_len (by omega)]) (fun y hy=>?_) (zdr _ _ _) ?_ hs.lt
        · obtain ⟨s,_,rfl⟩:=List.mem_map.1 hy;exact ⟨_,_,rfl⟩
        · refine ⟨hr.1,fun i x r hx hr'=>?_⟩
          match i,hx with
          |0,hx=>
            cases hx
            exact zcu (.inl ⟨_,_,rfl⟩) (hr.2 0 _ r rfl hr')
          |i+1,hx=>simp at hx
      · cases hv
    · cases hv
  · cases h'
end K
end Ev
end Go.Proofs.YtimgnlellflciaaGreat

/- Clamps as values of the evaluator, wherever their lists lie. -/
namespace Go.Proofs.YtimgnlellflciaaGreat
open Go
namespace Ev
namespace K
set_option maxRecDepth 100000
def pileCs:List Clm.Pl→List AV
  |[]=>[]
  |p::l=>.int .i64 p.long.lo::.int .i64 p.long.hi::.int .i64 p.wide.lo::.int .i64 p.wide.hi::.int .i64 p.high.lo::.int .i64 p.high.hi::pileCs l
def evtCs:List Clm.Evt→List AV
  |[]=>[]
  |e::l=>.int .i64 e.kind::.int .i64 e.clamp::.int .i64 e.sods.lo::.int .i64 e.sods.hi::evtCs l
def pilesC:List AV→Option (List Clm.Pl)
  |[]=>some []
  |.int .i64 a::.int .i64 b::.int .i64 c::.int .i64 d::.int .i64 e::.int .i64 f::l=>(pilesC l).map (⟨⟨a,b⟩,⟨c,d⟩,⟨e,f⟩⟩::·)
  |_=>none
def evtsC:List AV→Option (List Clm.Evt)
  |[]=>some []
  |.int .i64 a::.int .i64 b::.int .i64 c::.int .i64 d::l=>(evtsC l).map (⟨a,b,⟨c,d⟩⟩::·)
  |_=>none
@[simp] theorem zuy:∀ l,pilesC (pileCs l)=some l
  |[]=>rfl
  |p::l=>by simp[pileCs,pilesC,zuy l]
@[simp] theorem zzq:∀ l,evtsC (evtCs l)=some l
  |[]=>rfl
  |e::l=>by simp[evtCs,evtsC,zzq l]
theorem zuz:∀ {cs l},pilesC cs=some l→cs=pileCs l:=by
  intro cs
  induction cs using pilesC.induct with
  |case1=>intro l h;cases h;rfl
  |case2 a b c d e f cs ih=>
    intro l h
    obtain ⟨l',h1,rfl⟩:=Option.map_eq_some_iff.1 h
    rw[ih h1];rfl
  |case3 cs h1 h2=>intro l h;unfold pilesC at h;split at h<;>first|exact absurd rfl h1|exact (h2 _ _ _ _ _ _ _ rfl).elim|cases h
theorem zzr:∀ {cs l},evtsC cs=some l→cs=evtCs l:=by
  intro cs
  induction cs using evtsC.induct with
  |case1=>intro l h;cases h;rfl
  |case2 a b c d cs ih=>
    intro l h
    obtain ⟨l',h1,rfl⟩:=Option.map_eq_some_iff.1 h
    rw[ih h1];rfl
  |case3 cs h1 h2=>intro l h;unfold evtsC at h;split at h<;>first|exact absurd rfl h1|exact (h2 _ _ _ _ _ rfl).elim|cases h
@[simp] theorem zke:∀ l:List Clm.Pl,elemCells (l.map pileE)=pileCs l
  |[]=>rfl
  |p::l=>by simp[elemCells,pileE,AV.cells,pileCs,zke l]
@[simp] theorem znb:∀ l:List Clm.Evt,elemCells (l.map evtE)=evtCs l
  |[]=>rfl
  |p::l=>by simp[elemCells,evtE,AV.cells,evtCs,znb l]
def pilesV (H:List AB)(v:AV)(l:List Clm.Pl):Prop:=slCells 6 H v=some (pileCs l)
def evtsV (H:List AB)(v:AV)(l:List Clm.Evt):Prop:=slCells 4 H v=some (evtCs l)
def clOf (H:List AB)(v:AV):Option Clm.Cl:=match v with
  | .agg [pv, .int .i64 a, .int .i64 b, ev] => (match (slCells 6 H pv).bind pilesC, (slCells 4 H ev).bind evtsC with
    |some ps,some es=>if ps.length≤40∧es.length≤41 then some ⟨ps,⟨a,b⟩,es⟩ else none
    |_,_=>none)
  |_=>none
theorem ybl {H:List AB}{pv ev:AV}{a b:Int}{ps:List Clm.Pl}{es:List Clm.Evt}(h1:pilesV H pv ps)(h2:evtsV H ev es)(hp:ps.length≤40)(he:es.length≤41):clOf H (.agg [pv,.int .i64 a,.int .i64 b,ev])=some ⟨ps,⟨a,b⟩,es⟩:=by
  unfold pilesV at h1
  unfold evtsV at h2
  simp[clOf,h1,h2,hp,he]
theorem zqx {H:List AB}{v:AV}{c:Clm.Cl}(h:clOf H v=some c):∃ pv ev,v=.agg [pv,.int .i64 c.pack.lo,.int .i64 c.pack.hi,ev]∧pilesV H pv c.piles∧evtsV H ev c.events∧c.piles.length≤40∧c.events.length≤41:=by
  unfold clOf at h
  split at h
  · rename_i pv a b ev
    split at h
    · rename_i ps es h1 h2
      split at h
      · rename_i hb
        cases h
        obtain ⟨c1,e1,f1⟩:=Option.bind_eq_some_iff.1 h1
        obtain ⟨c2,e2,f2⟩:=Option.bind_eq_some_iff.1 h2
        exact ⟨pv,ev,rfl,by unfold pilesV;rw[e1,zuz f1],by unfold evtsV;rw[e2,zzr f2],hb.1,hb.2⟩
      · cases h
    · cases h
  · cases h
theorem zux (H:List AB)(l:List Clm.Pl):pilesV H (.vs 6 (l.map pileE)) l:=by simp[pilesV,slCells]
theorem zzp (H:List AB)(l:List Clm.Evt):evtsV H (.vs 4 (l.map evtE)) l:=by simp[evtsV,slCells]
theorem zot (H:List AB)(c:Clm.Cl)(hp:c.piles.length≤40)(he:c.events.length≤41):clOf H (.agg (clampCs c))=some c:=ybl (zux H c.piles) (zzp H c.events) hp he
end K
end Ev
end Go.Proofs.YtimgnlellflciaaGreat

/- Package clamp, told to its laws. -/
namespace Go.Proofs.YtimgnlellflciaaGreat
open Go Go.Proofs Go.RowKit
namespace Ev
namespace K
set_option maxRecDepth 100000
set_option maxHeartbeats 4000000
theorem has_of {C:Cfg}{f:Nat}{af:AFunc}(h1:C.ext f=none)(h2:C.exth f=none)(h3:C.fns f=some af)(h4:C.whole f=true):Has C f af:=⟨h1,h2,h3,h4⟩
theorem knowsK:Knows cfgK where
  calm:=rfl
  none:=has_of rfl rfl (by kernel_rfl) rfl
  some:=has_of rfl rfl (by kernel_rfl) rfl
  either:=has_of rfl rfl (by kernel_rfl) rfl
  both:=has_of rfl rfl (by kernel_rfl) rfl
  ca:=has_of rfl rfl (by kernel_rfl) rfl
  cb:=has_of rfl rfl (by kernel_rfl) rfl
  sa:=has_of rfl rfl (by kernel_rfl) rfl
  sb:=has_of rfl rfl (by kernel_rfl) rfl
  within:=has_of rfl rfl (by kernel_rfl) rfl
  at_:=has_of rfl rfl (by kernel_rfl) rfl
  areSods:=has_of rfl rfl (by kernel_rfl) rfl
  isSpan:=has_of rfl rfl (by kernel_rfl) rfl
  product:=has_of rfl rfl (by kernel_rfl) rfl
  sods:=has_of rfl rfl (by kernel_rfl) rfl
  must:=has_of rfl rfl (by kernel_rfl) rfl
  events:=has_of rfl rfl (by kernel_rfl) rfl
  log:=has_of rfl rfl (by kernel_rfl) rfl
  sizes:=has_of rfl rfl (by kernel_rfl) rfl
  sizes1:=has_of rfl rfl (by kernel_rfl) rfl
  ways:=has_of rfl rfl (by kernel_rfl) rfl
  packs:=has_of rfl rfl (by kernel_rfl) rfl
  packs1:=has_of rfl rfl (by kernel_rfl) rfl
  can:=has_of rfl rfl (by kernel_rfl) rfl
  every:=has_of rfl rfl (by kernel_rfl) rfl
  told:=has_of rfl rfl (by kernel_rfl) rfl
  isPile:=has_of rfl rfl (by kernel_rfl) rfl
  left:=has_of rfl rfl (by kernel_rfl) rfl
  span:=has_of rfl rfl (by kernel_rfl) rfl
  hull:=has_of rfl rfl (by kernel_rfl) rfl
  of1:=has_of rfl rfl (by kernel_rfl) rfl
  of_:=has_of rfl rfl (by kernel_rfl) rfl
  tog1:=has_of rfl rfl (by kernel_rfl) rfl
  tog:=has_of rfl rfl (by kernel_rfl) rfl
  open_ := has_of rfl rfl (by kernel_rfl) rfl
  one:=has_of rfl rfl (by kernel_rfl) rfl
  one1:=has_of rfl rfl (by kernel_rfl) rfl
  always:=has_of rfl rfl (by kernel_rfl) rfl
  built2:=has_of rfl rfl (by kernel_rfl) rfl
  sold2:=has_of rfl rfl (by kernel_rfl) rfl
  enough2:=has_of rfl rfl (by kernel_rfl) rfl
  share2:=has_of rfl rfl (by kernel_rfl) rfl
  share3:=has_of rfl rfl (by kernel_rfl) rfl
  clash2:=has_of rfl rfl (by kernel_rfl) rfl
  index:=has_of rfl rfl (by kernel_rfl) rfl
  first:=has_of rfl rfl (by kernel_rfl) rfl
  built:=has_of rfl rfl (by kernel_rfl) rfl
  has:=has_of rfl rfl (by kernel_rfl) rfl
  sold:=has_of rfl rfl (by kernel_rfl) rfl
  all:=has_of rfl rfl (by kernel_rfl) rfl
  enough:=has_of rfl rfl (by kernel_rfl) rfl
  empty:=has_of rfl rfl (by kernel_rfl) rfl
  share:=has_of rfl rfl (by kernel_rfl) rfl
  clash:=has_of rfl rfl (by kernel_rfl) rfl
  sets n H m hm:=by
    show enter cfgK (Ev.call cfgK n) 61 _ H=_
    unfold enter
    have h1:cfgK.ext 61=none:=rfl
    have h2:cfgK.exth 61=some gSets:=rfl
    rw[h1,h2]
    have h3:gSets ([]++[.int .i64 m]++[]) H=some (.vs 1 ((Clm.setsBy m).map setE)):=by
      show (if 0≤(m:Int)∧(m:Int)≤6 then some (AV.vs 1 ((Clm.setsBy ((m:Int)).toNat).map setE)) else none)=_
      rw[if_pos ⟨by omega,by omega⟩,Int.toNat_natCast]
    simp only[h3,Option.map_some]
  dfBuilt:=rfl
  dfHas:=rfl
  dfSold:=rfl
  dfAll:=rfl
  dfEnough:=rfl
  dfEmpty:=rfl
  dfShare:=rfl
  dfClash:=rfl
def intsOf:List AV→Option (List Int)
  |[]=>some []
  |.int .i64 n::l=>(intsOf l).map (n::·)
  |_=>none
theorem zms:∀ {l:List AV} {ns:List Int},intsOf l=some ns→l=ns.map (AV.int .i64)
  |[],ns,h=>by cases h;rfl
  |v::l,ns,h=>by
    unfold intsOf at h
    split at h
    · rename_i e;cases e
    · rename_i n l' e
      obtain ⟨rfl,rfl⟩:=List.cons.inj e
      obtain ⟨ms,h1,rfl⟩:=Option.map_eq_some_iff.1 h
      rw[List.map_cons,← zms h1]
    · cases h
def gCl (spec:Clm.Cl→List Int→Option AV)(args:List AV)(H:List AB):Option AV:=
  match args with
  |v::rest=>(clOf H v).bind fun c=>(intsOf rest).bind fun ns=>spec c ns
  |[]=>none
theorem cl_arg {W:World}{L:Nat→Prop}{μ:Mu}{H:List AB}(hs:Sim Tryz.prog W L μ H){v:AV}{x:Value}{c:Clm.Cl}(hc:clOf H v=some c)(hv:VR W L μ v x):VR W (fun _=>False) nomu (.agg (clampCs c)) x:=by
  obtain ⟨pv,ev,rfl,h1,h2,_,_⟩:=zqx hc
  cases hv with
  |dead h=>simp[headRef] at h
  |@agg _ _ rs hl hr=>
    match rs,hl with
    |[r0,r1,r2,r3],_=>
      have a0:=hr 0 _ _ rfl rfl
      have a1:=hr 1 _ _ rfl rfl
      have a2:=hr 2 _ _ rfl rfl
      have a3:=hr 3 _ _ rfl rfl
      refine .agg rfl fun i x r hx hr'=>?_
      match i,hx,hr' with
      |0,hx,hr'=>
        cases hx;cases hr'
        refine zmq hs (by decide) a0 (fun i e he=>?_) (fun e he y hy=>?_) (by rw[zke];exact h1)
        · rw[List.getElem?_map] at he
          obtain ⟨p,_,rfl⟩:=Option.map_eq_some_iff.1 he
          rfl
        · obtain ⟨p,_,rfl⟩:=List.mem_map.1 he
          simp only[pileE,AV.cells,List.mem_cons,List.not_mem_nil,or_false] at hy
          rcases hy with rfl|rfl|rfl|rfl|rfl|rfl<;>exact ⟨_,_,rfl⟩
      |1,hx,hr'=>cases hx;cases hr';exact zcu (.inl ⟨_,_,rfl⟩) a1
      |2,hx,hr'=>cases hx;cases hr';exact zcu (.inl ⟨_,_,rfl⟩) a2
      |3,hx,hr'=>
        cases hx;cases hr'
        refine zmq hs (by decide) a3 (fun i e he=>?_) (fun e he y hy=>?_) (by rw[znb];exact h2)
        · rw[List.getElem?_map] at he
          obtain ⟨p,_,rfl⟩:=Option.map_eq_some_iff.1 he
          rfl
        · obtain ⟨p,_,rfl⟩:=List.mem_map.1 he
          simp only[evtE,AV.cells,List.mem_cons,List.not_mem_nil,or_false] at hy
          rcases hy with rfl|rfl|rfl|rfl<;>exact ⟨_,_,rfl⟩
      |i+4,hx,hr'=>simp[clampCs] at hx
theorem gcl_ok {spec : Clm.Cl → List Int → Option AV} {f : Nat} (hk : ∃ F, Tryz.prog.funcs[f]? = some F ∧ (F.name == "runtime.NumGoroutine")=false∧∃ af:AFunc,compFn Tryz.prog F=some af.strip)
    (hf:∀ (c:Clm.Cl) (ns:List Int) (v:AV),c.piles.length≤40→c.events.length≤41→spec c ns=some v→Bare v∧∃ m H' tc,Ev.call cfgK m (.fn (.func f) [] []) (.agg (clampCs c)::ns.map (AV.int .i64)) []=some (.ret v,H',tc)):
    (∃ F, Tryz.prog.funcs[f]? = some F ∧ (F.name == "runtime.NumGoroutine")=false∧F.body.isNone=false)∧∀ (args:List AV) (H:List AB) (v:AV) (rargs:Array Value) (W:World) (L:Nat→Prop) (μ:Mu),gCl spec args H=some v→VL W L μ args rargs.toList→Sim Tryz.prog W L μ H →
      CallsIn Fence.wide 0 Tryz.prog f rargs W fun e W'=>(∃ w,e=.returned w∧VR W' L nomu v w)∧Below W.heap.size W W':=by
  refine ⟨known f hk,fun args H v rargs W L μ h hv hs=>?_⟩
  unfold gCl at h
  split at h
  · rename_i u rest
    obtain ⟨c,h1,h2⟩:=Option.bind_eq_some_iff.1 h
    obtain ⟨ns,h3,h4⟩:=Option.bind_eq_some_iff.1 h2
    obtain rfl:=zms h3
    obtain ⟨_,_,_,_,_,b1,b2⟩:=zqx h1
    obtain ⟨hb,m,H',tc,hcall⟩:=hf c ns v b1 b2 h4
    refine (zlq tblK hcall hb (zdr _ _ _) ⟨hv.1,fun i x r hx hr=>?_⟩).mono fun e W' ⟨⟨w,h1,h2⟩,h3⟩=>⟨⟨w,h1,h2 _ _ _⟩,h3⟩
    match i,hx with
    |0,hx=>cases hx;exact cl_arg hs h1 (hv.2 0 _ r rfl hr)
    |i+1,hx=>
      rw[List.getElem?_cons_succ,List.getElem?_map] at hx
      obtain ⟨n,h5,rfl⟩:=Option.map_eq_some_iff.1 hx
      exact zcu (.inl ⟨_,_,rfl⟩) (hv.2 (i+1) (.int .i64 n) r (by rw[List.getElem?_cons_succ,List.getElem?_map,h5];rfl) hr)
  · cases h
def sBuilt (c:Clm.Cl):List Int→Option AV|[n]=>some (spanR c (isP c n) (Clm.ofAll c n.toNat builtG))|_=>none
def sHas (c:Clm.Cl):List Int→Option AV|[n]=>some (spanR c (isP c n) (Clm.ofAll c n.toNat fun _=>Clm.leftW c))|_=>none
def sSold (c:Clm.Cl):List Int→Option AV|[n]=>some (spanR c (isP c n) (Clm.ofAll c n.toNat (soldG c)))|_=>none
def sAll (c:Clm.Cl):List Int→Option AV|[]=>some (spanR c true (Clm.together c (fullP c)))|_=>none
def sEnough (c:Clm.Cl):List Int→Option AV|[n,s]=>some (numR c (isP c n&&isS s) (enoughN (Clm.together c (2 ^ n.toNat)) s))|_=>none
def sEmpty (c:Clm.Cl):List Int→Option AV|[]=>some (emptyR c)|_=>none
def sShare (c:Clm.Cl):List Int→Option AV|[s]=>some (shareR c s)|_=>none
def sClash (c:Clm.Cl):List Int→Option AV|[]=>some (clashR c)|_=>none
noncomputable def exthL0 (f:Nat):Option (List AV→List AB→Option AV):=
  if f=7 then some (gCl sBuilt) else if f=9 then some (gCl sHas) else if f=11 then some (gCl sSold) else if f=13 then some (gCl sAll) else if f=15 then some (gCl sEnough) else if f=17 then some (gCl sEmpty) else if f=19 then some (gCl sShare) else if f=21 then some (gCl sClash) else none
theorem zgc (s:Clm.Sp)(e:Int):Bare (.tup [spA s,.int .i64 e]):=by
  intro x hx
  simp only[List.mem_cons,List.not_mem_nil,or_false] at hx
  rcases hx with rfl|rfl
  · refine .inr (.inr ⟨_,rfl,fun y hy=>?_⟩)
    simp only[List.mem_cons,List.not_mem_nil,or_false] at hy
    rcases hy with rfl|rfl<;>exact ⟨_,_,rfl⟩
  · exact .inl ⟨_,_,rfl⟩
theorem zlj (a e:Int):Bare (.tup [.int .i64 a,.int .i64 e]):=by
  intro x hx
  simp only[List.mem_cons,List.not_mem_nil,or_false] at hx
  rcases hx with rfl|rfl<;>exact .inl ⟨_,_,rfl⟩
theorem ztm (a b e:Int):Bare (.tup [.int .i64 a,.int .i64 b,.int .i64 e]):=by
  intro x hx
  simp only[List.mem_cons,List.not_mem_nil,or_false] at hx
  rcases hx with rfl|rfl|rfl<;>exact .inl ⟨_,_,rfl⟩
theorem zqs (f : Nat) (g : List AV → List AB → Option AV) (h : exthL0 f = some g) : (∃ F, Tryz.prog.funcs[f]? = some F ∧ (F.name == "runtime.NumGoroutine")=false∧F.body.isNone=false)∧∀ (args:List AV) (H:List AB) (v:AV) (rargs:Array Value) (W:World) (L:Nat→Prop) (μ:Mu),g args H=some v→VL W L μ args rargs.toList→Sim Tryz.prog W L μ H→Globs cfgK W L →
      CallsIn Fence.wide 0 Tryz.prog f rargs W fun e W'=>(∃ w,e=.returned w∧VR W' L nomu v w)∧Below W.heap.size W W':=by
  have kn : ∀ {f : Nat} {af : AFunc}, (∃ F, Tryz.prog.funcs[f]? = some F ∧ (F.name == "runtime.NumGoroutine")=false∧compFn Tryz.prog F=some af.strip)→∃ F,Tryz.prog.funcs[f]?=some F∧(F.name== "runtime.NumGoroutine")=false∧∃ af:AFunc,compFn Tryz.prog F=some af.strip:=fun ⟨F,h1,h2,h3⟩=>⟨F,h1,h2,_,h3⟩
  unfold exthL0 at h
  split at h
  · rename_i hf;subst hf;cases h
    obtain ⟨k1,k2⟩:=gcl_ok (spec:=sBuilt) (kn is7) fun c ns v b1 b2 hs=>by
      unfold sBuilt at hs
      split at hs<;>cases hs
      exact ⟨zgc _ _,14,_,_,builtL knowsK ⟨by omega,by omega⟩ 0 _⟩
    exact ⟨k1,fun args H v rargs W L μ a b c _=>k2 args H v rargs W L μ a b c⟩
  split at h
  · rename_i hf;subst hf;cases h
    obtain ⟨k1,k2⟩:=gcl_ok (spec:=sHas) (kn is9) fun c ns v b1 b2 hs=>by
      unfold sHas at hs
      split at hs<;>cases hs
      exact ⟨zgc _ _,14,_,_,hasL knowsK ⟨by omega,by omega⟩ 0 _⟩
    exact ⟨k1,fun args H v rargs W L μ a b c _=>k2 args H v rargs W L μ a b c⟩
  split at h
  · rename_i hf;subst hf;cases h
    obtain ⟨k1,k2⟩:=gcl_ok (spec:=sSold) (kn is11) fun c ns v b1 b2 hs=>by
      unfold sSold at hs
      split at hs<;>cases hs
      exact ⟨zgc _ _,14,_,_,soldL knowsK ⟨by omega,by omega⟩ 0 _⟩
    exact ⟨k1,fun args H v rargs W L μ a b c _=>k2 args H v rargs W L μ a b c⟩
  split at h
  · rename_i hf;subst hf;cases h
    obtain ⟨k1,k2⟩:=gcl_ok (spec:=sAll) (kn is13) fun c ns v b1 b2 hs=>by
      unfold sAll at hs
      split at hs<;>cases hs
      exact ⟨zgc _ _,14,_,_,allL knowsK ⟨by omega,by omega⟩ 0⟩
    exact ⟨k1,fun args H v rargs W L μ a b c _=>k2 args H v rargs W L μ a b c⟩
  split at h
  · rename_i hf;subst hf;cases h
    obtain ⟨k1,k2⟩:=gcl_ok (spec:=sEnough) (kn is15) fun c ns v b1 b2 hs=>by
      unfold sEnough at hs
      split at hs<;>cases hs
      exact ⟨zlj _ _,14,_,_,enoughL knowsK ⟨by omega,by omega⟩ 0 _ _⟩
    exact ⟨k1,fun args H v rargs W L μ a b c _=>k2 args H v rargs W L μ a b c⟩
  split at h
  · rename_i hf;subst hf;cases h
    obtain ⟨k1,k2⟩:=gcl_ok (spec:=sEmpty) (kn is17) fun c ns v b1 b2 hs=>by
      unfold sEmpty at hs
      split at hs<;>cases hs
      exact ⟨ztm _ _ _,14,_,_,emptyL knowsK ⟨by omega,by omega⟩ 0⟩
    exact ⟨k1,fun args H v rargs W L μ a b c _=>k2 args H v rargs W L μ a b c⟩
  split at h
  · rename_i hf;subst hf;cases h
    obtain ⟨k1,k2⟩:=gcl_ok (spec:=sShare) (kn is19) fun c ns v b1 b2 hs=>by
      unfold sShare at hs
      split at hs<;>cases hs
      exact ⟨zlj _ _,17,_,_,shareL knowsK ⟨by omega,by omega⟩ 0 _⟩
    exact ⟨k1,fun args H v rargs W L μ a b c _=>k2 args H v rargs W L μ a b c⟩
  split at h
  · rename_i hf;subst hf;cases h
    obtain ⟨k1,k2⟩:=gcl_ok (spec:=sClash) (kn is21) fun c ns v b1 b2 hs=>by
      unfold sClash at hs
      split at hs<;>cases hs
      exact ⟨zlj _ _,14,_,_,clashL knowsK ⟨by omega,by omega⟩ 0⟩
    exact ⟨k1,fun args H v rargs W L μ a b c _=>k2 args H v rargs W L μ a b c⟩
  · cases h
end K
end Ev
end Go.Proofs.YtimgnlellflciaaGreat

/- Chapter 09: what the laws are told; alive. -/
namespace Go.Proofs.YtimgnlellflciaaGreat
open Go Go.Proofs Go.RowKit
namespace Ev
namespace K
set_option maxRecDepth 1000000
noncomputable def cfgL0:Cfg where
  fns:=FT.find fnTree
  glob:=fun _=>none
  dfk:=fun _=>none
  ext:=fun _=>none
  exth:=exthL0
  calm:=true
  whole:=fun _=>true
theorem tblL0 : TblOk Tryz.prog cfgL0 := ⟨fun f fn h => FT.find_all znn h, fun _ _ h => (by cases h), fun f g h => by
  obtain ⟨k1,k2⟩:=zqs f g h
  exact ⟨k1,fun args H v rargs W L μ a b c d=>k2 args H v rargs W L μ a b c (zdr _ _ _)⟩,fun _ _ _ h=>(by cases h)⟩
noncomputable def isTrue (o:Option (CRes × List AB × List Nat)):Bool:=match o with
  |some (.ret (.bool b),_,_)=>b
  |_=>false
theorem zpb:isTrue (Ev.call cfgL0 5 (.fn (.func 6) [] []) [] [])=true:=by kernel_rfl
theorem ztp (W:World):CallsIn Fence.wide 0 Tryz.prog 6 #[] W fun e W'=>e=.returned (.bool true)∧Below W.heap.size W W':=by
  have h:=zpb
  generalize hr:Ev.call cfgL0 5 (.fn (.func 6) [] []) [] []=o at h
  unfold isTrue at h
  split at h
  · rename_i b H' tc
    subst h
    exact zxw tblL0 hr W (zdr _ _ _)
  · cases h
end K
end Ev
end Go.Proofs.YtimgnlellflciaaGreat

/- Chapter 09, gone through: the reference's check of clamps, and small functions of the laws. -/
namespace Go.Proofs.YtimgnlellflciaaGreat
open Go
namespace Ev
namespace K
attribute [local simp] ev1 wantG spineK spine float xnew xval xeff zaa zar zbb zau zav addFl cellsOf pickC alive slLen slFt binI maxA maxK minA minK aeqK aeqS AV.cells spA zas fillA setAt bitsI nat_nn zbe AV.plain apart
set_option maxRecDepth 100000
set_option maxHeartbeats 4000000
theorem zuu (C:Cfg)(call:CallF)(H:List AB)(n a b:Int):Does (ev C call H.length none af74.body { tm:=tmA af74.ntmps (zipI 0 [.int .i64 n,.int .i64 a,.int .i64 b] []),df:=[],hp:=H,tc:=[] })
    (Ends C H.length af74.res fun v _hp tc=>v=.bool (decide (a≤n∧n≤b))∧tc=[]):=by
  unfold af74
  simp only[zipI]
  by_cases h:a≤n
  · (repeat (first|(with_reducible apply zad;(focus ((conv=>lhs;simp[*,Nat.testBit_eq_decide_div_mod_eq])<;>exact rfl));simp only[addFl])|((with_reducible first|apply zai|apply zak|apply zah|apply zaf|apply zac|apply zaj|apply zag|apply zam|(apply zae;· simp[*,zaa])|(apply zab;· simp[*,zaa]));try simp only[Then,Ops])|simp only[Nat.reduceEqDiff,reduceIte,OutB,Then]))
    exact zao (v:=.bool (decide (n≤b))) (.inl rfl) rfl (by simp) (by simp only[resL,resOf,zal];simp[*,resV]) ⟨by simp[h],rfl⟩
  · (repeat (first|(with_reducible apply zad;(focus ((conv=>lhs;simp[*,Nat.testBit_eq_decide_div_mod_eq])<;>exact rfl));simp only[addFl])|((with_reducible first|apply zai|apply zak|apply zah|apply zaf|apply zac|apply zaj|apply zag|apply zam|(apply zae;· simp[*,zaa])|(apply zab;· simp[*,zaa]));try simp only[Then,Ops])|simp only[Nat.reduceEqDiff,reduceIte,OutB,Then]))
    exact zao (v:=.bool false) (.inl rfl) rfl (by simp) (by simp only[resL,resOf,zal];simp[*,resV]) ⟨by simp[h],rfl⟩
def RinC (call:CallF):Prop:=∀ (H:List AB) (n a b:Int),call (.fn (.func 74) [] []) [.int .i64 n,.int .i64 a,.int .i64 b] H=some (.ret (.bool (decide (a≤n∧n≤b))),H,[])
theorem zup (C:Cfg)(call:CallF)(H:List AB)(s:Clm.Sp)(a b w:Int)(h0:a=0∨a=1)(hb:b≤5000):Does (ev C call H.length none af75.body { tm:=tmA af75.ntmps (zipI 0 [spA s,.int .i64 a,.int .i64 b,.int .i64 w] []),df:=[],hp:=H,tc:=[] })
    (Ends C H.length af75.res fun v _hp tc=>v=.bool (Clm.isSpan s a b w)∧tc=[]):=by
  by_cases h1:a≤s.lo
  · by_cases h2:s.lo≤s.hi
    · by_cases h3:s.hi≤b
      · have w1:IntKind.i64.wrap (s.hi - s.lo)=s.hi - s.lo:=zat (by omega) (by omega)
        clear h0 hb
        have e:Clm.isSpan s a b w=decide (s.hi - s.lo≤w):=by simp[Clm.isSpan,h1,h2,h3]
        rw[e];clear e
        unfold af75
        simp only[zipI,spA]
        (repeat (first|(with_reducible apply zad;(focus ((conv=>lhs;simp[*,Nat.testBit_eq_decide_div_mod_eq])<;>exact rfl));simp only[addFl])|((with_reducible first|apply zai|apply zak|apply zah|apply zaf|apply zac|apply zaj|apply zag|apply zam|(apply zae;· simp[*,zaa])|(apply zab;· simp[*,zaa]));try simp only[Then,Ops])|simp only[Nat.reduceEqDiff,reduceIte,OutB,Then]))
        exact zao (v:=.bool (decide (s.hi - s.lo≤w))) (.inl rfl) rfl (by simp) (by simp only[resL,resOf,zal];simp[*,resV]) ⟨rfl,by simp⟩
      · clear h0 hb
        have e:Clm.isSpan s a b w=false:=by simp[Clm.isSpan,h3]
        rw[e];clear e
        unfold af75
        simp only[zipI,spA]
        (repeat (first|(with_reducible apply zad;(focus ((conv=>lhs;simp[*,Nat.testBit_eq_decide_div_mod_eq])<;>exact rfl));simp only[addFl])|((with_reducible first|apply zai|apply zak|apply zah|apply zaf|apply zac|apply zaj|apply zag|apply zam|(apply zae;· simp[*,zaa])|(apply zab;· simp[*,zaa]));try simp only[Then,Ops])|simp only[Nat.reduceEqDiff,reduceIte,OutB,Then]))
        exact zao (v:=.bool false) (.inl rfl) rfl (by simp) (by simp only[resL,resOf,zal];simp[*,resV]) ⟨rfl,by simp⟩
    · clear h0 hb
      have e:Clm.isSpan s a b w=false:=by simp[Clm.isSpan,h2]
      rw[e];clear e
      unfold af75
      simp only[zipI,spA]
      (repeat (first|(with_reducible apply zad;(focus ((conv=>lhs;simp[*,Nat.testBit_eq_decide_div_mod_eq])<;>exact rfl));simp only[addFl])|((with_reducible first|apply zai|apply zak|apply zah|apply zaf|apply zac|apply zaj|apply zag|apply zam|(apply zae;· simp[*,zaa])|(apply zab;· simp[*,zaa]));try simp only[Then,Ops])|simp only[Nat.reduceEqDiff,reduceIte,OutB,Then]))
      exact zao (v:=.bool false) (.inl rfl) rfl (by simp) (by simp only[resL,resOf,zal];simp[*,resV]) ⟨rfl,by simp⟩
  · clear h0 hb
    have e:Clm.isSpan s a b w=false:=by simp[Clm.isSpan,h1]
    rw[e];clear e
    unfold af75
    simp only[zipI,spA]
    (repeat (first|(with_reducible apply zad;(focus ((conv=>lhs;simp[*,Nat.testBit_eq_decide_div_mod_eq])<;>exact rfl));simp only[addFl])|((with_reducible first|apply zai|apply zak|apply zah|apply zaf|apply zac|apply zaj|apply zag|apply zam|(apply zae;· simp[*,zaa])|(apply zab;· simp[*,zaa]));try simp only[Then,Ops])|simp only[Nat.reduceEqDiff,reduceIte,OutB,Then]))
    exact zao (v:=.bool false) (.inl rfl) rfl (by simp) (by simp only[resL,resOf,zal];simp[*,resV]) ⟨rfl,by simp⟩
def RspanC (call:CallF):Prop:=∀ (H:List AB) (s:Clm.Sp) (a b w:Int),a=0∨a=1→b≤5000→call (.fn (.func 75) [] []) [.agg [.int .i64 s.lo,.int .i64 s.hi],.int .i64 a,.int .i64 b,.int .i64 w] H=some (.ret (.bool (Clm.isSpan s a b w)),H,[])
theorem zlx (C:Cfg)(call:CallF)(hI:RinC call)(c:Clm.Cl)(hc:c.piles.length≤1000000)(H:List AB)(n:Int):Does (ev C call H.length none af37.body { tm:=tmA af37.ntmps (zipI 0 [.agg (clampCs c),.int .i64 n] []),df:=[],hp:=H,tc:=[] })
    (Ends C H.length af37.res fun v _hp tc=>v=.bool (isP c n)∧tc=[]):=by
  have hw:IntKind.i64.wrap ((c.piles.length:Int) - 1)=(c.piles.length:Int) - 1:=zat (by omega) (by omega)
  have e:isP c n=decide (0≤n∧n≤(c.piles.length:Int) - 1):=by unfold isP;congr 1;simp;omega
  have hW':=fun H=>hI H n 0 ((c.piles.length:Int) - 1)
  rw[e]
  generalize decide (0≤n∧n≤(c.piles.length:Int) - 1)=b at *
  clear hI e hc
  unfold af37
  simp only[zipI,clampCs] at *
  (repeat (first|(with_reducible apply zad;(focus ((conv=>lhs;simp[*,Nat.testBit_eq_decide_div_mod_eq])<;>exact rfl));simp only[addFl])|((with_reducible first|apply zai|apply zak|apply zah|apply zaf|apply zac|apply zaj|apply zag|apply zam|(apply zae;· simp[*,zaa])|(apply zab;· simp[*,zaa]));try simp only[Then,Ops])|simp only[Nat.reduceEqDiff,reduceIte,OutB,Then]))
  exact zao (v:=.bool b) (.inl rfl) rfl (by simp) (by simp only[resL,resOf,zal];simp[*,resV]) ⟨rfl,rfl⟩
def RpileC (call:CallF)(c:Clm.Cl):Prop:=∀ (H:List AB) (n:Int),call (.fn (.func 37) [] []) [.agg (clampCs c),.int .i64 n] H=some (.ret (.bool (isP c n)),H,[])
theorem zrs (C:Cfg)(call:CallF)(c:Clm.Cl)(hP:RpileC call c)(hS:RspanC call)(H:List AB)(v:Clm.Evt):Does (ev C call H.length none af76.body { tm:=tmA af76.ntmps (zipI 0 [.agg (clampCs c),evtE v] []),df:=[],hp:=H,tc:=[] })
    (Ends C H.length af76.res fun w _hp tc=>w=.bool (evtOk c v)∧tc=[]):=by
  have hp:=fun H=>hP H v.clamp
  have h3:=fun H=>hS H v.sods 0 5000 3 (.inl rfl) (by decide)
  have h5:=fun H=>hS H v.sods 0 5000 5000 (.inl rfl) (by decide)
  have hev:evtOk c v=(isP c v.clamp&&decide (v.kind=0∨v.kind=1)&&Clm.isSpan v.sods 0 5000 (if v.kind=0 then 3 else 5000)):=rfl
  rw[hev]
  clear hP hS hev
  unfold af76
  simp only[zipI,clampCs,evtE] at *
  cases hb:isP c v.clamp with
  |false=>
    rw[hb] at hp
    (repeat (first|(with_reducible apply zad;(focus ((conv=>lhs;simp[*,Nat.testBit_eq_decide_div_mod_eq])<;>exact rfl));simp only[addFl])|((with_reducible first|apply zai|apply zak|apply zah|apply zaf|apply zac|apply zaj|apply zag|apply zam|(apply zae;· simp[*,zaa])|(apply zab;· simp[*,zaa]));try simp only[Then,Ops])|simp only[Nat.reduceEqDiff,reduceIte,OutB,Then]))
    exact zao (v:=.bool false) (.inl rfl) rfl (by simp) (by simp only[resL,resOf,zal];simp[*,resV]) ⟨by simp,rfl⟩
  |true=>
    rw[hb] at hp
    by_cases k0:v.kind=0
    · rw[if_pos k0]
      generalize Clm.isSpan v.sods 0 5000 3=b3 at *
      (repeat (first|(with_reducible apply zad;(focus ((conv=>lhs;simp[*,Nat.testBit_eq_decide_div_mod_eq])<;>exact rfl));simp only[addFl])|((with_reducible first|apply zai|apply zak|apply zah|apply zaf|apply zac|apply zaj|apply zag|apply zam|(apply zae;· simp[*,zaa])|(apply zab;· simp[*,zaa]));try simp only[Then,Ops,OutB])|simp only[Nat.reduceEqDiff,reduceIte,OutB,Then]))
      exact zao (v:=.bool b3) (.inl rfl) rfl (by simp) (by simp only[resL,resOf,zal];simp[*,resV]) ⟨by simp[k0],rfl⟩
    · have k0':=beq_false_of_ne k0
      rw[if_neg k0]
      generalize Clm.isSpan v.sods 0 5000 5000=b5 at *
      by_cases k1:v.kind=1
      · (repeat (first|(with_reducible apply zad;(focus ((conv=>lhs;simp[*,Nat.testBit_eq_decide_div_mod_eq])<;>exact rfl));simp only[addFl])|((with_reducible first|apply zai|apply zak|apply zah|apply zaf|apply zac|apply zaj|apply zag|apply zam|(apply zae;· simp[*,zaa])|(apply zab;· simp[*,zaa]));try simp only[Then,Ops,OutB])|simp only[Nat.reduceEqDiff,reduceIte,OutB,Then]))
        exact zao (v:=.bool b5) (.inl rfl) rfl (by simp) (by simp only[resL,resOf,zal];simp[*,resV]) ⟨by simp[k1],rfl⟩
      · have k1':=beq_false_of_ne k1
        (repeat (first|(with_reducible apply zad;(focus ((conv=>lhs;simp[*,Nat.testBit_eq_decide_div_mod_eq])<;>exact rfl));simp only[addFl])|((with_reducible first|apply zai|apply zak|apply zah|apply zaf|apply zac|apply zaj|apply zag|apply zam|(apply zae;· simp[*,zaa])|(apply zab;· simp[*,zaa]));try simp only[Then,Ops,OutB])|simp only[Nat.reduceEqDiff,reduceIte,OutB,Then]))
        exact zao (v:=.bool false) (.inl rfl) rfl (by simp) (by simp only[resL,resOf,zal];simp[*,resV]) ⟨by simp[k0,k1],rfl⟩
def ReventC (call:CallF)(c:Clm.Cl):Prop:=∀ (H:List AB) (v:Clm.Evt),call (.fn (.func 76) [] []) [.agg (clampCs c),evtE v] H=some (.ret (.bool (evtOk c v)),H,[])
theorem zrw (C:Cfg)(hC:C.calm=true)(call:CallF)(c:Clm.Cl)(hbig:c.piles.length≤1000∧c.events.length≤1000)(hI:RinC call)(hS:RspanC call)(hE:ReventC call c)(H:List AB):Does (ev C call H.length none af24.body { tm:=tmA af24.ntmps (zipI 0 [.agg (clampCs c)] []),df:=[],hp:=H,tc:=[] })
    (Ends C H.length af24.res fun w _hp tc=>w=.bool (Clm.valid c)∧tc=[]):=by
  have hw1:=fun H=>hI H (c.piles.length:Int) 1 4
  have hs1:=fun H=>hS H c.pack 1 5 2 (.inr rfl) (by decide)
  have e1:decide ((1:Int)≤c.piles.length∧(c.piles.length:Int)≤4)=decide (1≤c.piles.length∧c.piles.length≤4):=by congr 1;simp;omega
  rw[e1] at hw1
  have hhead:headOk c=(decide (1≤c.piles.length∧c.piles.length≤4)&&Clm.isSpan c.pack 1 5 2&&decide (c.events.length≤6)):=rfl
  have hv:=zpk c
  rw[hhead] at hv
  have HH:=hideP (And.intro hS hE)
  rw[hv]
  clear e1 hhead hI hE hS hv
  unfold af24
  simp only[zipI,clampCs] at *
  cases h1:decide (1≤c.piles.length∧c.piles.length≤4) with
  |false=>
    rw[h1] at hw1
    clear h1
    (repeat (first|(with_reducible apply zad;(focus ((conv=>lhs;simp[*,Nat.testBit_eq_decide_div_mod_eq])<;>exact rfl));simp only[addFl])|((with_reducible first|apply zai|apply zak|apply zah|apply zaf|apply zac|apply zaj|apply zag|apply zam|(apply zae;· simp[*,zaa])|(apply zab;· simp[*,zaa]));try simp only[Then,Ops])|simp only[Nat.reduceEqDiff,reduceIte,OutB,Then]))
    exact zao (v:=.bool false) (.inl rfl) rfl (by simp) (by simp only[resL,resOf,zal];simp[*,resV]) ⟨by simp,rfl⟩
  |true=>
    rw[h1] at hw1
    clear h1
    cases h2:Clm.isSpan c.pack 1 5 2 with
    |false=>
      rw[h2] at hs1
      clear h2
      (repeat (first|(with_reducible apply zad;(focus ((conv=>lhs;simp[*,Nat.testBit_eq_decide_div_mod_eq])<;>exact rfl));simp only[addFl])|((with_reducible first|apply zai|apply zak|apply zah|apply zaf|apply zac|apply zaj|apply zag|apply zam|(apply zae;· simp[*,zaa])|(apply zab;· simp[*,zaa]));try simp only[Then,Ops])|simp only[Nat.reduceEqDiff,reduceIte,OutB,Then]))
      exact zao (v:=.bool false) (.inl rfl) rfl (by simp) (by simp only[resL,resOf,zal];simp[*,resV]) ⟨by simp,rfl⟩
    |true=>
      rw[h2] at hs1
      clear h2
      by_cases h3:c.events.length≤6
      · have h3':¬ (6:Int)<c.events.length:=by omega
        rw[decide_eq_true h3]
        simp only[Bool.true_and]
        (repeat (first|(with_reducible apply zad;(focus ((conv=>lhs;simp[*,Nat.testBit_eq_decide_div_mod_eq])<;>exact rfl));simp only[addFl])|((with_reducible first|apply zai|apply zak|apply zah|apply zaf|apply zac|apply zaj|apply zag|apply zam|(apply zae;· simp[*,zaa])|(apply zab;· simp[*,zaa]));try simp only[Then,Ops])|simp only[Nat.reduceEqDiff,reduceIte,OutB,Then]))
        clear hw1 hs1
        have hp1:=hbig.1
        with_reducible refine zaz hC c.piles.length (by unfold fuelL;omega) (fun i st=>∃ J,(∀ j p,j<i→c.piles[j]?=some p→pileOk p=true)∧st={ tm:=tmA 66 [(3,.int .i64 i),(1,.ptr H.length 0)],df:=[],hp:=H++.cells [.vs 6 (c.piles.map pileE),.int .i64 c.pack.lo,.int .i64 c.pack.hi,.vs 4 (c.events.map evtE)]::J,tc:=[] }) ?_ ?_ ?_
        · refine ⟨[],by simp,?_⟩
          (refine st_is ?_ ?_ ?_ ?_;(focus (simp[zan,zaq]));(focus rfl);(focus (first|rfl|(simp;done)|(simp[*];done)|(simp;rfl)|(simp[*];omega)|(simp;omega)));(focus (first|rfl|simp)))
        · rintro i st hi ⟨J,hok,rfl⟩
          have hgp:c.piles[i]?=some c.piles[i]:=List.getElem?_eq_getElem hi
          generalize c.piles[i]=p at hgp
          have hgp':=ge_of hgp
          have hwi:IntKind.i64.wrap (↑i+1)=↑i+1:=zat (by omega) (by omega)
          have q1:=fun H=>HH.out.1 H p.long 1 10 1 (.inr rfl) (by decide)
          have q2:=fun H=>HH.out.1 H p.wide 1 10 1 (.inr rfl) (by decide)
          have q3:=fun H=>HH.out.1 H p.high 1 10 1 (.inr rfl) (by decide)
          have hpo:pileOk p=(Clm.isSpan p.long 1 10 1&&Clm.isSpan p.wide 1 10 1&&Clm.isSpan p.high 1 10 1):=rfl
          have hnext:pileOk p=true→∀ j q,j<i+1→c.piles[j]?=some q→pileOk q=true:=by
            intro ho j q hj hq
            by_cases h:j=i
            · subst h;rw[hgp] at hq;cases hq;exact ho
            · exact hok j q (by omega) hq
          have hbad:pileOk p=false→c.piles.all pileOk=false:=fun h=>by
            rw[List.all_eq_false]
            exact ⟨p,List.mem_of_getElem? hgp,by rw[h];decide⟩
          have HN:=hideP (And.intro hnext hbad)
          clear hnext hbad hok hgp HH
          cases b1:Clm.isSpan p.long 1 10 1 with
          |false=>
            rw[b1] at q1 hpo
            have HP:=hideP (HN.out.2 (by rw[hpo];rfl))
            clear hpo b1
            (repeat (first|(with_reducible apply zad;(focus ((conv=>lhs;simp[*,pileE,Nat.testBit_eq_decide_div_mod_eq])<;>exact rfl));simp only[addFl])|((with_reducible first|apply zai|apply zak|apply zah|apply zaf|apply zac|apply zaj|apply zag|apply zam|(apply zae;· simp[*,zaa])|(apply zab;· simp[*,zaa]));try simp only[Then,Ops,OutB])|simp only[Nat.reduceEqDiff,reduceIte,OutB,Then]))
            exact zao (v:=.bool false) (.inl rfl) rfl (by simp) (by simp only[resL,resOf,zal];simp[*,resV]) ⟨by rw[HP.out];rfl,by simp⟩
          |true=>
            rw[b1] at q1 hpo
            cases b2:Clm.isSpan p.wide 1 10 1 with
            |false=>
              rw[b2] at q2 hpo
              have HP:=hideP (HN.out.2 (by rw[hpo];rfl))
              clear hpo b1 b2
              (repeat (first|(with_reducible apply zad;(focus ((conv=>lhs;simp[*,pileE,Nat.testBit_eq_decide_div_mod_eq])<;>exact rfl));simp only[addFl])|((with_reducible first|apply zai|apply zak|apply zah|apply zaf|apply zac|apply zaj|apply zag|apply zam|(apply zae;· simp[*,zaa])|(apply zab;· simp[*,zaa]));try simp only[Then,Ops,OutB])|simp only[Nat.reduceEqDiff,reduceIte,OutB,Then]))
              exact zao (v:=.bool false) (.inl rfl) rfl (by simp) (by simp only[resL,resOf,zal];simp[*,resV]) ⟨by rw[HP.out];rfl,by simp⟩
            |true=>
              rw[b2] at q2 hpo
              cases b3:Clm.isSpan p.high 1 10 1 with
              |false=>
                rw[b3] at q3 hpo
                have HP:=hideP (HN.out.2 (by rw[hpo];rfl))
                clear hpo b1 b2 b3
                (repeat (first|(with_reducible apply zad;(focus ((conv=>lhs;simp[*,pileE,Nat.testBit_eq_decide_div_mod_eq])<;>exact rfl));simp only[addFl])|((with_reducible first|apply zai|apply zak|apply zah|apply zaf|apply zac|apply zaj|apply zag|apply zam|(apply zae;· simp[*,zaa])|(apply zab;· simp[*,zaa]));try simp only[Then,Ops,OutB])|simp only[Nat.reduceEqDiff,reduceIte,OutB,Then]))
                exact zao (v:=.bool false) (.inl rfl) rfl (by simp) (by simp only[resL,resOf,zal];simp[*,resV]) ⟨by rw[HP.out];rfl,by simp⟩
              |true=>
                rw[b3] at q3 hpo
                have HP:=hideP (HN.out.1 (by rw[hpo];rfl))
                clear hpo b1 b2 b3
                (repeat (first|(with_reducible apply zad;(focus ((conv=>lhs;simp[*,pileE,Nat.testBit_eq_decide_div_mod_eq])<;>exact rfl));simp only[addFl])|((with_reducible first|apply zai|apply zak|apply zah|apply zaf|apply zac|apply zaj|apply zag|apply zam|(apply zae;· simp[*,zaa])|(apply zab;· simp[*,zaa]));try simp only[Then,Ops,OutB])|simp only[Nat.reduceEqDiff,reduceIte,OutB,Then]))
                with_reducible refine ⟨?_,HP.out,?_⟩
                rotate_left
                (refine st_is ?_ ?_ ?_ ?_;(focus (simp[zan,zaq]));(focus rfl);(focus (first|rfl|(simp;done)|(simp[*];done)|(simp;rfl)|(simp[*];omega)|(simp;omega)));(focus (first|rfl|simp)))
        · rintro st ⟨J,hok,rfl⟩
          have hall:c.piles.all pileOk=true:=by
            rw[List.all_eq_true]
            intro p hp
            obtain ⟨j,hj⟩:=List.mem_iff_getElem?.1 hp
            exact hok j p (List.getElem?_eq_some_iff.1 hj).1 hj
          rw[hall]
          simp only[Bool.true_and]
          clear hok hall
          (repeat (first|(with_reducible apply zad;(focus ((conv=>lhs;simp[*,Nat.testBit_eq_decide_div_mod_eq])<;>exact rfl));simp only[addFl])|((with_reducible first|apply zai|apply zak|apply zah|apply zaf|apply zac|apply zaj|apply zag|apply zam|(apply zae;· simp[*,zaa])|(apply zab;· simp[*,zaa]));try simp only[Then,Ops,OutB,reduceIte])|simp only[Nat.reduceEqDiff,reduceIte,OutB,Then]))
          have hp2:=hbig.2
          with_reducible refine zaz hC c.events.length (by unfold fuelL;omega) (fun i st=>(∀ j v,j<i→c.events[j]?=some v→evtOk c v=true)∧st={ tm:=tmA 66 [(5,.int .i64 i),(1,.ptr H.length 0)],df:=[],hp:=H++.cells [.vs 6 (c.piles.map pileE),.int .i64 c.pack.lo,.int .i64 c.pack.hi,.vs 4 (c.events.map evtE)]::J,tc:=[] }) ?_ ?_ ?_
          · refine ⟨by simp,?_⟩
            (refine st_is ?_ ?_ ?_ ?_;(focus (simp[zan,zaq]));(focus rfl);(focus (first|rfl|(simp;done)|(simp[*];done)|(simp;rfl)|(simp[*];omega)|(simp;omega)));(focus (first|rfl|simp)))
          · rintro i st hi ⟨hok,rfl⟩
            have hgv:c.events[i]?=some c.events[i]:=List.getElem?_eq_getElem hi
            generalize c.events[i]=v at hgv
            have hgv':=ge_of hgv
            have hwi:IntKind.i64.wrap (↑i+1)=↑i+1:=zat (by omega) (by omega)
            have q1:=fun H=>HH.out.2 H v
            simp only[evtE,clampCs] at q1
            have hnext:evtOk c v=true→∀ j q,j<i+1→c.events[j]?=some q→evtOk c q=true:=by
              intro ho j q hj hq
              by_cases h:j=i
              · subst h;rw[hgv] at hq;cases hq;exact ho
              · exact hok j q (by omega) hq
            have hbad:evtOk c v=false→c.events.all (evtOk c)=false:=fun h=>by
              rw[List.all_eq_false]
              exact ⟨v,List.mem_of_getElem? hgv,by rw[h];decide⟩
            have HN:=hideP (And.intro hnext hbad)
            clear hnext hbad hok hgv HH
            cases b1:evtOk c v with
            |false=>
              rw[b1] at q1
              have HP:=hideP (HN.out.2 b1)
              clear b1
              (repeat (first|(with_reducible apply zad;(focus ((conv=>lhs;simp[*,evtE,Nat.testBit_eq_decide_div_mod_eq])<;>exact rfl));simp only[addFl])|((with_reducible first|apply zai|apply zak|apply zah|apply zaf|apply zac|apply zaj|apply zag|apply zam|(apply zae;· simp[*,zaa])|(apply zab;· simp[*,zaa]));try simp only[Then,Ops,OutB])|simp only[Nat.reduceEqDiff,reduceIte,OutB,Then]))
              exact zao (v:=.bool false) (.inl rfl) rfl (by simp) (by simp only[resL,resOf,zal];simp[*,resV]) ⟨by rw[HP.out],by simp⟩
            |true=>
              rw[b1] at q1
              have HP:=hideP (HN.out.1 b1)
              clear b1
              (repeat (first|(with_reducible apply zad;(focus ((conv=>lhs;simp[*,evtE,Nat.testBit_eq_decide_div_mod_eq])<;>exact rfl));simp only[addFl])|((with_reducible first|apply zai|apply zak|apply zah|apply zaf|apply zac|apply zaj|apply zag|apply zam|(apply zae;· simp[*,zaa])|(apply zab;· simp[*,zaa]));try simp only[Then,Ops,OutB])|simp only[Nat.reduceEqDiff,reduceIte,OutB,Then]))
              with_reducible refine ⟨HP.out,?_⟩
              (refine st_is ?_ ?_ ?_ ?_;(focus (simp[zan,zaq]));(focus rfl);(focus (first|rfl|(simp;done)|(simp[*];done)|(simp;rfl)|(simp[*];omega)|(simp;omega)));(focus (first|rfl|simp)))
          · rintro st ⟨hok,rfl⟩
            have hall:c.events.all (evtOk c)=true:=by
              rw[List.all_eq_true]
              intro p hp
              obtain ⟨j,hj⟩:=List.mem_iff_getElem?.1 hp
              exact hok j p (List.getElem?_eq_some_iff.1 hj).1 hj
            rw[hall]
            clear hok hall
            (repeat (first|(with_reducible apply zad;(focus ((conv=>lhs;simp[*,Nat.testBit_eq_decide_div_mod_eq])<;>exact rfl));simp only[addFl])|((with_reducible first|apply zai|apply zak|apply zah|apply zaf|apply zac|apply zaj|apply zag|apply zam|(apply zae;· simp[*,zaa])|(apply zab;· simp[*,zaa]));try simp only[Then,Ops,OutB,reduceIte])|simp only[Nat.reduceEqDiff,reduceIte,OutB,Then]))
            exact zao (v:=.bool true) (.inl rfl) rfl (by simp) (by simp only[resL,resOf,zal];simp[*,resV]) ⟨rfl,by simp⟩
      · have h3':(6:Int)<c.events.length:=by omega
        rw[decide_eq_false h3]
        (repeat (first|(with_reducible apply zad;(focus ((conv=>lhs;simp[*,Nat.testBit_eq_decide_div_mod_eq])<;>exact rfl));simp only[addFl])|((with_reducible first|apply zai|apply zak|apply zah|apply zaf|apply zac|apply zaj|apply zag|apply zam|(apply zae;· simp[*,zaa])|(apply zab;· simp[*,zaa]));try simp only[Then,Ops])|simp only[Nat.reduceEqDiff,reduceIte,OutB,Then]))
        exact zao (v:=.bool false) (.inl rfl) rfl (by simp) (by simp only[resL,resOf,zal];simp[*,resV]) ⟨by simp,rfl⟩
theorem zze (C:Cfg)(call:CallF)(c:Clm.Cl)(H:List AB):Does (ev C call H.length none af23.body { tm:=tmA af23.ntmps (zipI 0 [.agg (clampCs c)] []),df:=[],hp:=H,tc:=[] })
    (Ends C H.length af23.res fun w _hp tc=>w=.bool (decide (max c.piles.length c.events.length > 40))∧tc=[]):=by
  have e:decide ((40:Int)<max (c.piles.length:Int) (c.events.length:Int))=decide (max c.piles.length c.events.length > 40):=by congr 1;simp;omega
  rw[← e]
  unfold af23
  simp only[zipI,clampCs]
  (repeat (first|(with_reducible apply zad;(focus ((conv=>lhs;simp[*,Nat.testBit_eq_decide_div_mod_eq])<;>exact rfl));simp only[addFl])|((with_reducible first|apply zai|apply zak|apply zah|apply zaf|apply zac|apply zaj|apply zag|apply zam|(apply zae;· simp[*,zaa])|(apply zab;· simp[*,zaa]));try simp only[Then,Ops])|simp only[Nat.reduceEqDiff,reduceIte,OutB,Then]))
  exact zao (v:=.bool (decide ((40:Int)<max (c.piles.length:Int) (c.events.length:Int)))) (.inl rfl) rfl (by simp) (by simp only[resL,resOf,zal];simp[*,resV]) ⟨rfl,rfl⟩
theorem zvy (C:Cfg)(call:CallF)(H:List AB)(a b:Int):Does (ev C call H.length none af28.body { tm:=tmA af28.ntmps (zipI 0 [.int .i64 a,.int .i64 b] []),df:=[],hp:=H,tc:=[] })
    (Ends C H.length af28.res fun w _hp tc=>w=spA ⟨a,b⟩∧tc=[]):=by
  unfold af28
  simp only[zipI]
  (repeat (first|(with_reducible apply zad;(focus ((conv=>lhs;simp[*,Nat.testBit_eq_decide_div_mod_eq])<;>exact rfl));simp only[addFl])|((with_reducible first|apply zai|apply zak|apply zah|apply zaf|apply zac|apply zaj|apply zag|apply zam|(apply zae;· simp[*,zaa])|(apply zab;· simp[*,zaa]));try simp only[Then,Ops])|simp only[Nat.reduceEqDiff,reduceIte,OutB,Then]))
  exact zao (v:=spA ⟨a,b⟩) (.inl rfl) rfl (by simp) (by simp only[resL,resOf,zal];simp[*,pickC,resV,spA]) ⟨rfl,by simp⟩
end K
end Ev
end Go.Proofs.YtimgnlellflciaaGreat

/- What the laws of chapter 09 are told. -/
namespace Go.Proofs.YtimgnlellflciaaGreat
open Go
namespace Ev
namespace K
set_option maxRecDepth 100000
set_option maxHeartbeats 4000000
def hasG (c:Clm.Cl)(n:Int):Clm.Sp:=Clm.ofAll c n.toNat fun _=>Clm.leftW c
structure LApi (call:CallF):Prop where
  built:∀ {H v c},clOf H v=some c→∀ n,call (.fn (.func 7) [] []) [v,.int .i64 n] H=some (.ret (spanR c (isP c n) (Clm.ofAll c n.toNat builtG)),H,[])
  has:∀ {H v c},clOf H v=some c→∀ n,call (.fn (.func 9) [] []) [v,.int .i64 n] H=some (.ret (spanR c (isP c n) (hasG c n)),H,[])
  sold:∀ {H v c},clOf H v=some c→∀ n,call (.fn (.func 11) [] []) [v,.int .i64 n] H=some (.ret (spanR c (isP c n) (Clm.ofAll c n.toNat (soldG c))),H,[])
  all:∀ {H v c},clOf H v=some c→call (.fn (.func 13) [] []) [v] H=some (.ret (spanR c true (Clm.together c (fullP c))),H,[])
  enough:∀ {H v c},clOf H v=some c→∀ n s,call (.fn (.func 15) [] []) [v,.int .i64 n,.int .i64 s] H=some (.ret (numR c (isP c n&&isS s) (enoughN (Clm.together c (2 ^ n.toNat)) s)),H,[])
  empty:∀ {H v c},clOf H v=some c→call (.fn (.func 17) [] []) [v] H=some (.ret (emptyR c),H,[])
  share:∀ {H v c},clOf H v=some c→∀ s,call (.fn (.func 19) [] []) [v,.int .i64 s] H=some (.ret (shareR c s),H,[])
  clash:∀ {H v c},clOf H v=some c→call (.fn (.func 21) [] []) [v] H=some (.ret (clashR c),H,[])
  valid:∀ {H v c},clOf H v=some c→call (.fn (.func 24) [] []) [v] H=some (.ret (.bool (Clm.valid c)),H,[])
  alive:∀ {H},call (.fn (.func 6) [] []) [] H=some (.ret (.bool true),H,[])
  long:∀ {H} (c:Clm.Cl),call (.fn (.func 23) [] []) [.agg (clampCs c)] H=some (.ret (.bool (decide (max c.piles.length c.events.length > 40))),H,[])
  span:∀ {H} (a b:Int),call (.fn (.func 28) [] []) [.int .i64 a,.int .i64 b] H=some (.ret (.agg [.int .i64 a,.int .i64 b]),H,[])
end K
end Ev
end Go.Proofs.YtimgnlellflciaaGreat

/- The laws of chapter 09: their configuration. -/
namespace Go.Proofs.YtimgnlellflciaaGreat
open Go Go.Proofs Go.RowKit
namespace Ev
namespace K
set_option maxRecDepth 100000
set_option maxHeartbeats 4000000
structure KnowsR (C:Cfg):Prop where
  calm:C.calm=true
  rin:Has C 74 af74
  rspan:Has C 75 af75
  rpile:Has C 37 af37
  revent:Has C 76 af76
  rclamp:Has C 24 af24
theorem knowsR:KnowsR cfgK where
  calm:=rfl
  rin:=has_of rfl rfl (by kernel_rfl) rfl
  rspan:=has_of rfl rfl (by kernel_rfl) rfl
  rpile:=has_of rfl rfl (by kernel_rfl) rfl
  revent:=has_of rfl rfl (by kernel_rfl) rfl
  rclamp:=has_of rfl rfl (by kernel_rfl) rfl
theorem validL (c:Clm.Cl)(hp:c.piles.length≤40)(he:c.events.length≤41):Ev.call cfgK 4 (.fn (.func 24) [] []) [.agg (clampCs c)] []=some (.ret (.bool (Clm.valid c)),[],[]):=by
  have k:=knowsR
  have h1:∀ n,RinC (Ev.call cfgK (n+1)):=fun n H a b c=>zax k.calm k.rin (le' rfl) rfl (zuu cfgK _ H a b c)
  have h2:∀ n,RspanC (Ev.call cfgK (n+1)):=fun n H s a b w q1 q2=>zax k.calm k.rspan (le' rfl) rfl (zup cfgK _ H s a b w q1 q2)
  have h3:∀ n,RpileC (Ev.call cfgK (n+2)) c:=fun n H m=>zax k.calm k.rpile (le' rfl) rfl (zlx cfgK _ (h1 n) c (by omega) H m)
  have h4:∀ n,ReventC (Ev.call cfgK (n+3)) c:=fun n H v=>zax k.calm k.revent (le' rfl) rfl (zrs cfgK _ c (h3 n) (h2 (n+1)) H v)
  exact zax k.calm k.rclamp (le' rfl) rfl (zrw cfgK k.calm _ c ⟨by omega,by omega⟩ (h1 2) (h2 2) (h4 0) [])
def sValid (c:Clm.Cl):List Int→Option AV|[]=>some (.bool (Clm.valid c))|_=>none
def gAlive (args:List AV)(_:List AB):Option AV:=match args with|[]=>some (.bool true)|_=>none
noncomputable def exthL (f:Nat):Option (List AV→List AB→Option AV):=if f=24 then some (gCl sValid) else if f=6 then some gAlive else exthL0 f
noncomputable def cfgL (t:FT):Cfg where
  fns:=FT.find t
  glob:=fun _=>none
  dfk:=fun _=>none
  ext:=fun _=>none
  exth:=exthL
  calm:=true
  whole:=fun _=>true
def IsTree (t : FT) : Prop := FT.All (fun k af => ∃ F, Tryz.prog.funcs[k]? = some F ∧ (F.name == "runtime.NumGoroutine")=false∧compFn Tryz.prog F=some af.strip) t
theorem tblL {t:FT}(ht:IsTree t):TblOk Tryz.prog (cfgL t):=by
  refine ⟨fun f fn h=>FT.find_all ht h,fun _ _ h=>(by cases h),fun f g h=>?_,fun _ _ _ h=>(by cases h)⟩
  have h':exthL f=some g:=h
  unfold exthL at h'
  split at h'
  · rename_i hf;subst hf;cases h'
    obtain ⟨F,f1,f2,f3⟩:=is24
    obtain ⟨k1,k2⟩:=gcl_ok (spec:=sValid) ⟨F,f1,f2,_,f3⟩ fun c ns v b1 b2 hs=>by
      unfold sValid at hs
      split at hs<;>cases hs
      exact ⟨trivial,4,_,_,validL c b1 b2⟩
    exact ⟨k1,fun args H v rargs W L μ a b c _=>k2 args H v rargs W L μ a b c⟩
  split at h'
  · rename_i hf;subst hf;cases h'
    obtain ⟨F,f1,f2,f3⟩:=is6
    refine ⟨known _ ⟨F,f1,f2,_,f3⟩,fun args H v rargs W L μ hv hr hs hG=>?_⟩
    unfold gAlive at hv
    split at hv
    · cases hv
      have:rargs=#[]:=Array.ext' (List.eq_nil_of_length_eq_zero (by have:=hr.1;simpa using this.symm))
      subst this
      exact (ztp W).mono fun e W' ⟨h1,h2⟩=>⟨⟨_,h1,.bool⟩,h2⟩
    · cases hv
  · obtain ⟨k1,k2⟩:=zqs f g h'
    exact ⟨k1,fun args H v rargs W L μ a b c d=>k2 args H v rargs W L μ a b c (zdr _ _ _)⟩
theorem zch {t:FT}{f:Nat}{spec:Clm.Cl→List Int→Option AV}(h:exthL f=some (gCl spec))(n:Nat){H:List AB}{v:AV}{c:Clm.Cl}(hc:clOf H v=some c)(ns:List Int){w:AV}(hs:spec c ns=some w):Ev.call (cfgL t) (n+1) (.fn (.func f) [] []) (v::ns.map (AV.int .i64)) H=some (.ret w,H,[]):=by
  show enter (cfgL t) (Ev.call (cfgL t) n) f ([]++(v::ns.map (AV.int .i64))++[]) H=_
  unfold enter
  have h1:(cfgL t).ext f=none:=rfl
  have h2:(cfgL t).exth f=some (gCl spec):=h
  rw[h1,h2]
  have hi:∀ ns:List Int,intsOf (ns.map (AV.int .i64))=some ns:=by
    intro ns
    induction ns with
    |nil=>rfl
    |cons a l ih=>simp[intsOf,ih]
  have h3:gCl spec ([]++(v::ns.map (AV.int .i64))++[]) H=some w:=by
    simp[gCl,hc,hi,hs]
  simp only[h3,Option.map_some]
theorem lapi {t:FT}(hl:Has (cfgL t) 23 af23)(hs:Has (cfgL t) 28 af28)(n:Nat):LApi (Ev.call (cfgL t) (n+1)) where
  built hc m:=zch (spec:=sBuilt) rfl n hc [m] rfl
  has hc m:=zch (spec:=sHas) rfl n hc [m] rfl
  sold hc m:=zch (spec:=sSold) rfl n hc [m] rfl
  all hc:=zch (spec:=sAll) rfl n hc [] rfl
  enough hc m s:=zch (spec:=sEnough) rfl n hc [m,s] rfl
  empty hc:=zch (spec:=sEmpty) rfl n hc [] rfl
  share hc s:=zch (spec:=sShare) rfl n hc [s] rfl
  clash hc:=zch (spec:=sClash) rfl n hc [] rfl
  valid hc:=zch (spec:=sValid) rfl n hc [] rfl
  alive {H}:=by
    show enter (cfgL t) (Ev.call (cfgL t) n) 6 ([]++[]++[]) H=some (.ret (.bool true),H,[])
    unfold enter
    have h1:(cfgL t).ext 6=none:=rfl
    have h2:(cfgL t).exth 6=some gAlive:=rfl
    rw[h1,h2];rfl
  long {H} c:=zax rfl hl (le' rfl) rfl (zze (cfgL t) _ c H)
  span {H} a b:=zax rfl hs (le' rfl) rfl (zvy (cfgL t) _ H a b)
end K
end Ev
end Go.Proofs.YtimgnlellflciaaGreat

/- An argument that is clamps: from its reading to the evaluator's value. -/
namespace Go.Proofs.YtimgnlellflciaaGreat
open Go Go.Proofs Go.RowKit Go.ChangeShapes Go.WideShapes Go.Deep
namespace Ev
namespace K
section
variable {H:Type} {enc:TypeId × Value→H} {w:World} {base:Nat} {spare:Nat→Bool} {held:Bool} {fuel:Nat} {cs:List Value}
theorem list2 {cs:List Value}(h:cs.length=2):∃ a b,cs=[a,b]:=by
  match cs,h with|[a,b],_=>exact ⟨a,b,rfl⟩
theorem list4 {cs:List Value}(h:cs.length=4):∃ a b c d,cs=[a,b,c,d]:=by
  match cs,h with|[a,b,c,d],_=>exact ⟨a,b,c,d,rfl⟩
theorem list6 {cs:List Value}(h:cs.length=6):∃ a b c d e f,cs=[a,b,c,d,e,f]:=by
  match cs,h with|[a,b,c,d,e,f],_=>exact ⟨a,b,c,d,e,f,rfl⟩
theorem zne:Tryz.prog.cellsOf 3=1:=by kernel_rfl
theorem zfc:Tryz.prog.cellsOf 24=2:=by kernel_rfl
theorem zkf:Tryz.prog.cellsOf 99=6:=by kernel_rfl
theorem zjb:Tryz.prog.cellsOf 43=4:=by kernel_rfl
theorem zov:Tryz.prog.cellsOf 27=4:=by kernel_rfl
theorem zou:Tryz.prog.cellsOf 22=1:=by kernel_rfl
theorem znf:Tryz.prog.cellsOf 25=1:=by kernel_rfl
theorem trod_i (h:∃ y,DataW.trod enc Tryz.prog w base spare held fuel 3 cs=some y):∃ n,cs=[.int .i64 n]:=by
  obtain ⟨y,h⟩:=h
  obtain ⟨n,h1,_,h2⟩:=DataW.trod_int Tryz.underlying3 h
  exact ⟨n,h1⟩
theorem zei (h:∃ y,DataW.trod enc Tryz.prog w base spare held fuel 24 cs=some y):∃ a b,cs=[.int .i64 a,.int .i64 b]:=by
  obtain ⟨y,h⟩:=h
  obtain ⟨xs,n,rfl,_,hl,hx,hf⟩:=DataW.trod_struct Tryz.underlying24 h
  rw[zfc] at hl
  have hx:xs.length=2:=hx
  obtain ⟨c0,c1,rfl⟩:=list2 hl
  clear hl
  obtain ⟨a,ha⟩:=trod_i ⟨_,(hf 0 _ rfl).trans (List.getElem?_eq_getElem (by omega))⟩
  obtain ⟨b,hb⟩:=trod_i ⟨_,(hf 1 _ rfl).trans (List.getElem?_eq_getElem (by omega))⟩
  simp[zne] at ha hb
  exact ⟨a,b,by rw[ha,hb]⟩
def pileR (p:Clm.Pl):List Value:=[.int .i64 p.long.lo,.int .i64 p.long.hi,.int .i64 p.wide.lo,.int .i64 p.wide.hi,.int .i64 p.high.lo,.int .i64 p.high.hi]
def evtR (e:Clm.Evt):List Value:=[.int .i64 e.kind,.int .i64 e.clamp,.int .i64 e.sods.lo,.int .i64 e.sods.hi]
theorem ztu (h:∃ y,DataW.trod enc Tryz.prog w base spare held fuel 99 cs=some y):∃ p,cs=pileR p:=by
  obtain ⟨y,h⟩:=h
  obtain ⟨xs,n,rfl,_,hl,hx,hf⟩:=DataW.trod_struct Tryz.underlying99 h
  rw[zkf] at hl
  have hx:xs.length=3:=hx
  obtain ⟨c0,c1,c2,c3,c4,c5,rfl⟩:=list6 hl
  clear hl
  obtain ⟨a,b,hab⟩:=zei ⟨_,(hf 0 _ rfl).trans (List.getElem?_eq_getElem (by omega))⟩
  obtain ⟨d,e,hde⟩:=zei ⟨_,(hf 1 _ rfl).trans (List.getElem?_eq_getElem (by omega))⟩
  obtain ⟨f,g,hfg⟩:=zei ⟨_,(hf 2 _ rfl).trans (List.getElem?_eq_getElem (by omega))⟩
  simp[zfc] at hab hde hfg
  exact ⟨⟨⟨a,b⟩,⟨d,e⟩,⟨f,g⟩⟩,by rw[hab.1,hab.2,hde.1,hde.2,hfg.1,hfg.2];rfl⟩
theorem zrg (h:∃ y,DataW.trod enc Tryz.prog w base spare held fuel 43 cs=some y):∃ p,cs=evtR p:=by
  obtain ⟨y,h⟩:=h
  obtain ⟨xs,n,rfl,_,hl,hx,hf⟩:=DataW.trod_struct Tryz.underlying43 h
  rw[zjb] at hl
  have hx:xs.length=3:=hx
  obtain ⟨c0,c1,c2,c3,rfl⟩:=list4 hl
  clear hl
  obtain ⟨a,ha⟩:=trod_i ⟨_,(hf 0 _ rfl).trans (List.getElem?_eq_getElem (by omega))⟩
  obtain ⟨b,hb⟩:=trod_i ⟨_,(hf 1 _ rfl).trans (List.getElem?_eq_getElem (by omega))⟩
  obtain ⟨f,g,hfg⟩:=zei ⟨_,(hf 2 _ rfl).trans (List.getElem?_eq_getElem (by omega))⟩
  simp[zne,zfc] at ha hb hfg
  exact ⟨⟨a,b,⟨f,g⟩⟩,by rw[ha,hb,hfg.1,hfg.2];rfl⟩
theorem row_vr {α:Type}{t e:TypeId}{k:Nat}(d:α)(g:α→List Value)(G:α→AV)(hk:0<k)(hg:∀ y,(g y).length=k)(hG:∀ y,(G y).cells.length=k)(hv:∀ (y:α) (j:Nat) (x:AV) (r:Value),(G y).cells[j]?=some x→(g y)[j]?=some r→VR w (fun _=>False) nomu x r)
    (ht:Tryz.prog.underlying t=some (.slice e)) (hc:Tryz.prog.cellsOf e=k)
    (he:∀ (fuel:Nat) (cs:List Value),(∃ y,DataW.trod enc Tryz.prog w base spare held fuel e cs=some y)→∃ y,cs=g y)
    (h:∃ y,DataW.trod enc Tryz.prog w base spare held fuel t cs=some y):
    ∃ (l:List α) (x:Value),cs=[x]∧VR w (fun _=>False) nomu (.vs k (l.map G)) x:=by
  obtain ⟨y,h⟩:=h
  rcases open_slice ht h with ⟨rfl,_⟩|⟨a,len,cap,m,n,D,Pl,rfl,hb,hl,hm,hmm,hx,hi⟩
  · exact ⟨[],_,rfl,.vs0⟩
  · have hml:len≤m:=by rw[hmm];split<;>omega
    have:∀ i,∃ y:α,i<len→∀ j,j<k→∃ r,(g y)[j]?=some r∧w.cell? (a.add (i * k+j))=some r:=by
      intro i
      by_cases hlt:i<len
      · obtain ⟨cs',h1,h2⟩:=hi i (by omega)
        obtain ⟨y,rfl⟩:=he n cs' ⟨_,h2⟩
        rw[hc] at h1
        obtain ⟨_,_,h3⟩:=World.cells?_some h1
        refine ⟨y,fun _ j hj=>⟨(g y)[j]'(by rw[hg];exact hj),List.getElem?_eq_getElem _,?_⟩⟩
        rw[← Go.Deep.add_add,h3 j hj,List.getElem?_eq_getElem (by rw[hg];exact hj)]
      · exact ⟨d,fun h=>absurd h hlt⟩
    obtain ⟨f,hf⟩:=Classical.skolem.1 this
    refine ⟨(List.range len).map f,_,rfl,?_⟩
    by_cases h0:len=0
    · subst h0;exact .vs0
    · obtain ⟨r0,_,h00⟩:=hf 0 (by omega) 0 hk
      have hs:=World.cell?_spot h00
      obtain ⟨b,off,sp⟩:=a
      obtain rfl:sp=none:=by simpa [Addr.add] using hs
      have hadd:∀ u,Addr.add ⟨b,off,none⟩ u=⟨b,off+u,none⟩:=fun u=>by simp[Addr.add]
      have hlen:(((List.range len).map f).map G).length=len:=by simp
      have hat:∀ (i:Nat) (e:AV),(((List.range len).map f).map G)[i]?=some e→i<len∧e=G (f i):=by
        intro i e h
        have hi:i<len:=by have:=(List.getElem?_eq_some_iff.1 h).1;simpa using this
        simp[hi] at h
        exact ⟨hi,h.symm⟩
      have key:VR w (fun _=>False) nomu (.vs k (((List.range len).map f).map G)) (.slice (some ⟨b,off,none⟩) (((List.range len).map f).map G).length cap):=by
        refine .vs (fun i j=>(g (f i)).getD j .nilFunc) (by rw[hlen];exact hl) (fun i e h=>?_) (fun i e j x h hx=>⟨id,?_⟩) (fun i e j x h hx=>?_)
        · obtain ⟨_,rfl⟩:=hat i e h;exact hG _
        · obtain ⟨hi,rfl⟩:=hat i e h
          have hj:j<k:=by have:=(List.getElem?_eq_some_iff.1 hx).1;rwa [hG] at this
          obtain ⟨r,h1,h2⟩:=hf i hi j hj
          rw[hadd,← Nat.add_assoc] at h2
          rw[h2,List.getD_eq_getElem?_getD,h1];rfl
        · obtain ⟨hi,rfl⟩:=hat i e h
          have hj:j<k:=by have:=(List.getElem?_eq_some_iff.1 hx).1;rwa [hG] at this
          obtain ⟨r,h1,h2⟩:=hf i hi j hj
          rw[List.getD_eq_getElem?_getD,h1]
          exact hv _ j x r hx h1
      rw[hlen] at key
      exact key
theorem zph {l:List AV}{m:List Value}(h:∀ (j:Nat) (x:AV) (r:Value),l[j]?=some x→m[j]?=some r→∃ n,x=.int .i64 n∧r=.int .i64 n)(j:Nat)(x:AV)(r:Value)(h1:l[j]?=some x)(h2:m[j]?=some r):VR w (fun _=>False) nomu x r:=by
  obtain ⟨n,rfl,rfl⟩:=h j x r h1 h2;exact .int
theorem zrf (h:∃ y,DataW.trod enc Tryz.prog w base spare held fuel 22 cs=some y):∃ (l:List Clm.Pl) (x:Value),cs=[x]∧VR w (fun _=>False) nomu (.vs 6 (l.map pileE)) x:=
  row_vr (k := 6) default pileR pileE (by decide) (fun _ => rfl) (fun _ => rfl) (fun y => zph fun j x r h1 h2 => by
    match j,h1,h2 with
    |0,h1,h2=>cases h1;cases h2;exact ⟨_,rfl,rfl⟩
    |1,h1,h2=>cases h1;cases h2;exact ⟨_,rfl,rfl⟩
    |2,h1,h2=>cases h1;cases h2;exact ⟨_,rfl,rfl⟩
    |3,h1,h2=>cases h1;cases h2;exact ⟨_,rfl,rfl⟩
    |4,h1,h2=>cases h1;cases h2;exact ⟨_,rfl,rfl⟩
    |5,h1,h2=>cases h1;cases h2;exact ⟨_,rfl,rfl⟩
    |j+6,h1,h2=>simp[pileR] at h2) Tryz.underlying22 zkf (fun _ _ h=>ztu h) h
theorem znm (h:∃ y,DataW.trod enc Tryz.prog w base spare held fuel 25 cs=some y):∃ (l:List Clm.Evt) (x:Value),cs=[x]∧VR w (fun _=>False) nomu (.vs 4 (l.map evtE)) x:=
  row_vr (k := 4) default evtR evtE (by decide) (fun _ => rfl) (fun _ => rfl) (fun y => zph fun j x r h1 h2 => by
    match j,h1,h2 with
    |0,h1,h2=>cases h1;cases h2;exact ⟨_,rfl,rfl⟩
    |1,h1,h2=>cases h1;cases h2;exact ⟨_,rfl,rfl⟩
    |2,h1,h2=>cases h1;cases h2;exact ⟨_,rfl,rfl⟩
    |3,h1,h2=>cases h1;cases h2;exact ⟨_,rfl,rfl⟩
    |j+4,h1,h2=>simp[evtR] at h2) Tryz.underlying25 zjb (fun _ _ h=>zrg h) h
theorem trod_clamp (h:∃ y,DataW.trod enc Tryz.prog w base spare held fuel 27 cs=some y):∃ c:Clm.Cl,VR w (fun _=>False) nomu (.agg (clampCs c)) (.agg cs.toArray):=by
  obtain ⟨y,h⟩:=h
  obtain ⟨xs,n,rfl,_,hl,hx,hf⟩:=DataW.trod_struct Tryz.underlying27 h
  rw[zov] at hl
  have hx:xs.length=3:=hx
  obtain ⟨c0,c1,c2,c3,rfl⟩:=list4 hl
  clear hl
  obtain ⟨ps,x,hp,hvp⟩:=zrf ⟨_,(hf 0 _ rfl).trans (List.getElem?_eq_getElem (by omega))⟩
  obtain ⟨a,b,hab⟩:=zei ⟨_,(hf 1 _ rfl).trans (List.getElem?_eq_getElem (by omega))⟩
  obtain ⟨es,z,he,hve⟩:=znm ⟨_,(hf 2 _ rfl).trans (List.getElem?_eq_getElem (by omega))⟩
  simp[zfc,zou,znf] at hp hab he
  rw[hp,hab.1,hab.2,he]
  refine ⟨⟨ps,⟨a,b⟩,es⟩,.agg rfl fun i v r h1 h2=>?_⟩
  match i,h1,h2 with
  |0,h1,h2=>cases h1;cases h2;exact hvp
  |1,h1,h2=>cases h1;cases h2;exact .int
  |2,h1,h2=>cases h1;cases h2;exact .int
  |3,h1,h2=>cases h1;cases h2;exact hve
  |i+4,h1,h2=>simp at h2
end
end K
end Ev
end Go.Proofs.YtimgnlellflciaaGreat

/- What the rows of chapter 09 share. -/
namespace Go.Proofs.YtimgnlellflciaaGreat
open Go Go.Proofs Go.ChangeShapes Go.WideShapes Go.ChangeAt Go.RowKit
namespace Ev
namespace K
theorem ybm {w:Value}{b:Bool}(h:∀ W L μ,VR W L μ (.bool b) w)(W:World):w=.bool b:=by
  have:=h W (fun _=>False) nomu
  cases this with
  |dead h1=>cases h1
  |bool=>rfl
end K
end Ev
set_option maxRecDepth 100000 in
theorem znz:ownKnob Tryz.prog.godebug=none:=by kernel_rfl
set_option maxRecDepth 100000 in
theorem laidOut':laidOutB Tryz.prog=true:=by kernel_rfl
def noClamp:Value:=.agg #[.slice none 0 0,.int .i64 0,.int .i64 0,.slice none 0 0]
set_option maxRecDepth 100000 in
theorem zse {H:Type}{enc:TypeId × Value→H}{W:World}{v:Value}{d:DataW H}{p:List MemPlace}{base:Nat}
    (hv:Value.okWide Tryz.prog W .any base 27 v) (h:DataW.Trod enc Tryz.prog W 0 (fun _=>true) true 27 v d p):∃ c:Clm.Cl,Ev.VR W (fun _=>False) Ev.nomu (.agg (Ev.K.clampCs c)) v:=by
  obtain ⟨cs,rfl,_⟩:=okWide_struct Tryz.underlying27 hv
  obtain ⟨fuel,hf⟩:=h
  obtain ⟨c,hc⟩:=Ev.K.trod_clamp (cs:=cs.toList) ⟨_,hf⟩
  exact ⟨c,by simpa using hc⟩
end Go.Proofs.YtimgnlellflciaaGreat
