/- Own texts for this claim: SvTok, SvBase, SvState, SvOps, SvSat, SvPure, SvPure2, SvPure3, SvPure4, SvEff, SvStore, SvCall. -/
import Derived.KernelRfl
import Derived.Calls
import Derived.Tactics
import Derived.Laws.NewBlocks
import Derived.Laws.AppendOwn
import Derived.Below
import Derived.Laws.Cells
import Derived.Laws.IdiomCopy
import Derived.Laws.Strings
import Derived.Laws.Concat
import Derived.Laws.StructEq
import Derived.ChangeKeysEq
set_option linter.all false
section
namespace Go.Sv
theorem oM {p:Prop} (h:p:=by omega):p:=h
theorem kR {p:Prop} (h:p:=by kernel_rfl):p:=h
theorem aS {p:Prop} (h:p:=by assumption):p:=h
theorem dC {p:Prop} (h:p:=by decide):p:=h
theorem sO {p:Prop} (h:p:=by simp;omega):p:=h
end Go.Sv
end
section
namespace Go.Sv
inductive Cell
 | int (k:IntKind) (n:Int)
 | bool (b:Bool)
 | str (s:List UInt8)
 | sl (sz n:Nat) (f:Nat→Nat→Cell)
 | nilsl
 | emp
 | ptr (id off:Nat)
 | nilptr
 | dp (m:Nat) (g:Nat→Cell)
 | row (sz id off len:Nat)
 | rp (sz id e o:Nat)
 | map (id:Nat)
 | nilmap
 | clo (f:FuncId) (k:Nat) (sh:Nat→Option Nat) (c:Nat→Nat→Cell)
 | nilfn
 | ifc (t:TypeId) (sh:Option Nat) (c:Nat→Cell)
 | nilif
 | cl (x:Cell)
inductive V1
 | c (x:Cell)
 | agg (l:List Cell)
inductive TV
 | v (x:V1)
 | tup (l:List V1)
 | cnd (t:Nat) (w:Bool) (x:V1)
 | junk
inductive Ob
 | ms (m:List (List UInt8×V1))
 | it (s:List UInt8) (pos:Nat)
 | mi (mid n:Nat) (seen:List Nat)
inductive Blk
 | box (e:TypeId) (cs:List Cell)
 | row (e:TypeId) (sz n:Nat) (f:Nat→Nat→Cell)
 | ob (o:Ob)
abbrev Dat:=Nat→Nat→Option Value
abbrev Rho:=Nat→Nat×Nat
def rho0:Rho:=fun _=>(0,0)
def cloV (f:FuncId) (vs:Array Value):Value:=match Nat.blt f 1000000000 with
 | true => .func (.func f) #[] vs
 | false => .func (.func (f-1000000000)) vs #[]
theorem cloV_ex (f:FuncId) (vs:Array Value):∃ g x y,cloV f vs = .func (.func g) x y:=by
 unfold cloV
 split<;>exact ⟨_,_,_,rfl⟩
theorem cloV_of {f:FuncId} {vs:Array Value} (h:Nat.blt f 1000000000=true):cloV f vs = .func (.func f) #[] vs:=by unfold cloV;rw [h]
theorem cloV_bound {f:FuncId} {vs:Array Value} (h:Nat.blt f 1000000000=false):cloV f vs = .func (.func (f-1000000000)) vs #[]:=by unfold cloV;rw [h]
def Den (D:Dat):Rho→Cell→Value→Prop
 | _,.int k n,v=>v = .int k n
 | _,.bool b,v=>v = .bool b
 | _,.str s,v=>v = .string ⟨s.toArray⟩
 | _,.sl sz n f,v=>∃ a cap,v = .slice a n cap∧n≤cap∧cap≤maxLen ∧
   (cap=0∨∃ b o,a=some ⟨b,o,none⟩∧∀ i,i<n→∀ j,j<sz→∃ u,D b (o+i*sz+j)=some u∧Den D rho0 (f i j) u)
 | _,.nilsl,v=>v = .slice none 0 0
 | _,.emp,v=>∃ a cap,v = .slice (some a) 0 cap∧cap≤maxLen∧(cap=0∨a.spot=none)
 | ρ,.ptr id off,v=>v = .pointer (some ⟨(ρ id).1,off,none⟩)
 | _,.nilptr,v=>v = .pointer none
 | _,.dp m g,v=>∃ b o,v = .pointer (some ⟨b,o,none⟩)∧∀ j,j<m→∃ u,D b (o+j)=some u∧Den D rho0 (g j) u
 | ρ,.row sz id off len,v=>(∃ o,v = .slice (some ⟨(ρ id).1,o,none⟩) len ((ρ id).2-off)∧off+len≤(ρ id).2∧(o=off*sz∨off=(ρ id).2)) ∨
   ((ρ id).2=0∧off=0∧len=0∧∃ ad:Option Addr,(ad=none∨∃ b o,ad=some ⟨b,o,none⟩)∧v = .slice ad 0 0)
 | ρ,.rp sz id e o,v=>v = .pointer (some ⟨(ρ id).1,e*sz+o,none⟩)
 | ρ,.map id,v=>v = .map (some (ρ id).1)
 | _,.nilmap,v=>v = .map none
 | ρ,.clo f k sh c,v=>∃ vs:Array Value,v=cloV f vs∧vs.size=k∧∀ i,i<k→∃ u,vs[i]?=some u ∧
   match sh i with
   | none=>Den D ρ (c i 0) u
   | some m=>∃ us:Array Value,u = .agg us∧us.size=m∧∀ j,j<m→∃ x,us[j]?=some x∧Den D ρ (c i j) x
 | _,.nilfn,v=>v = .nilFunc
 | ρ,.ifc t sh c,v=>∃ u,v = .iface t u ∧
   match sh with
   | none=>Den D ρ (c 0) u
   | some m=>∃ us:Array Value,u = .agg us∧us.size=m∧∀ j,j<m→∃ x,us[j]?=some x∧Den D ρ (c j) x
 | _,.nilif,v=>v = .nilIface
 | _,.cl x,v=>Den D rho0 x v
def DatLe (D D':Dat):Prop:=∀ b o v,D b o=some v→D' b o=some v
theorem DatLe.refl (D:Dat):DatLe D D:=fun _ _ _ h=>h
theorem DatLe.trans {A B C:Dat} (h:DatLe A B) (k:DatLe B C):DatLe A C:=fun b o v e=>k b o v (h b o v e)
theorem Den.mono {D D':Dat} (h:DatLe D D'):∀ (x:Cell) (ρ:Rho) (v:Value),Den D ρ x v→Den D' ρ x v:=by
 intro x
 induction x with
 | sl sz n f ih =>
  intro ρ v hv
  simp only [Den] at hv ⊢
  obtain ⟨a,cap,e,h1,h2,h3⟩:=hv
  refine ⟨a,cap,e,h1,h2,?_⟩
  rcases h3 with h3 | ⟨b,o,ea,h3⟩
  ·exact .inl h3
  ·refine .inr ⟨b,o,ea,fun i hi j hj => ?_⟩
   obtain ⟨u,hu,hd⟩:=h3 i hi j hj
   exact ⟨u,h _ _ _ hu,ih i j _ _ hd⟩
 | dp m g ih =>
  intro ρ v hv
  simp only [Den] at hv ⊢
  obtain ⟨b,o,e,h3⟩:=hv
  refine ⟨b,o,e,fun j hj => ?_⟩
  obtain ⟨u,hu,hd⟩:=h3 j hj
  exact ⟨u,h _ _ _ hu,ih j _ _ hd⟩
 | clo f k sh c ih =>
  intro ρ v hv
  simp only [Den] at hv ⊢
  obtain ⟨vs,e,hs,h3⟩:=hv
  refine ⟨vs,e,hs,fun i hi => ?_⟩
  obtain ⟨u,hu,hd⟩:=h3 i hi
  refine ⟨u,hu,?_⟩
  cases hsh:sh i with
  | none=>rw [hsh] at hd; exact ih i 0 _ _ hd
  | some m =>
   rw [hsh] at hd
   obtain ⟨us,e2,hs2,h4⟩:=hd
   refine ⟨us,e2,hs2,fun j hj => ?_⟩
   obtain ⟨x,hx,hd⟩:=h4 j hj
   exact ⟨x,hx,ih i j _ _ hd⟩
 | ifc t sh c ih =>
  intro ρ v hv
  simp only [Den] at hv ⊢
  obtain ⟨u,e,hd⟩:=hv
  refine ⟨u,e,?_⟩
  cases hsh:sh with
  | none=>rw [hsh] at hd; exact ih 0 _ _ hd
  | some m =>
   rw [hsh] at hd
   obtain ⟨us,e2,hs2,h4⟩:=hd
   refine ⟨us,e2,hs2,fun j hj => ?_⟩
   obtain ⟨x,hx,hd⟩:=h4 j hj
   exact ⟨x,hx,ih j _ _ hd⟩
 | cl x ih=>intro ρ v hv; exact ih rho0 v hv
 | _=>intro ρ v hv; exact hv
def one:Value→Prop
 | .agg _ | .tuple _=>False
 | _=>True
theorem Den.one {D:Dat} {ρ:Rho} {x:Cell} {v:Value} (h:Den D ρ x v):one v:=by
 induction x generalizing ρ<;>simp only [Den] at h
 case cl x ih=>exact ih h
 case sl=>obtain ⟨a,cap,e,_⟩:=h;subst e;trivial
 case emp=>obtain ⟨a,cap,e,_⟩:=h;subst e;trivial
 case dp=>obtain ⟨b,o,e,_⟩:=h;subst e;trivial
 case row=>rcases h with ⟨o,e,_⟩ | ⟨_,_,_,ad,_,e⟩<;>(subst e;trivial)
 case clo=>obtain ⟨vs,e,_⟩:=h;subst e;unfold cloV;split<;>trivial
 case ifc=>obtain ⟨u,e,_⟩:=h;subst e;trivial
 all_goals (subst h;trivial)
theorem one.cells {v:Value} (h:one v):v.cells=#[v]:=by
 cases v<;>first | rfl | exact h.elim
def Cell.flat:Cell→Bool
 | .int .. | .bool _ | .str _ | .sl .. | .nilsl | .emp | .nilptr | .dp .. | .nilmap | .nilfn | .nilif | .cl _=>true
 | _=>false
theorem Den.flat {D:Dat} {ρ ρ':Rho} {x:Cell} {v:Value} (hf:x.flat=true) (h:Den D ρ x v):Den D ρ' x v:=by
 cases x<;>simp only [Cell.flat,Bool.false_eq_true] at hf<;>exact h
def Agr (ρ ρ':Rho):Cell→Prop
 | .ptr id _ | .row _ id _ _ | .rp _ id _ _ | .map id=>ρ id=ρ' id
 | .clo _ k sh c=>∀ i,i<k→match sh i with | none=>Agr ρ ρ' (c i 0) | some m=>∀ j,j<m→Agr ρ ρ' (c i j)
 | .ifc _ sh c=>match sh with | none=>Agr ρ ρ' (c 0) | some m=>∀ j,j<m→Agr ρ ρ' (c j)
 | _=>True
theorem Den.agr {D:Dat} {ρ ρ':Rho}:∀ {x:Cell} {v:Value},Agr ρ ρ' x→Den D ρ x v→Den D ρ' x v:=by
 intro x
 induction x with
 | ptr id off=>intro v h hd; simp only [Agr] at h; simp only [Den] at hd ⊢; rw [← h]; exact hd
 | row sz id off len=>intro v h hd; simp only [Agr] at h; simp only [Den] at hd ⊢; rw [← h]; exact hd
 | rp sz id e o=>intro v h hd; simp only [Agr] at h; simp only [Den] at hd ⊢; rw [← h]; exact hd
 | map id=>intro v h hd; simp only [Agr] at h; simp only [Den] at hd ⊢; rw [← h]; exact hd
 | clo f k sh c ih =>
  intro v h hv
  simp only [Agr] at h
  simp only [Den] at hv ⊢
  obtain ⟨vs,e,hs,h3⟩:=hv
  refine ⟨vs,e,hs,fun i hi => ?_⟩
  obtain ⟨u,hu,hd⟩:=h3 i hi
  refine ⟨u,hu,?_⟩
  have hh:=h i hi
  cases hsh:sh i with
  | none=>rw [hsh] at hd hh; exact ih i 0 hh hd
  | some m =>
   rw [hsh] at hd hh
   obtain ⟨us,e2,hs2,h4⟩:=hd
   refine ⟨us,e2,hs2,fun j hj => ?_⟩
   obtain ⟨x,hx,hd⟩:=h4 j hj
   exact ⟨x,hx,ih i j (hh j hj) hd⟩
 | ifc t sh c ih =>
  intro v h hv
  simp only [Den] at hv ⊢
  obtain ⟨u,e,hd⟩:=hv
  refine ⟨u,e,?_⟩
  cases sh with
  | none=>exact ih 0 h hd
  | some m =>
   obtain ⟨us,e2,hs2,h4⟩:=hd
   refine ⟨us,e2,hs2,fun j hj => ?_⟩
   obtain ⟨x,hx,hd⟩:=h4 j hj
   exact ⟨x,hx,ih j (h j hj) hd⟩
 | _=>intro v h hd; exact hd
def Cell.inS (S:Nat→Prop):Cell→Prop
 | .ptr id _ | .row _ id _ _ | .rp _ id _ _ | .map id=>S id
 | .clo _ k sh c=>∀ i,i<k→match sh i with | none=>(c i 0).inS S | some m=>∀ j,j<m→(c i j).inS S
 | .ifc _ sh c=>match sh with | none=>(c 0).inS S | some m=>∀ j,j<m→(c j).inS S
 | _=>True
theorem Agr.of_inS {ρ ρ':Rho} {S:Nat→Prop} (h:∀ i,S i→ρ i=ρ' i):∀ {x:Cell},x.inS S→Agr ρ ρ' x:=by
 intro x
 induction x with
 | ptr id off=>intro hb; exact h _ hb
 | row sz id off len=>intro hb; exact h _ hb
 | rp sz id e o=>intro hb; exact h _ hb
 | map id=>intro hb; exact h _ hb
 | clo f k sh c ih =>
  intro hb
  simp only [Cell.inS] at hb
  simp only [Agr]
  intro i hi
  have:=hb i hi
  cases hsh:sh i with
  | none=>rw [hsh] at this; exact ih i 0 this
  | some m=>rw [hsh] at this; exact fun j hj=>ih i j (this j hj)
 | ifc t sh c ih =>
  intro hb
  cases sh with
  | none=>exact ih 0 hb
  | some m=>exact fun j hj=>ih j (hb j hj)
 | _=>intro hb; trivial
theorem Cell.inS_mono {S T:Nat→Prop} (h:∀ i,S i→T i):∀ {x:Cell},x.inS S→x.inS T:=by
 intro x
 induction x with
 | ptr id off=>intro hb; exact h _ hb
 | row sz id off len=>intro hb; exact h _ hb
 | rp sz id e o=>intro hb; exact h _ hb
 | map id=>intro hb; exact h _ hb
 | clo f k sh c ih =>
  intro hb
  simp only [Cell.inS] at hb ⊢
  intro i hi
  have:=hb i hi
  cases hsh:sh i with
  | none=>rw [hsh] at this; exact ih i 0 this
  | some m=>rw [hsh] at this; exact fun j hj=>ih i j (this j hj)
 | ifc t sh c ih =>
  intro hb
  cases sh with
  | none=>exact ih 0 hb
  | some m=>exact fun j hj=>ih j (hb j hj)
 | _=>intro hb; trivial
theorem Cell.inS_flat {S:Nat→Prop} {x:Cell} (h:x.flat=true):x.inS S:=by
 cases x<;>first | trivial | (simp [Cell.flat] at h)
def Cell.ren (σ:Nat→Nat):Cell→Cell
 | .ptr id off => .ptr (σ id) off
 | .row sz id off len => .row sz (σ id) off len
 | .rp sz id e o => .rp sz (σ id) e o
 | .map id => .map (σ id)
 | .clo f k sh c => .clo f k sh (fun i j=>(c i j).ren σ)
 | .ifc t sh c => .ifc t sh (fun j=>(c j).ren σ)
 | .int k n => .int k n
 | .bool b => .bool b
 | .str s => .str s
 | .sl sz n f => .sl sz n f
 | .nilsl => .nilsl
 | .emp => .emp
 | .nilptr => .nilptr
 | .dp m g => .dp m g
 | .nilmap => .nilmap
 | .nilfn => .nilfn
 | .nilif => .nilif
 | .cl x => .cl x
theorem Den.ren {D:Dat} {σ:Nat→Nat} {ρ:Rho}:∀ {x:Cell} {v:Value},Den D ρ (x.ren σ) v↔Den D (fun i=>ρ (σ i)) x v:=by
 intro x
 induction x with
 | clo f k sh c ih =>
  intro v
  simp only [Cell.ren,Den]
  constructor
  ·rintro ⟨vs,e,hs,h3⟩
   refine ⟨vs,e,hs,fun i hi => ?_⟩
   obtain ⟨u,hu,hd⟩:=h3 i hi
   refine ⟨u,hu,?_⟩
   cases hsh:sh i with
   | none=>rw [hsh] at hd; exact (ih i 0).1 hd
   | some m =>
    rw [hsh] at hd
    obtain ⟨us,e2,hs2,h4⟩:=hd
    refine ⟨us,e2,hs2,fun j hj => ?_⟩
    obtain ⟨x,hx,hd⟩:=h4 j hj
    exact ⟨x,hx,(ih i j).1 hd⟩
  ·rintro ⟨vs,e,hs,h3⟩
   refine ⟨vs,e,hs,fun i hi => ?_⟩
   obtain ⟨u,hu,hd⟩:=h3 i hi
   refine ⟨u,hu,?_⟩
   cases hsh:sh i with
   | none=>rw [hsh] at hd; exact (ih i 0).2 hd
   | some m =>
    rw [hsh] at hd
    obtain ⟨us,e2,hs2,h4⟩:=hd
    refine ⟨us,e2,hs2,fun j hj => ?_⟩
    obtain ⟨x,hx,hd⟩:=h4 j hj
    exact ⟨x,hx,(ih i j).2 hd⟩
 | ifc t sh c ih =>
  intro v
  simp only [Cell.ren,Den]
  constructor
  ·rintro ⟨u,e,hd⟩
   refine ⟨u,e,?_⟩
   cases sh with
   | none=>exact (ih 0).1 hd
   | some m =>
    obtain ⟨us,e2,hs2,h4⟩:=hd
    refine ⟨us,e2,hs2,fun j hj => ?_⟩
    obtain ⟨x,hx,hd⟩:=h4 j hj
    exact ⟨x,hx,(ih j).1 hd⟩
  ·rintro ⟨u,e,hd⟩
   refine ⟨u,e,?_⟩
   cases sh with
   | none=>exact (ih 0).2 hd
   | some m =>
    obtain ⟨us,e2,hs2,h4⟩:=hd
    refine ⟨us,e2,hs2,fun j hj => ?_⟩
    obtain ⟨x,hx,hd⟩:=h4 j hj
    exact ⟨x,hx,(ih j).2 hd⟩
 | _=>intro v; simp only [Cell.ren,Den]
theorem Cell.inS_ren {S:Nat→Prop} {σ:Nat→Nat}:∀ {x:Cell},(x.ren σ).inS S↔x.inS (fun i=>S (σ i)):=by
 intro x
 induction x with
 | clo f k sh c ih =>
  simp only [Cell.ren,Cell.inS]
  constructor
  ·intro h i hi
   have:=h i hi
   cases hsh:sh i with
   | none=>rw [hsh] at this; exact (ih i 0).1 this
   | some m=>rw [hsh] at this; exact fun j hj=>(ih i j).1 (this j hj)
  ·intro h i hi
   have:=h i hi
   cases hsh:sh i with
   | none=>rw [hsh] at this; exact (ih i 0).2 this
   | some m=>rw [hsh] at this; exact fun j hj=>(ih i j).2 (this j hj)
 | ifc t sh c ih =>
  cases sh with
  | none=>exact ih 0
  | some m=>exact ⟨fun h j hj=>(ih j).1 (h j hj),fun h j hj=>(ih j).2 (h j hj)⟩
 | _=>first | exact Iff.rfl | (simp only [Cell.ren,Cell.inS])
end Go.Sv
end
section
namespace Go.Sv
def look {α:Type}:List (Nat×α)→Nat→Option α
 | [],_=>none
 | (k,v)::r,n=>match Nat.beq k n with
  | true=>some v
  | false=>look r n
def put {α:Type}:List (Nat×α)→Nat→α→List (Nat×α)
 | [],n,v=>[(n,v)]
 | (k,w)::r,n,v=>match Nat.beq k n with
  | true=>(k,v)::r
  | false=>(k,w)::put r n v
def del {α:Type}:List (Nat×α)→Nat→List (Nat×α)
 | [],_=>[]
 | (k,w)::r,n=>match Nat.beq k n with
  | true=>del r n
  | false=>(k,w)::del r n
def nth {α:Type}:List α→Nat→Option α
 | [],_=>none
 | x::_,0=>some x
 | _::r,n+1=>nth r n
def setNth {α:Type}:List α→Nat→α→List α
 | [],_,_=>[]
 | _::r,0,v=>v::r
 | x::r,n+1,v=>x::setNth r n v
def len {α:Type}:List α→Nat
 | []=>0
 | _::r=>len r+1
theorem nth_eq {α:Type} (l:List α) (n:Nat):nth l n=l[n]?:=by
 induction l generalizing n with
 | nil=>simp [nth]
 | cons x r ih=>cases n with
  | zero=>simp [nth]
  | succ n=>simp [nth,ih]
theorem len_eq {α:Type} (l:List α):len l=l.length:=by
 induction l with
 | nil=>rfl
 | cons x r ih=>simp [len,ih]
theorem setNth_eq {α:Type} (l:List α) (n:Nat) (v:α):setNth l n v=l.set n v:=by
 induction l generalizing n with
 | nil=>simp [setNth]
 | cons x r ih=>cases n with
  | zero=>simp [setNth]
  | succ n=>simp [setNth,ih]
theorem beq_eq (a b:Nat):(Nat.beq a b=true)↔a=b:=⟨Nat.eq_of_beq_eq_true,fun h=>h▸Nat.beq_refl a⟩
theorem beq_ne (a b:Nat):(Nat.beq a b=false)↔a≠b:=by
 cases h:Nat.beq a b
 ·simp;intro e;rw [(beq_eq a b).2 e] at h;cases h
 ·simp;exact (beq_eq a b).1 h
theorem look_put {α:Type} (l:List (Nat×α)) (n m:Nat) (v:α):look (put l n v) m=if n=m then some v else look l m:=by
 induction l with
 | nil =>
  simp only [put,look]
  cases h:Nat.beq n m
  ·simp [(beq_ne _ _).1 h]
  ·simp [(beq_eq _ _).1 h]
 | cons p r ih =>
  obtain ⟨k,w⟩:=p
  simp only [put]
  cases hk:Nat.beq k n
  ·simp only [look]
   cases hm:Nat.beq k m
   ·simp only [ih]
   ·have:=(beq_eq _ _).1 hm;subst this
    have hne:=(beq_ne _ _).1 hk
    simp [Ne.symm hne]
  ·have:=(beq_eq _ _).1 hk;subst this
   simp only [look]
   cases hm:Nat.beq k m
   ·simp [(beq_ne _ _).1 hm]
   ·simp [(beq_eq _ _).1 hm]
theorem look_del {α:Type} (l:List (Nat×α)) (n m:Nat):look (del l n) m=if n=m then none else look l m:=by
 induction l with
 | nil=>simp [del,look]
 | cons p r ih =>
  obtain ⟨k,w⟩:=p
  simp only [del]
  cases hk:Nat.beq k n
  ·simp only [look]
   cases hm:Nat.beq k m
   ·simp only [ih]
   ·have:=(beq_eq _ _).1 hm;subst this
    have hne:=(beq_ne _ _).1 hk
    simp [Ne.symm hne]
  ·have:=(beq_eq _ _).1 hk;subst this
   simp only [ih,look]
   cases hm:Nat.beq k m
   ·simp [(beq_ne _ _).1 hm]
   ·simp [(beq_eq _ _).1 hm]
structure St where
 tm:List (Nat×TV)
 hp:List (Nat×Blk)
 nx:Nat
inductive Key
 | tm (t:Nat)
 | cl (id off:Nat)
 | bk (id:Nat)
inductive KV
 | tv (v:TV)
 | cl (x:Cell)
 | bk (b:Blk)
 | gone
def St.get (st:St):Key→Option KV
 | .tm t=>match look st.tm t with
  | some v=>some (.tv v)
  | none=>none
 | .cl id off=>match look st.hp id with
  | some (.box _ cs)=>match nth cs off with
   | some x=>some (.cl x)
   | none=>none
  | _=>none
 | .bk id=>match look st.hp id with
  | some b=>some (.bk b)
  | none=>none
def St.set (st:St):Key→KV→St
 | .tm t,.tv v=>{ st with tm:=put st.tm t v }
 | .tm t,.gone=>{ st with tm:=del st.tm t }
 | .cl id off,.cl x=>match look st.hp id with
  | some (.box e cs)=>{ st with hp:=put st.hp id (.box e (setNth cs off x)) }
  | _=>st
 | .bk id,.bk b=>{ st with hp:=put st.hp id b }
 | .bk id,.gone=>{ st with hp:=del st.hp id }
 | _,_=>st
def St.sets (st:St):List (Key×KV)→St
 | []=>st
 | (k,v)::r=>(st.set k v).sets r
def DenV (D:Dat) (ρ:Rho):V1→Value→Prop
 | .c x,v=>Den D ρ x v
 | .agg l,v=>∃ us:Array Value,v = .agg us∧us.size=l.length∧∀ (j:Nat) (x:Cell),l[j]?=some x→∃ u,us[j]?=some u∧Den D ρ x u
def V1.inS (S:Nat→Prop):V1→Prop
 | .c x=>x.inS S
 | .agg l=>∀ (j:Nat) (x:Cell),l[j]?=some x→x.inS S
def V1.cells:V1→List Cell
 | .c x=>[x]
 | .agg l=>l
def V1.ren (σ:Nat→Nat):V1→V1
 | .c x => .c (x.ren σ)
 | .agg l => .agg (l.map (Cell.ren σ))
def DenL (D:Dat) (ρ:Rho) (l:List V1) (vs:Array Value):Prop:=vs.size=l.length∧∀ (j:Nat) (x:V1),l[j]?=some x→∃ u,vs[j]?=some u∧DenV D ρ x u
def DenT (D:Dat) (ρ:Rho) (W:Nat→Prop) (tmps:Array Value):TV→Value→Prop
 | .v x,u=>DenV D ρ x u
 | .tup l,u=>∃ vs:Array Value,u = .tuple vs∧DenL D ρ l vs
 | .cnd t w x,u=>W t∧(tmps[t]?=some (.bool w)→DenV D ρ x u)∧(tmps[t]?≠some (.bool w)→u=undef)
 | .junk,_=>True
def TV.inS (S:Nat→Prop):TV→Prop
 | .v x=>x.inS S
 | .tup l=>∀ (j:Nat) (x:V1),l[j]?=some x→x.inS S
 | .cnd _ _ x=>x.inS S
 | .junk=>True
def clear (fz:Nat×Nat) (n:Nat):Prop:=∀ o,o<n→¬ (fz.1≤o∧o<fz.2)
def FlatV (D:Dat) (v:V1) (u:Value):Prop:=(∀ ρ,DenV D ρ v u)∧∀ S,v.inS S
def ObDen (D:Dat) (ρ:Rho):Ob→Obj→Prop
 | .ms m,o=>∃ es:Array MapEntry,o = .map es es.size∧es.size=m.length∧∀ (j:Nat) (k:List UInt8) (v:V1),m[j]?=some (k,v)→∃ e,es[j]?=some e∧e.key = .string ⟨k.toArray⟩∧FlatV D v e.val∧e.born=j
 | .it s pos,o=>o = .stringIter ⟨s.toArray⟩ pos
 | .mi mid n seen,o=>o = .mapIter (some (ρ mid).1) n seen.reverse.toArray n
def Ob.inS (S:Nat→Prop):Ob→Prop
 | .mi mid _ _=>S mid
 | _=>True
def Ob.ren (σ:Nat→Nat):Ob→Ob
 | .mi mid n seen => .mi (σ mid) n seen
 | .ms m => .ms m
 | .it s pos => .it s pos
theorem max1_ne {m n:Nat} (h:m=Nat.max 1 n):m≠0:=by rw [h];exact Nat.ne_of_gt (Nat.lt_of_lt_of_le Nat.zero_lt_one (Nat.le_max_left 1 n))
def BlkSat (D:Dat) (ρ:Rho) (id:Nat) (w:World):Blk→Prop
 | .box e cs=>(ρ id).2=Nat.max 1 cs.length∧∃ (vs:Array Value) (fz:Nat×Nat),w.heap[(ρ id).1]?=some (.cells vs e fz)∧vs.size=cs.length∧clear fz vs.size ∧
   ∀ (j:Nat) (x:Cell),cs[j]?=some x→∃ u,vs[j]?=some u∧Den D ρ x u
 | .row e sz n f=>((ρ id).2=0∧n=0∧0<sz)∨∃ (vs:Array Value) (fz:Nat×Nat),w.heap[(ρ id).1]?=some (.cells vs e fz)∧vs.size=(ρ id).2*sz∧clear fz vs.size∧n≤(ρ id).2∧(ρ id).2≤maxLen∧0<sz ∧
   (∀ (j:Nat) (u:Value),vs[j]?=some u→one u)∧∀ i,i<n→∀ j,j<sz→∃ u,vs[i*sz+j]?=some u∧Den D rho0 (f i j) u
 | .ob o=>(ρ id).2≠0∧∃ x,w.heap[(ρ id).1]?=some x∧ObDen D ρ o x
def Blk.inS (S:Nat→Prop):Blk→Prop
 | .box _ cs=>∀ (j:Nat) (x:Cell),cs[j]?=some x→x.inS S
 | .row _ _ _ _=>True
 | .ob o=>o.inS S
def Blk.ren (σ:Nat→Nat):Blk→Blk
 | .box e cs => .box e (cs.map (Cell.ren σ))
 | .row e sz n f => .row e sz n f
 | .ob o => .ob (o.ren σ)
def Live (ρ:Rho) (id:Nat) (_:Blk):Prop:=(ρ id).2≠0
def Agree (D:Dat) (w:World):Prop:=∀ b o v,D b o=some v→w.cell? ⟨b,o,none⟩=some v
def GlobOk (G:Nat→Option (List Cell)) (D:Dat):Prop:=∀ g cs,G g=some cs→∀ (j:Nat) (x:Cell),cs[j]?=some x→∃ u,D g j=some u∧Den D rho0 x u
structure Ctx where
 P:Program
 G:Nat→Option (List Cell)
 D0:Dat
 ρ0:Rho
 kin:Nat
 w0:World
 N:Nat
 dfr:List Deferred
def GlobW (G:Nat→Option (List Cell)) (w:World):Prop:=∀ g cs,G g=some cs→cs≠[]→∃ arr e fz,w.heap[g]?=some (.cells arr e fz)∧arr.size=cs.length
def GlobK (Γ:Ctx):Prop:=GlobW Γ.G Γ.w0∧∀ g cs,Γ.G g=some cs→cs≠[]→∀ i,i<Γ.kin→(Γ.ρ0 i).2≠0→(Γ.ρ0 i).1≠g
def NoBack (G:Nat→Option (List Cell)):Prop:=G 1000000007=some []
structure Sat (Γ:Ctx) (S W:Nat→Prop) (D:Dat) (ρ:Rho) (st:St) (a:Act) (w:World):Prop where
 defers:a.defers=Γ.dfr
 size:a.tmps.size=Γ.N
 tm:∀ t v,look st.tm t=some v→∃ u,a.tmps[t]?=some u∧DenT D ρ W a.tmps v u
 hp:∀ id b,look st.hp id=some b→BlkSat D ρ id w b
 inj:∀ i j bi bj,look st.hp i=some bi→look st.hp j=some bj→Live ρ i bi→Live ρ j bj→(ρ i).1=(ρ j).1→i=j
 agree:Agree D w
 sep:∀ id b,look st.hp id=some b→Live ρ id b→∀ o,D (ρ id).1 o=none
 le:DatLe Γ.D0 D
 glob:GlobOk Γ.G D
 gl:GlobK Γ
 own:∀ id b,look st.hp id=some b→Live ρ id b→Γ.w0.heap.size≤(ρ id).1∨∃ i,i<Γ.kin∧(Γ.ρ0 i).2≠0∧(Γ.ρ0 i).1=(ρ id).1
 kin:∀ i,i<Γ.kin→ρ i=Γ.ρ0 i
 newD:∀ b o v,D b o=some v→Γ.D0 b o=some v∨Γ.w0.heap.size≤b∨∃ i,i<Γ.kin∧(Γ.ρ0 i).2≠0∧(Γ.ρ0 i).1=b
 frame:∀ b,b<Γ.w0.heap.size→(∀ i,i<Γ.kin→(Γ.ρ0 i).2≠0→(Γ.ρ0 i).1≠b)→w.heap[b]?=Γ.w0.heap[b]?
 os:w.os=Γ.w0.os
 tape:w.tape=Γ.w0.tape
 output:w.output=Γ.w0.output
 grow:Γ.w0.heap.size≤w.heap.size
 drawn:NoBack Γ.G→Γ.w0.drawn≤w.drawn
 idT:∀ t v,look st.tm t=some v→v.inS S
 idH:∀ id b,look st.hp id=some b→S id∧b.inS S
 kinS:∀ i,i<Γ.kin→S i
def SatE (Γ:Ctx) (S W:Nat→Prop) (st:St) (a:Act) (w:World):Prop:=∃ D ρ,Sat Γ S W D ρ st a w
theorem Sat.globW {Γ:Ctx} {S W:Nat→Prop} {D:Dat} {ρ:Rho} {st:St} {a:Act} {w:World} (h:Sat Γ S W D ρ st a w):GlobW Γ.G w:=by
 intro g cs hg hne
 obtain ⟨arr,e,fz,h1,h2⟩:=h.gl.1 g cs hg hne
 refine ⟨arr,e,fz,?_,h2⟩
 rw [h.frame g ?_ (h.gl.2 g cs hg hne)]
 ·exact h1
 ·rcases Nat.lt_or_ge g Γ.w0.heap.size with hh | hh
  ·exact hh
  ·simp [Array.getElem?_eq_none hh] at h1
theorem DenV.mono {D D':Dat} (h:DatLe D D') {ρ:Rho} {x:V1} {v:Value} (hd:DenV D ρ x v):DenV D' ρ x v:=by
 cases x with
 | c x=>exact Den.mono h x ρ v hd
 | agg l=>obtain ⟨us,e,hs,hx⟩:=hd; exact ⟨us,e,hs,fun j x hj=>let ⟨u,hu,hd⟩:=hx j x hj; ⟨u,hu,Den.mono h _ _ _ hd⟩⟩
theorem DenV.agr {D:Dat} {ρ ρ':Rho} {S:Nat→Prop} (h:∀ i,S i→ρ i=ρ' i) {x:V1} {v:Value} (hs:x.inS S) (hd:DenV D ρ x v):DenV D ρ' x v:=by
 cases x with
 | c x=>exact Den.agr (Agr.of_inS h hs) hd
 | agg l=>obtain ⟨us,e,hz,hx⟩:=hd; exact ⟨us,e,hz,fun j x hj=>let ⟨u,hu,hd⟩:=hx j x hj; ⟨u,hu,Den.agr (Agr.of_inS h (hs j x hj)) hd⟩⟩
theorem DenV.ren {D:Dat} {σ:Nat→Nat} {ρ:Rho} {x:V1} {v:Value}:DenV D ρ (x.ren σ) v↔DenV D (fun i=>ρ (σ i)) x v:=by
 cases x with
 | c x=>exact Den.ren
 | agg l =>
  simp only [V1.ren,DenV,List.length_map,List.getElem?_map,Option.map_eq_some_iff]
  constructor
  ·rintro ⟨us,e,hs,h⟩
   exact ⟨us,e,hs,fun j x hj=>let ⟨u,hu,hd⟩:=h j _ ⟨x,hj,rfl⟩;⟨u,hu,Den.ren.1 hd⟩⟩
  ·rintro ⟨us,e,hs,h⟩
   refine ⟨us,e,hs,?_⟩
   rintro j x ⟨y,hy,rfl⟩
   obtain ⟨u,hu,hd⟩:=h j y hy
   exact ⟨u,hu,Den.ren.2 hd⟩
theorem V1.inS_mono {S T:Nat→Prop} (h:∀ i,S i→T i) {x:V1} (hx:x.inS S):x.inS T:=by
 cases x with
 | c x=>exact Cell.inS_mono h hx
 | agg l=>exact fun j x hj=>Cell.inS_mono h (hx j x hj)
theorem V1.inS_ren {S:Nat→Prop} {σ:Nat→Nat} {x:V1}:(x.ren σ).inS S↔x.inS (fun i=>S (σ i)):=by
 cases x with
 | c x=>exact Cell.inS_ren
 | agg l =>
  simp only [V1.ren,V1.inS,List.getElem?_map,Option.map_eq_some_iff]
  constructor
  ·exact fun h j x hj=>Cell.inS_ren.1 (h j _ ⟨x,hj,rfl⟩)
  ·rintro h j x ⟨y,hy,rfl⟩;exact Cell.inS_ren.2 (h j y hy)
theorem DenL.mono {D D':Dat} (h:DatLe D D') {ρ:Rho} {l:List V1} {vs:Array Value} (hd:DenL D ρ l vs):DenL D' ρ l vs :=
 ⟨hd.1,fun j x hj=>let ⟨u,hu,hx⟩:=hd.2 j x hj;⟨u,hu,hx.mono h⟩⟩
theorem DenL.agr {D:Dat} {ρ ρ':Rho} {S:Nat→Prop} (h:∀ i,S i→ρ i=ρ' i) {l:List V1} {vs:Array Value} (hs:∀ (j:Nat) (x:V1),l[j]?=some x→x.inS S) (hd:DenL D ρ l vs):DenL D ρ' l vs :=
 ⟨hd.1,fun j x hj=>let ⟨u,hu,hx⟩:=hd.2 j x hj;⟨u,hu,hx.agr h (hs j x hj)⟩⟩
theorem DenT.mono {D D':Dat} (h:DatLe D D') {ρ:Rho} {W:Nat→Prop} {tm:Array Value} {x:TV} {v:Value} (hd:DenT D ρ W tm x v):DenT D' ρ W tm x v:=by
 cases x with
 | v x=>exact DenV.mono h hd
 | tup l=>obtain ⟨vs,e,hl⟩:=hd; exact ⟨vs,e,hl.mono h⟩
 | cnd t w x=>exact ⟨hd.1,fun ht=>(hd.2.1 ht).mono h,hd.2.2⟩
 | junk=>trivial
theorem DenT.agr {D:Dat} {ρ ρ':Rho} {S:Nat→Prop} (h:∀ i,S i→ρ i=ρ' i) {W:Nat→Prop} {tm:Array Value} {x:TV} {v:Value} (hs:x.inS S) (hd:DenT D ρ W tm x v):DenT D ρ' W tm x v:=by
 cases x with
 | v x=>exact DenV.agr h hs hd
 | tup l=>obtain ⟨vs,e,hl⟩:=hd; exact ⟨vs,e,hl.agr h hs⟩
 | cnd t w x=>exact ⟨hd.1,fun ht=>(hd.2.1 ht).agr h hs,hd.2.2⟩
 | junk=>trivial
theorem TV.inS_mono {S T:Nat→Prop} (h:∀ i,S i→T i) {x:TV} (hx:x.inS S):x.inS T:=by
 cases x with
 | v x=>exact V1.inS_mono h hx
 | tup l=>exact fun j x hj=>V1.inS_mono h (hx j x hj)
 | cnd t w x=>exact V1.inS_mono h hx
 | junk=>trivial
theorem Blk.inS_mono {S T:Nat→Prop} (h:∀ i,S i→T i) {b:Blk} (hx:b.inS S):b.inS T:=by
 cases b with
 | box e cs=>exact fun j x hj=>Cell.inS_mono h (hx j x hj)
 | row e sz n f=>trivial
 | ob o=>cases o with
  | mi mid n seen=>exact h _ hx
  | ms m=>trivial
  | it s p=>trivial
theorem ObDen.mono {D D':Dat} (h:DatLe D D') {ρ:Rho} {o:Ob} {x:Obj} (hd:ObDen D ρ o x):ObDen D' ρ o x:=by
 cases o with
 | ms m=>obtain ⟨es,e,hs,hx⟩:=hd; exact ⟨es,e,hs,fun j k v hj=>let ⟨y,h1,h2,h3,h4⟩:=hx j k v hj; ⟨y,h1,h2,⟨fun ρ=>(h3.1 ρ).mono h,h3.2⟩,h4⟩⟩
 | it s p=>exact hd
 | mi mid n seen=>exact hd
theorem ObDen.agr {D:Dat} {ρ ρ':Rho} {S:Nat→Prop} (h:∀ i,S i→ρ i=ρ' i) {o:Ob} (hs:o.inS S) {x:Obj} (hd:ObDen D ρ o x):ObDen D ρ' o x:=by
 cases o with
 | ms m=>exact hd
 | it s p=>exact hd
 | mi mid n seen =>
  have hd:x = .mapIter (some (ρ mid).1) n seen.reverse.toArray n:=hd
  show x = .mapIter (some (ρ' mid).1) n seen.reverse.toArray n
  rw [← h mid hs]
  exact hd
theorem ObDen.ren {D:Dat} {σ:Nat→Nat} {ρ:Rho} {o:Ob} {x:Obj}:ObDen D ρ (o.ren σ) x↔ObDen D (fun i=>ρ (σ i)) o x:=by
 cases o<;>exact Iff.rfl
theorem Ob.inS_ren {S:Nat→Prop} {σ:Nat→Nat} {o:Ob}:(o.ren σ).inS S↔o.inS (fun i=>S (σ i)):=by
 cases o<;>exact Iff.rfl
theorem BlkSat.mono {D D':Dat} (h:DatLe D D') {ρ:Rho} {id:Nat} {w:World} {b:Blk} (hb:BlkSat D ρ id w b):BlkSat D' ρ id w b:=by
 cases b with
 | box e cs =>
  obtain ⟨h0,vs,fz,h1,h2,h3,h4⟩:=hb
  exact ⟨h0,vs,fz,h1,h2,h3,fun j x hj=>let ⟨u,hu,hd⟩:=h4 j x hj;⟨u,hu,Den.mono h _ _ _ hd⟩⟩
 | row e sz n f =>
  rcases hb with hb | ⟨vs,fz,h1,h2,h3,h4,h5,h6,h7,h8⟩
  ·exact .inl hb
  ·exact .inr ⟨vs,fz,h1,h2,h3,h4,h5,h6,h7,fun i hi j hj=>let ⟨u,hu,hd⟩:=h8 i hi j hj;⟨u,hu,Den.mono h _ _ _ hd⟩⟩
 | ob o=>obtain ⟨h0,x,h1,h2⟩:=hb; exact ⟨h0,x,h1,h2.mono h⟩
theorem BlkSat.agr {D:Dat} {ρ ρ':Rho} {S:Nat→Prop} (h:∀ i,S i→ρ i=ρ' i) {id:Nat} (hi:S id) {w:World} {b:Blk} (hs:b.inS S) (hb:BlkSat D ρ id w b):BlkSat D ρ' id w b:=by
 cases b with
 | box e cs =>
  obtain ⟨h0,vs,fz,h1,h2,h3,h4⟩:=hb
  exact ⟨by rw [← h id hi];exact h0,vs,fz,by rw [← h id hi];exact h1,h2,h3,fun j x hj=>let ⟨u,hu,hd⟩:=h4 j x hj;⟨u,hu,Den.agr (Agr.of_inS h (hs j x hj)) hd⟩⟩
 | row e sz n f =>
  rcases hb with hb | ⟨vs,fz,h1,h2,h3,h4,h5,h6,h7,h8⟩
  ·exact .inl (by rw [← h id hi];exact hb)
  refine .inr ⟨vs,fz,by rw [← h id hi];exact h1,by rw [← h id hi];exact h2,h3,by rw [← h id hi];exact h4,by rw [← h id hi];exact h5,h6,h7,fun i hi' j hj=>let ⟨u,hu,hd⟩:=h8 i hi' j hj;⟨u,hu,hd⟩⟩
 | ob o=>obtain ⟨h0,x,h1,h2⟩:=hb; exact ⟨by rw [← h id hi]; exact h0,x,by rw [← h id hi]; exact h1,h2.agr h hs⟩
theorem BlkSat.world {D:Dat} {ρ:Rho} {id:Nat} {w w':World} (h:w'.heap[(ρ id).1]?=w.heap[(ρ id).1]?) {b:Blk} (hb:BlkSat D ρ id w b):BlkSat D ρ id w' b:=by
 cases b with
 | box e cs=>obtain ⟨h0,vs,fz,h1,h2⟩:=hb; exact ⟨h0,vs,fz,h.trans h1,h2⟩
 | row e sz n f =>
  rcases hb with hb | ⟨vs,fz,h1,h2⟩
  ·exact .inl hb
  ·exact .inr ⟨vs,fz,h.trans h1,h2⟩
 | ob o=>obtain ⟨h0,x,h1,h2⟩:=hb; exact ⟨h0,x,h.trans h1,h2⟩
theorem BlkSat.ren {D:Dat} {σ:Nat→Nat} {ρ:Rho} {id:Nat} {w:World} {b:Blk}:BlkSat D ρ (σ id) w (b.ren σ)↔BlkSat D (fun i=>ρ (σ i)) id w b:=by
 cases b with
 | box e cs =>
  simp only [Blk.ren,BlkSat,List.length_map,List.getElem?_map,Option.map_eq_some_iff]
  constructor
  ·rintro ⟨h0,vs,fz,h1,h2,h3,h4⟩
   exact ⟨h0,vs,fz,h1,h2,h3,fun j x hj=>let ⟨u,hu,hd⟩:=h4 j _ ⟨x,hj,rfl⟩;⟨u,hu,Den.ren.1 hd⟩⟩
  ·rintro ⟨h0,vs,fz,h1,h2,h3,h4⟩
   refine ⟨h0,vs,fz,h1,h2,h3,?_⟩
   rintro j x ⟨y,hy,rfl⟩
   obtain ⟨u,hu,hd⟩:=h4 j y hy
   exact ⟨u,hu,Den.ren.2 hd⟩
 | row e sz n f =>
  exact Iff.rfl
 | ob o =>
  constructor
  ·rintro ⟨h0,x,h1,h2⟩;exact ⟨h0,x,h1,ObDen.ren.1 h2⟩
  ·rintro ⟨h0,x,h1,h2⟩;exact ⟨h0,x,h1,ObDen.ren.2 h2⟩
theorem Live.agr {S:Nat→Prop} {ρ ρ':Rho} (h:∀ i,S i→ρ i=ρ' i) {id:Nat} (hi:S id) {b:Blk}:Live ρ id b↔Live ρ' id b:=by
 simp only [Live];rw [h id hi]
theorem Blk.inS_ren {S:Nat→Prop} {σ:Nat→Nat} {b:Blk}:(b.ren σ).inS S↔b.inS (fun i=>S (σ i)):=by
 cases b with
 | box e cs =>
  simp only [Blk.ren,Blk.inS,List.getElem?_map,Option.map_eq_some_iff]
  constructor
  ·exact fun h j x hj=>Cell.inS_ren.1 (h j _ ⟨x,hj,rfl⟩)
  ·rintro h j x ⟨y,hy,rfl⟩;exact Cell.inS_ren.2 (h j y hy)
 | row e sz n f=>exact Iff.rfl
 | ob o=>exact Ob.inS_ren
end Go.Sv
end
section
namespace Go.Sv
def M (α:Type):Type:=(Key→Option KV)→Option (α×List Key)
namespace M
def ret {α:Type} (a:α):M α:=fun _=>some (a,[])
def fail {α:Type}:M α:=fun _=>none
def bind {α β:Type} (m:M α) (f:α→M β):M β:=fun L=>match m L with
 | none=>none
 | some (a,r)=>match f a L with
  | none=>none
  | some (b,r')=>some (b,r++r')
def rd (k:Key):M KV:=fun L=>match L k with
 | none=>none
 | some v=>some (v,[k])
def opt {α:Type}:Option α→M α
 | some a=>ret a
 | none=>fail
def guard (b:Bool):M Unit:=match b with
 | true=>ret ()
 | false=>fail
def Ev {α:Type} (m:M α) (L:Key→Option KV) (a:α):Prop:=∃ r,m L=some (a,r)
theorem ev_ret {α:Type} {a b:α} {L:Key→Option KV}:(ret a).Ev L b↔a=b:=by simp [Ev,ret]
theorem ev_fail {α:Type} {b:α} {L:Key→Option KV}:(fail:M α).Ev L b↔False:=by simp [Ev,fail]
theorem ev_bind {α β:Type} {m:M α} {f:α→M β} {L:Key→Option KV} {b:β}:(bind m f).Ev L b↔∃ a,m.Ev L a∧(f a).Ev L b:=by
 constructor
 ·rintro ⟨r,h⟩
  simp only [bind] at h
  cases hm:m L with
  | none=>simp [hm] at h
  | some p =>
   obtain ⟨a,r1⟩:=p
   simp only [hm] at h
   cases hf:f a L with
   | none=>simp [hf] at h
   | some q =>
    obtain ⟨b',r2⟩:=q
    simp only [hf,Option.some.injEq,Prod.mk.injEq] at h
    exact ⟨a,⟨r1,hm⟩,⟨r2,by rw [hf,h.1]⟩⟩
 ·rintro ⟨a,⟨r1,h1⟩,⟨r2,h2⟩⟩
  exact ⟨r1++r2,by simp [bind,h1,h2]⟩
theorem ev_rd {k:Key} {L:Key→Option KV} {v:KV}:(rd k).Ev L v↔L k=some v:=by
 simp only [Ev,rd]
 cases h:L k<;>simp
theorem ev_opt {α:Type} {o:Option α} {L:Key→Option KV} {a:α}:(opt o).Ev L a↔o=some a:=by
 cases o<;>simp [opt,ev_ret,ev_fail]
theorem ev_guard {b:Bool} {L:Key→Option KV} {u:Unit}:(guard b).Ev L u↔b=true:=by
 cases b<;>simp [guard,ev_ret,ev_fail]
end M
open M
structure Eff where
 wr:List (Key×KV)
 vc:List Prop
def EqvI (v v':V1):Prop:=∀ S,v.inS S→v'.inS S
def EqvD (v v':V1):Prop:=∀ D ρ u,DenV D ρ v u→DenV D ρ v' u
def BlkEqv (b b':Blk):Prop:=(∀ D ρ id w,BlkSat D ρ id w b→BlkSat D ρ id w b')∧(∀ S,b.inS S→b'.inS S)
theorem BlkEqv.refl (b:Blk):BlkEqv b b:=⟨fun _ _ _ _ h=>h,fun _ h=>h⟩
def bAnd:Bool→Bool→Bool
 | true,b=>b
 | false,_=>false
def bEq:Bool→Bool→Bool
 | true,b=>b
 | false,true=>false
 | false,false=>true
theorem bEq_eq {a b:Bool} (h:bEq a b=true):a=b:=by cases a<;>cases b<;>simp_all [bEq]
def kEq:IntKind→IntKind→Bool
 | .i8,.i8 | .i16,.i16 | .i32,.i32 | .i64,.i64 | .u8,.u8 | .u16,.u16 | .u32,.u32 | .u64,.u64=>true
 | _,_=>false
theorem kEq_eq {a b:IntKind} (h:kEq a b=true):a=b:=by cases a<;>cases b<;>simp_all [kEq]
def cstC:Value→Option Cell
 | .int k n=>some (.int k n)
 | .bool b=>some (.bool b)
 | .string s=>some (.str s.data.toList)
 | .pointer none=>some .nilptr
 | .slice none 0 0=>some .nilsl
 | .map none=>some .nilmap
 | .nilFunc=>some .nilfn
 | .nilIface=>some .nilif
 | _=>none
def cstL:List Value→Option (List Cell)
 | []=>some []
 | v::r=>match cstC v with
  | none=>none
  | some c=>match cstL r with
   | none=>none
   | some l=>some (c::l)
def cstV:Value→Option V1
 | .agg cs=>match cstL cs.toList with
  | some l=>some (.agg l)
  | none=>none
 | v=>match cstC v with
  | some c=>some (.c c)
  | none=>none
def tSize (P:Program) (t:TypeId):Option Nat:=match P.info? t with
 | some i=>some i.size
 | none=>none
def isAggD:TypeDesc→Bool
 | .struct _=>true
 | .array _ _=>true
 | _=>false
def tAgg (P:Program) (t:TypeId):Option Bool:=match P.underlying t with
 | some d=>some (isAggD d)
 | none=>none
def tField (P:Program) (t f:Nat):Option Field:=match P.underlying t with
 | some (.struct fs)=>nth fs.toList f
 | _=>none
def tElem (P:Program) (t:TypeId):Option TypeId:=match P.underlying t with
 | some (.slice e)=>some e
 | _=>none
def tZero (P:Program) (t:TypeId):Option (List Cell):=match P.info? t with
 | some i=>match i.zero with
  | some z=>cstL z.cells.toList
  | none=>none
 | none=>none
structure Env where
 P:Program
 G:Nat→Option (List Cell)
 N:Nat
 all:List Oper
 grd:List (Nat×Bool)
 as:List (Nat×V1)
 bs:List (Nat×Blk)
 wrp:List (Nat×Unit)
structure Gd where
 t:Nat
 w:Bool
 ch:List (Nat×Bool)
 p:Prop
abbrev OG:=Option Gd
def under (g:OG) (p:Prop):Prop:=match g with
 | none=>p
 | some g=>g.p→p
def inCh (t:Nat) (w:Bool):List (Nat×Bool)→Bool
 | []=>false
 | (t',w')::r=>match bAnd (Nat.beq t t') (bEq w w') with
  | true=>true
  | false=>inCh t w r
def opdM (E:Env) (g:OG):Operand→M V1
 | .tmp t=>bind (rd (.tm t)) fun
  | .tv (.v v)=>ret v
  | .tv (.cnd t' w v)=>match g with
   | some g=>bind (guard (inCh t' w g.ch)) fun _=>ret v
   | none=>fail
  | _=>fail
 | .const v=>opt (cstV v)
 | .global n=>match E.G n with
  | some cs=>ret (.c (.dp (len cs) (fun j=>match nth cs j with | some x=>x | none => .nilif)))
  | none=>fail
 | .func f=>bind (guard (Nat.blt f 1000000000)) fun _=>ret (.c (.clo f 0 (fun _=>none) (fun _ _ => .nilif)))
def gdM:Nat→Nat→Bool→M Gd
 | 0,_,_=>fail
 | n+1,t,w=>bind (rd (.tm t)) fun
  | .tv (.v (.c (.bool b)))=>ret ⟨t,w,[(t,w)],b=w⟩
  | .tv (.cnd t' w' (.c (.bool b)))=>bind (gdM n t' w') fun g=>ret ⟨t,w,(t,w)::g.ch,b=w∧g.p⟩
  | _=>fail
def wrTV (g:OG) (v:V1):TV:=match g with
 | none => .v v
 | some g => .cnd g.t g.w v
def finM (E:Env) (i:Nat) (g:OG) (d:Nat) (vc:List Prop) (v:V1):M Eff :=
 match look E.as i with
 | none=>ret ⟨[(.tm d,.tv (wrTV g v))],vc⟩
 | some v'=>ret ⟨[(.tm d,.tv (wrTV g v'))],EqvI v v'::under g (EqvD v v')::vc⟩
def pure1 (g:OG):M Unit:=match g with
 | none=>ret ()
 | some _=>fail
def cellM:V1→M Cell
 | .c x=>ret x
 | .agg _=>fail
def intM:V1→M (IntKind×Int)
 | .c (.int k n)=>ret (k,n)
 | _=>fail
def boolM:V1→M Bool
 | .c (.bool b)=>ret b
 | _=>fail
def cellsM (id:Nat):Nat→Nat→M (List Cell)
 | _,0=>ret []
 | off,n+1=>bind (rd (.cl id off)) fun
  | .cl x=>bind (cellsM id (off+1) n) fun l=>ret (x::l)
  | _=>fail
def cellsW (id off n:Nat):M (List Cell):=match Nat.ble 9 n with
 | false=>cellsM id off n
 | true=>bind (rd (.bk id)) fun
  | .bk (.box _ cs)=>match bAnd (Nat.beq off 0) (Nat.beq (len cs) n) with
   | true=>ret cs
   | false=>cellsM id off n
  | _=>fail
def mkV (agg:Bool) (l:List Cell):M V1:=match agg with
 | true=>ret (.agg l)
 | false=>match l with
  | [x]=>ret (.c x)
  | _=>fail
def upL {α:Type} (g:Nat→α):Nat→Nat→List α
 | _,0=>[]
 | k,n+1=>g k::upL g (k+1) n
def flats:List Cell→Bool
 | []=>true
 | x::r=>bAnd x.flat (flats r)
def boxB (id:Nat):M Bool:=bind (rd (.bk id)) fun
 | .bk (.box _ _)=>ret true
 | _=>ret false
def rowM (id:Nat):M (TypeId×Nat×Nat×(Nat→Nat→Cell)):=bind (rd (.bk id)) fun
 | .bk (.row e sz n f)=>ret (e,sz,n,f)
 | _=>fail
def flatM (E:Env) (i:Nat) (g:OG) (d:Nat) (vc:List Prop) (v:V1):M Eff :=
 match look E.as i with
 | none=>bind (guard (flats v.cells)) fun _=>ret ⟨[(.tm d,.tv (wrTV g v))],vc⟩
 | some v'=>bind (guard (flats v'.cells)) fun _=>ret ⟨[(.tm d,.tv (wrTV g v'))],vc++[under g (EqvD v v')]⟩
def loadM (E:Env) (i:Nat) (g:OG) (d:Nat) (t:TypeId) (x:Operand):M Eff :=
 bind (opdM E g x) fun v=>bind (cellM v) fun a=>bind (opt (tSize E.P t)) fun sz=>bind (opt (tAgg E.P t)) fun ag =>
 match a with
 | .ptr id off=>bind (cellsW id off sz) fun l=>bind (mkV ag l) fun v=>finM E i g d [] v
 | .dp m h=>bind (guard (Nat.ble sz m)) fun _=>bind (mkV ag (upL h 0 sz)) fun v=>flatM E i g d [] v
 | .rp s id e o=>bind (boxB id) fun b=>match b with
  | true=>bind (cellsW id (e*s+o) sz) fun l=>bind (mkV ag l) fun v=>finM E i g d [] v
  | false=>bind (rowM id) fun r=>bind (guard (bAnd (Nat.beq s r.2.1) (Nat.ble (o+sz) r.2.1))) fun _ =>
   bind (mkV ag (upL (fun j=>r.2.2.2 e j) o sz)) fun v=>flatM E i g d [under g (e<r.2.2.1)] v
 | _=>fail
def setL (id:Nat):Nat→List Cell→List (Key×KV)
 | _,[]=>[]
 | off,x::r=>(.cl id off,.cl x)::setL id (off+1) r
def haveM (id:Nat):Nat→Nat→M Unit
 | _,0=>ret ()
 | off,n+1=>bind (rd (.cl id off)) fun _=>haveM id (off+1) n
def nthD (l:List Cell) (j:Nat):Cell:=match nth l j with
 | some x=>x
 | none => .nilif
def rowSet (f:Nat→Nat→Cell) (e o sz:Nat) (l:List Cell):Nat→Nat→Cell :=
 fun i j=>if i=e∧o≤j∧j<o+sz then nthD l (j-o) else f i j
def blkM (E:Env) (i:Nat) (id:Nat) (vc:List Prop) (b:Blk):M Eff :=
 match look E.bs i with
 | none=>ret ⟨[(.bk id,.bk b)],vc⟩
 | some b'=>ret ⟨[(.bk id,.bk b')],BlkEqv b b'::vc⟩
def ptrStM (id off sz:Nat) (l:List Cell):M Eff:=match Nat.ble 9 sz with
 | false=>bind (haveM id off sz) fun _=>ret ⟨setL id off l,[]⟩
 | true=>bind (rd (.bk id)) fun
  | .bk (.box e cs)=>match bAnd (Nat.beq off 0) (Nat.beq (len cs) sz) with
   | true=>ret ⟨[(.bk id,.bk (.box e l))],[]⟩
   | false=>bind (haveM id off sz) fun _=>ret ⟨setL id off l,[]⟩
  | _=>fail
def storeM (E:Env) (i:Nat) (g:OG) (t:TypeId) (x y:Operand):M Eff :=
 bind (pure1 g) fun _=>bind (opdM E g x) fun v=>bind (cellM v) fun a=>bind (opdM E g y) fun y=>bind (opt (tSize E.P t)) fun sz =>
 bind (guard (Nat.beq (len y.cells) sz)) fun _ =>
 match a with
 | .ptr id off=>ptrStM id off sz y.cells
 | .rp s id e o=>bind (rowM id) fun r=>bind (guard (bAnd (flats y.cells) (bAnd (Nat.beq s r.2.1) (Nat.ble (o+sz) r.2.1)))) fun _ =>
   blkM E i id [e<r.2.2.1] (.row r.1 r.2.1 r.2.2.1 (rowSet r.2.2.2 e o sz y.cells))
 | _=>fail
def faddrM (E:Env) (i:Nat) (g:OG) (d:Nat) (t:TypeId) (x:Operand) (f:Nat):M Eff :=
 bind (opdM E g x) fun v=>bind (cellM v) fun a=>bind (opt (tField E.P t f)) fun fd=>bind (opt (tSize E.P fd.type)) fun sz =>
 bind (guard (Nat.blt 0 sz)) fun _ =>
 match a with
 | .ptr id off=>finM E i g d [] (.c (.ptr id (off+fd.offset)))
 | .dp m h=>bind (guard (Nat.ble fd.offset m)) fun _=>finM E i g d [] (.c (.dp (m-fd.offset) (fun j=>h (fd.offset+j))))
 | .rp s id e o=>finM E i g d [] (.c (.rp s id e (o+fd.offset)))
 | _=>fail
def iaddrM (E:Env) (i:Nat) (g:OG) (d:Nat) (t:TypeId) (x y:Operand):M Eff :=
 bind (opdM E g x) fun v=>bind (cellM v) fun a=>bind (opdM E g y) fun w=>bind (intM w) fun n =>
 match E.P.underlying t with
 | some (.slice el)=>bind (opt (tSize E.P el)) fun sz=>match a with
  | .sl s m f=>bind (guard (Nat.beq s sz)) fun _=>finM E i g d [under g (0≤n.2∧n.2<(m:Int))] (.c (.dp s (fun j=>f n.2.toNat j)))
  | .row s id off m=>bind (guard (Nat.beq s sz)) fun _=>finM E i g d [under g (0≤n.2∧n.2<(m:Int))] (.c (.rp s id (off+n.2.toNat) 0))
  | _=>fail
 | some (.array m el)=>bind (opt (tSize E.P el)) fun sz=>match a with
  | .ptr id off=>finM E i g d [under g (0≤n.2∧n.2<(m:Int))] (.c (.ptr id (off+n.2.toNat*sz)))
  | .dp k h=>bind (guard (Nat.ble (m*sz) k)) fun _=>finM E i g d [under g (0≤n.2∧n.2<(m:Int))] (.c (.dp sz (fun j=>h (n.2.toNat*sz+j))))
  | _=>fail
 | _=>fail
def indexM (E:Env) (i:Nat) (g:OG) (d:Nat) (t:TypeId) (x y:Operand):M Eff :=
 bind (opdM E g x) fun a=>bind (opdM E g y) fun w=>bind (intM w) fun n =>
 match E.P.underlying t with
 | some .string=>match a with
  | .c (.str s)=>finM E i g d [under g (0≤n.2∧n.2<(s.length:Int))] (.c (.int .u8 ((s.getD n.2.toNat 0).toNat:Int)))
  | _=>fail
 | some (.array m el)=>match a with
  | .agg l=>bind (opt (tSize E.P el)) fun sz=>bind (opt (tAgg E.P el)) fun ag=>bind (guard (bAnd (Nat.ble (m*sz) (len l)) (Nat.blt 0 sz))) fun _ =>
    bind (mkV ag (upL (nthD l) (n.2.toNat*sz) sz)) fun v=>finM E i g d [under g (0≤n.2∧n.2<(m:Int))] v
  | _=>fail
 | _=>fail
def fieldM (E:Env) (i:Nat) (g:OG) (d:Nat) (t:TypeId) (x:Operand) (f:Nat):M Eff :=
 bind (opdM E g x) fun a=>bind (opt (tField E.P t f)) fun fd=>bind (opt (tSize E.P fd.type)) fun sz=>bind (opt (tAgg E.P fd.type)) fun ag =>
 match a with
 | .agg l=>bind (guard (bAnd (Nat.ble (fd.offset+sz) (len l)) (Nat.blt 0 sz))) fun _=>bind (mkV ag (upL (nthD l) fd.offset sz)) fun v=>finM E i g d [] v
 | _=>fail
def inR (k:IntKind) (n:Int):Prop:=k.min≤n∧n≤k.max
def bitsI (op:BinOp) (k:IntKind) (x y:Int):Int :=
 let a:=BitVec.ofInt k.bits x
 let b:=BitVec.ofInt k.bits y
 match op with
 | .and=>k.wrap (a &&& b).toNat
 | .or=>k.wrap (a ||| b).toNat
 | .xor=>k.wrap (a ^^^ b).toNat
 | _=>k.wrap (a &&& ~~~b).toNat
def arithM (E:Env) (i:Nat) (g:OG) (d:Nat) (k:IntKind) (r:Int):M Eff :=
 match k,look E.wrp i with
 | .i64,none=>finM E i g d [under g (inR .i64 r)] (.c (.int .i64 r))
 | k,_=>finM E i g d [] (.c (.int k (k.wrap r)))
def binI (E:Env) (i:Nat) (g:OG) (d:Nat) (op:BinOp) (k:IntKind) (a b:Int):M Eff :=
 match op with
 | .add=>arithM E i g d k (a+b)
 | .sub=>arithM E i g d k (a-b)
 | .mul=>arithM E i g d k (a*b)
 | .quo=>finM E i g d [under g (b≠0)] (.c (.int k (k.wrap (a.tdiv b))))
 | .rem=>finM E i g d [under g (b≠0)] (.c (.int k (a.tmod b)))
 | .and=>finM E i g d [] (.c (.int k (bitsI .and k a b)))
 | .or=>finM E i g d [] (.c (.int k (bitsI .or k a b)))
 | .xor=>finM E i g d [] (.c (.int k (bitsI .xor k a b)))
 | .andNot=>finM E i g d [] (.c (.int k (bitsI .andNot k a b)))
 | .eql=>finM E i g d [] (.c (.bool (a==b)))
 | .neq=>finM E i g d [] (.c (.bool (a != b)))
 | .lss=>finM E i g d [] (.c (.bool (decide (a<b))))
 | .leq=>finM E i g d [] (.c (.bool (decide (a≤b))))
 | .gtr=>finM E i g d [] (.c (.bool (decide (a>b))))
 | .geq=>finM E i g d [] (.c (.bool (decide (a≥b))))
 | _=>fail
def binS (E:Env) (i:Nat) (g:OG) (d:Nat) (op:BinOp) (a b:List UInt8):M Eff :=
 match op with
 | .add=>finM E i g d [under g (a.length+b.length≤9223372036854775807)] (.c (.str (a++b)))
 | .eql=>finM E i g d [] (.c (.bool (a==b)))
 | .neq=>finM E i g d [] (.c (.bool (!(a==b))))
 | .lss=>finM E i g d [] (.c (.bool (Op.bytesLess a b)))
 | .leq=>finM E i g d [] (.c (.bool (Op.bytesLess a b||a==b)))
 | .gtr=>finM E i g d [] (.c (.bool (!(Op.bytesLess a b||a==b))))
 | .geq=>finM E i g d [] (.c (.bool (!(Op.bytesLess a b))))
 | _=>fail
def isBoolD:TypeDesc→Bool
 | .bool=>true
 | _=>false
def isConst:Operand→Bool
 | .const _=>true
 | _=>false
def tIs (P:Program) (q:TypeDesc→Bool) (t:TypeId):Bool:=match P.underlying t with
 | some d=>q d
 | none=>false
def mkVo (agg:Bool) (l:List Cell):Option V1:=match agg with
 | true=>some (.agg l)
 | false=>match l with
  | [x]=>some (.c x)
  | _=>none
def partV (P:Program) (t:TypeId) (l:List Cell) (off:Nat):Option V1:=match tSize P t,tAgg P t with
 | some sz,some ag=>match bAnd (Nat.ble (off+sz) (len l)) (Nat.blt 0 sz) with
  | true=>mkVo ag (upL (nthD l) off sz)
  | false=>none
 | _,_=>none
def eqFs (P:Program) (rec:TypeId→V1→V1→Option Bool) (l r:List Cell):List Field→Option Bool
 | []=>some true
 | f::fs=>match f.name != "_" with
  | true=>match partV P f.type l f.offset,partV P f.type r f.offset with
   | some a,some b=>match rec f.type a b,eqFs P rec l r fs with
    | some x,some y=>some (x&&y)
    | _,_=>none
   | _,_=>none
  | false=>none
def eqIs (P:Program) (rec:V1→V1→Option Bool) (e sz:Nat) (l r:List Cell):List Nat→Option Bool
 | []=>some true
 | i::is=>match partV P e l (i*sz),partV P e r (i*sz) with
  | some a,some b=>match rec a b,eqIs P rec e sz l r is with
   | some x,some y=>some (x&&y)
   | _,_=>none
  | _,_=>none
def eqV (P:Program):Nat→TypeId→V1→V1→Option Bool
 | 0,_,_,_=>none
 | n+1,t,a,b=>match P.underlying t with
  | some .bool=>match a,b with
   | .c (.bool p),.c (.bool q)=>some (p==q)
   | _,_=>none
  | some (.int _)=>match a,b with
   | .c (.int k p),.c (.int k' q)=>match kEq k k' with
    | true=>some (p==q)
    | false=>none
   | _,_=>none
  | some .string=>match a,b with
   | .c (.str p),.c (.str q)=>some (p==q)
   | _,_=>none
  | some (.struct fs)=>match a,b with
   | .agg l,.agg r=>match P.stoodInHeld t with
    | true=>none
    | false=>eqFs P (eqV P n) l r fs.toList
   | _,_=>none
  | some (.array m e)=>match a,b with
   | .agg l,.agg r=>match tSize P e with
    | some sz=>eqIs P (eqV P n e) e sz l r (List.range m)
    | none=>none
   | _,_=>none
  | _=>none
def isNN:Cell→Bool
 | .ptr _ _ | .dp _ _ | .rp _ _ _ _=>true
 | _=>false
def eqC (P:Program) (t:TypeId) (a b:Cell):Option Bool:=match P.underlying t with
 | some (.pointer el)=>match a,b with
  | .ptr id o,.ptr id' o'=>match tSize P el with
   | some sz=>match bAnd (Nat.beq id id') (Nat.blt 0 sz) with
    | true=>some (Nat.beq o o')
    | false=>none
   | none=>none
  | .nilptr,.nilptr=>some true
  | .nilptr,b=>match isNN b with
   | true=>some false
   | false=>none
  | a,.nilptr=>match isNN a with
   | true=>some false
   | false=>none
  | _,_=>none
 | some (.interface _)=>match a,b with
  | .nilif,.nilif=>some true
  | .nilif,.ifc _ _ _=>some false
  | .ifc _ _ _,.nilif=>some false
  | .ifc tx sh c,.ifc ty sh' c'=>match Nat.beq tx ty with
   | false=>some false
   | true=>match P.info? tx,sh,sh' with
    | some inf,none,none=>match inf.comparable with
     | true=>eqV P 4 tx (.c (c 0)) (.c (c' 0))
     | false=>none
    | _,_,_=>none
  | _,_=>none
 | some (.slice _)=>match a,b with
  | .nilsl,.nilsl=>some true
  | .emp,.nilsl=>some false
  | .sl _ (_+1) _,.nilsl=>some false
  | _,_=>none
 | some (.map _ _)=>match a,b with
  | .nilmap,.nilmap=>some true
  | .nilmap,.map _=>some false
  | .map _,.nilmap=>some false
  | _,_=>none
 | some (.func _ _ _)=>match a,b with
  | .nilfn,.nilfn=>some true
  | .nilfn,.clo _ _ _ _=>some false
  | .clo _ _ _ _,.nilfn=>some false
  | _,_=>none
 | _=>none
def nilOk (a b:Cell) (x y:Operand):Bool:=match a,b with
 | .nilif,.nilif=>match isConst x with
  | true=>true
  | false=>isConst y
 | _,_=>true
def binM (E:Env) (i:Nat) (g:OG) (d:Nat) (op:BinOp) (t:TypeId) (x y:Operand):M Eff :=
 bind (opdM E g x) fun a=>bind (opdM E g y) fun b =>
 match a,b with
 | .c (.int k a),.c (.int k' b)=>match op with
  | .shl=>finM E i g d [under g (0≤b)] (.c (.int k (k.wrap (a*2^(min b.toNat k.bits)))))
  | .shr=>finM E i g d [under g (0≤b)] (.c (.int k (a.fdiv (2^(min b.toNat k.bits)))))
  | op=>bind (guard (kEq k k')) fun _=>binI E i g d op k a b
 | .c (.str a),.c (.str b)=>binS E i g d op a b
 | .c (.bool a),.c (.bool b)=>bind (guard (tIs E.P isBoolD t)) fun _=>match op with
  | .eql=>finM E i g d [] (.c (.bool (a==b)))
  | .neq=>finM E i g d [] (.c (.bool (!(a==b))))
  | _=>fail
 | .agg l,.agg r=>bind (guard (match Go.Program.eqGuardType E.P E.P.depth t with | true=>false | false=>true)) fun _=>bind (opt (eqV E.P 8 t (.agg l) (.agg r))) fun b=>match op with
  | .eql=>finM E i g d [] (.c (.bool b))
  | .neq=>finM E i g d [] (.c (.bool (!b)))
  | _=>fail
 | .c a,.c b=>bind (guard (nilOk a b x y)) fun _=>bind (opt (eqC E.P t a b)) fun r=>match op with
  | .eql=>finM E i g d [] (.c (.bool r))
  | .neq=>finM E i g d [] (.c (.bool (!r)))
  | _=>fail
 | _,_=>fail
def unM (E:Env) (i:Nat) (g:OG) (d:Nat) (op:UnOp) (x:Operand):M Eff :=
 bind (opdM E g x) fun a=>match op,a with
 | .not,.c (.bool b)=>finM E i g d [] (.c (.bool (!b)))
 | .neg,.c (.int k n)=>arithM E i g d k (0-n)
 | .xor,.c (.int k n)=>finM E i g d [] (.c (.int k (bitsI .xor k (if k.signed then -1 else k.max) n)))
 | _,_=>fail
def convM (E:Env) (i:Nat) (g:OG) (d:Nat) (src dst:TypeId) (x:Operand):M Eff :=
 bind (opdM E g x) fun a=>match E.P.underlying src,E.P.underlying dst,a with
 | some _,some (.int k),.c (.int _ n)=>finM E i g d [] (.c (.int k (k.wrap n)))
 | some _,some .string,.c (.str s)=>finM E i g d [] (.c (.str s))
 | _,_,_=>fail
def pickM (E:Env) (i:Nat) (g:OG) (d:Nat) (c x y:Operand):M Eff :=
 match c with
 | .tmp t=>bind (opdM E g c) fun vc=>bind (boolM vc) fun b=>bind (gdM 9 t true) fun g1=>bind (gdM 9 t false) fun g2 =>
   bind (opdM E (some g1) x) fun a=>bind (opdM E (some g2) y) fun z=>bind (boolM a) fun p=>bind (boolM z) fun q =>
    finM E i g d [] (.c (.bool (cond b p q)))
 | _=>fail
def lenM (E:Env) (i:Nat) (g:OG) (d:Nat) (t:TypeId) (x:Operand):M Eff :=
 bind (opdM E g x) fun a=>match E.P.underlying t,a with
 | some .string,.c (.str s)=>finM E i g d [] (.c (.int .i64 (s.length:Int)))
 | some (.slice _),.c (.sl _ n _)=>finM E i g d [] (.c (.int .i64 (n:Int)))
 | some (.slice _),.c .nilsl=>finM E i g d [] (.c (.int .i64 0))
 | some (.slice _),.c (.row _ _ _ n)=>finM E i g d [] (.c (.int .i64 (n:Int)))
 | _,_=>fail
def extractM (E:Env) (i:Nat) (g:OG) (d:Nat) (x:Operand) (k:Nat):M Eff :=
 match x with
 | .tmp t=>bind (rd (.tm t)) fun
  | .tv (.tup l)=>bind (opt (nth l k)) fun v=>finM E i g d [] v
  | _=>fail
 | _=>fail
def nilChkM (E:Env) (i:Nat) (g:OG) (d:Nat) (x:Operand):M Eff :=
 bind (opdM E g x) fun a=>match a with
 | .c (.ptr id o)=>finM E i g d [] (.c (.ptr id o))
 | .c (.dp m h)=>finM E i g d [] (.c (.dp m h))
 | .c (.rp s id e o)=>finM E i g d [] (.c (.rp s id e o))
 | .c (.clo f k sh c)=>finM E i g d [] (.c (.clo f k sh c))
 | _=>fail
def spliceL:List Cell→Nat→List Cell→List Cell
 | l,_,[]=>l
 | [],_,_=>[]
 | _::r,0,y::ys=>y::spliceL r 0 ys
 | x::r,n+1,ys=>x::spliceL r n ys
def partsM (E:Env) (g:OG) (place:Nat→Option (Nat×Nat)):List Cell→List (Nat×Operand)→M (List Cell)
 | l,[]=>ret l
 | l,(i,x)::r=>bind (opdM E g x) fun v=>bind (opt (place i)) fun p =>
   bind (guard (bAnd (Nat.beq (len v.cells) p.2) (Nat.ble (p.1+p.2) (len l)))) fun _=>partsM E g place (spliceL l p.1 v.cells) r
def fieldPl (P:Program) (fs:List Field) (i:Nat):Option (Nat×Nat):=match nth fs i with
 | some f=>match tSize P f.type with
  | some s=>some (f.offset,s)
  | none=>none
 | none=>none
def allSized (P:Program):List Field→Bool
 | []=>true
 | f::r=>match tSize P f.type with
  | some _=>allSized P r
  | none=>false
def buildM (E:Env) (i:Nat) (g:OG) (d:Nat) (t:TypeId) (ps:List (Nat×Operand)):M Eff :=
 bind (opt (tZero E.P t)) fun z=>match E.P.underlying t with
 | some (.struct fs)=>bind (guard (allSized E.P fs.toList)) fun _=>bind (partsM E g (fieldPl E.P fs.toList) z ps) fun l=>finM E i g d [] (.agg l)
 | some (.array _ el)=>bind (opt (tSize E.P el)) fun sz=>bind (partsM E g (fun i=>some (i*sz,sz)) z ps) fun l=>finM E i g d [] (.agg l)
 | _=>fail
def repL:Nat→List Cell→List Cell
 | 0,_=>[]
 | n+1,l=>l++repL n l
def buildSlM (E:Env) (i nid:Nat) (g:OG) (d:Nat) (t:TypeId) (n:Nat) (ps:List (Nat×Operand)):M Eff :=
 bind (pure1 g) fun _=>bind (opt (tElem E.P t)) fun el=>bind (opt (tSize E.P el)) fun sz=>bind (opt (tZero E.P el)) fun z =>
 bind (guard (bAnd (Nat.blt 0 sz) (bAnd (Nat.ble (n*sz) 16777216) (Nat.beq (len z) sz)))) fun _ =>
 bind (partsM E g (fun i=>some (i*sz,sz)) (repL n z) ps) fun l=>bind (guard (flats l)) fun _ =>
 ret ⟨[(.bk nid,.bk (.row el sz n (fun i j=>nthD l (i*sz+j)))),(.tm d,.tv (.v (.c (.row sz nid 0 n))))],[]⟩
def isConc (P:Program) (t:TypeId):Bool:=match P.underlying t with
 | some (.interface _)=>false
 | some _=>true
 | none=>false
def mkIfcM (E:Env) (i:Nat) (g:OG) (d:Nat) (t:TypeId) (x:Operand):M Eff :=
 bind (opdM E g x) fun a=>bind (guard (isConc E.P t)) fun _=>match a with
 | .c x=>finM E i g d [] (.c (.ifc t none (fun _=>x)))
 | .agg l=>finM E i g d [] (.c (.ifc t (some (len l)) (nthD l)))
def shOf:V1→Option Nat
 | .c _=>none
 | .agg l=>some (len l)
def opdsM (E:Env) (g:OG):List Operand→M (List V1)
 | []=>ret []
 | x::r=>bind (opdM E g x) fun v=>bind (opdsM E g r) fun l=>ret (v::l)
def isNilL {α:Type}:List α→Bool
 | []=>true
 | _=>false
def mkFnM (E:Env) (i:Nat) (g:OG) (d:Nat) (fn:Fn) (first cap:List Operand):M Eff :=
 match fn,first with
 | .func f,[]=>bind (guard (Nat.blt f 1000000000)) fun _=>bind (opdsM E g cap) fun l=>finM E i g d [] (.c (.clo f (len l) (fun i=>match nth l i with | some v=>shOf v | none=>none) (fun i j=>match nth l i with | some v=>nthD v.cells j | none => .nilif)))
 | .func f,first=>bind (guard (isNilL cap)) fun _=>bind (opdsM E g first) fun l=>finM E i g d [] (.c (.clo (f+1000000000) (len l) (fun i=>match nth l i with | some v=>shOf v | none=>none) (fun i j=>match nth l i with | some v=>nthD v.cells j | none => .nilif)))
 | _,_=>fail
def loI:Option Int→Int
 | none=>0
 | some n=>n
def hiI (m:Nat):Option Int→Int
 | none=>(m:Int)
 | some n=>n
def optIM (E:Env) (g:OG):Option Operand→M (Option Int)
 | none=>ret none
 | some o=>bind (opdM E g o) fun v=>bind (intM v) fun n=>ret (some n.2)
def arrM (id:Nat):M Nat:=bind (rd (.bk id)) fun
 | .bk (.box _ cs)=>ret (len cs)
 | _=>fail
def sliceM (E:Env) (i:Nat) (g:OG) (d:Nat) (t:TypeId) (x:Operand) (lo hi mx:Option Operand):M Eff :=
 bind (opdM E g x) fun a=>bind (optIM E g lo) fun l=>bind (optIM E g hi) fun h =>
 match mx with
 | some mo=>match hi with
  | none=>fail
  | some _=>bind (optIM E g (some mo)) fun m=>match E.P.underlying t,a with
   | some (.slice el),.c (.sl sz n f)=>bind (opt (tSize E.P el)) fun z=>bind (guard (Nat.beq z sz)) fun _ =>
    finM E i g d [under g (0≤loI l∧loI l≤hiI n h∧hiI n h≤loI m∧loI m≤(n:Int))] (.c (.sl sz ((hiI n h).toNat-(loI l).toNat) (fun i j=>f ((loI l).toNat+i) j)))
   | some (.array n el),.c (.dp k f)=>bind (opt (tSize E.P el)) fun z=>bind (guard (bAnd (Nat.ble (n*z) k) (Nat.ble n 1000000))) fun _ =>
    finM E i g d [under g (0≤loI l∧loI l≤hiI n h∧hiI n h≤loI m∧loI m≤(n:Int))] (.c (.sl z ((hiI n h).toNat-(loI l).toNat) (fun i j=>f (((loI l).toNat+i)*z+j))))
   | some (.slice el),.c (.row sz _ _ n)=>bind (opt (tSize E.P el)) fun z=>bind (guard (Nat.beq z sz)) fun _ =>
    ret ⟨[(.tm d,.tv .junk)],[under g (0≤loI l∧loI l≤hiI n h∧hiI n h≤loI m∧loI m≤(n:Int))]⟩
   | _,_=>fail
 | none=>match E.P.underlying t,a with
  | some .string,.c (.str s) =>
   finM E i g d [under g (0≤loI l∧loI l≤hiI s.length h∧hiI s.length h≤(s.length:Int))] (.c (.str ((s.take (hiI s.length h).toNat).drop (loI l).toNat)))
  | some (.slice el),.c (.sl sz n f)=>bind (opt (tSize E.P el)) fun z=>bind (guard (Nat.beq z sz)) fun _ =>
   finM E i g d [under g (0≤loI l∧loI l≤hiI n h∧hiI n h≤(n:Int))] (.c (.sl sz ((hiI n h).toNat-(loI l).toNat) (fun i j=>f ((loI l).toNat+i) j)))
  | some (.slice el),.c (.row sz id off n)=>bind (opt (tSize E.P el)) fun z=>bind (guard (Nat.beq z sz)) fun _=>match look E.wrp i with
   | none=>finM E i g d [under g (0≤loI l∧loI l≤hiI n h∧hiI n h≤(n:Int))] (.c (.row sz id (off+(loI l).toNat) ((hiI n h).toNat-(loI l).toNat)))
   | some _=>bind (rowM id) fun r=>finM E i g d [under g (0≤loI l∧loI l≤hiI n h∧(off:Int)+hiI n h≤(r.2.2.1:Int))] (.c (.row sz id (off+(loI l).toNat) ((hiI n h).toNat-(loI l).toNat)))
  | some (.array n el),.c (.dp k f)=>bind (opt (tSize E.P el)) fun z=>bind (guard (bAnd (Nat.ble (n*z) k) (Nat.ble n 1000000))) fun _ =>
   finM E i g d [under g (0≤loI l∧loI l≤hiI n h∧hiI n h≤(n:Int))] (.c (.sl z ((hiI n h).toNat-(loI l).toNat) (fun i j=>f (((loI l).toNat+i)*z+j))))
  | some (.array n el),.c (.ptr id off)=>bind (opt (tSize E.P el)) fun z=>bind (arrM id) fun k=>bind (guard (bAnd (Nat.beq off 0) (bAnd (Nat.beq z 1) (bAnd (Nat.beq k n) (Nat.blt 0 n))))) fun _ =>
   finM E i g d [under g (0≤loI l∧loI l≤hiI n h∧hiI n h≤(n:Int))] (.c (.row 1 id (loI l).toNat ((hiI n h).toNat-(loI l).toNat)))
  | _,_=>fail
end Go.Sv
end
section
namespace Go.Sv
open M
theorem put_size (a:Act) (d:Option Tmp) (u:Value):(a.put d u).tmps.size=a.tmps.size:=by
 cases d<;>simp [Act.put]
theorem put_defers (a:Act) (d:Option Tmp) (u:Value):(a.put d u).defers=a.defers:=by
 cases d<;>simp [Act.put]
theorem put_get (a:Act) (d t:Tmp) (u:Value) (h:d<a.tmps.size):(a.put (some d) u).tmps[t]?=if d=t then some u else a.tmps[t]?:=by
 simp only [Act.put]
 rw [Array.getElem?_setIfInBounds]
 split
 ·rename_i e;subst e;simp [h]
 ·rfl
theorem DenT.put {D:Dat} {ρ:Rho} {W W':Nat→Prop} {a:Act} {d:Nat} (hnd:¬ W d) (hW:∀ t,W t→W' t) {u:Value} {v:TV} {x:Value}
  (h:DenT D ρ W a.tmps v x):DenT D ρ W' (a.put (some d) u).tmps v x:=by
 cases v with
 | v y=>exact h
 | tup l=>exact h
 | junk=>trivial
 | cnd t w y =>
  have hne:d≠t:=fun e=>hnd (e▸h.1)
  have e:(a.put (some d) u).tmps[t]?=a.tmps[t]?:=by
   simp only [Act.put]
   rw [Array.getElem?_setIfInBounds,if_neg hne]
  exact ⟨hW _ h.1,fun ht=>h.2.1 (e▸ht),fun ht=>h.2.2 (e▸ht)⟩
theorem set_tm_look (st:St) (d:Nat) (v:TV) (t:Nat):look (st.set (.tm d) (.tv v)).tm t=if d=t then some v else look st.tm t:=look_put _ _ _ _
theorem Sat.put {Γ:Ctx} {S W W':Nat→Prop} {D:Dat} {ρ:Rho} {st:St} {a:Act} {w:World} (h:Sat Γ S W D ρ st a w) {d:Nat} (hd:d<Γ.N) (hnd:¬ W d)
  (hW:∀ t,W t→W' t) {u:Value} {v:TV} (hden:DenT D ρ W' (a.put (some d) u).tmps v u) (hin:v.inS S) :
  Sat Γ S W' D ρ (st.set (.tm d) (.tv v)) (a.put (some d) u) w:=by
 have hsz:d<a.tmps.size:=by rw [h.size];exact hd
 refine { h with defers := ?_,size := ?_,tm := ?_,idT := ?_ }
 ·rw [put_defers];exact h.defers
 ·rw [put_size];exact h.size
 ·intro t x hx
  rw [set_tm_look] at hx
  rw [put_get _ _ _ _ hsz]
  by_cases e:d=t
  ·subst e
   rw [if_pos rfl] at hx ⊢
   simp only [Option.some.injEq] at hx
   subst hx
   exact ⟨u,rfl,hden⟩
  ·rw [if_neg e] at hx ⊢
   obtain ⟨y,hy,hdy⟩:=h.tm t x hx
   exact ⟨y,hy,hdy.put hnd hW⟩
 ·intro t x hx
  rw [set_tm_look] at hx
  by_cases e:d=t
  ·rw [if_pos e] at hx;simp only [Option.some.injEq] at hx;subst hx;exact hin
  ·rw [if_neg e] at hx;exact h.idT t x hx
theorem Sat.gone {Γ:Ctx} {S W W':Nat→Prop} {D:Dat} {ρ:Rho} {st:St} {a:Act} {w:World} (h:Sat Γ S W D ρ st a w) {d:Nat} (hd:d<Γ.N) (hnd:¬ W d)
  (hW:∀ t,W t→W' t) {u:Value} :
  Sat Γ S W' D ρ (st.set (.tm d) .gone) (a.put (some d) u) w:=by
 have hsz:d<a.tmps.size:=by rw [h.size];exact hd
 refine { h with defers := ?_,size := ?_,tm := ?_,idT := ?_ }
 ·rw [put_defers];exact h.defers
 ·rw [put_size];exact h.size
 ·intro t x hx
  have hx:look (del st.tm d) t=some x:=hx
  rw [look_del] at hx
  rw [put_get _ _ _ _ hsz]
  by_cases e:d=t
  ·rw [if_pos e] at hx;cases hx
  ·rw [if_neg e] at hx ⊢
   obtain ⟨y,hy,hdy⟩:=h.tm t x hx
   exact ⟨y,hy,hdy.put hnd hW⟩
 ·intro t x hx
  have hx:look (del st.tm d) t=some x:=hx
  rw [look_del] at hx
  by_cases e:d=t
  ·rw [if_pos e] at hx;cases hx
  ·rw [if_neg e] at hx;exact h.idT t x hx
theorem Sat.mono {Γ:Ctx} {S S' W W':Nat→Prop} {D:Dat} {ρ:Rho} {st:St} {a:Act} {w:World} (h:Sat Γ S W D ρ st a w) (hS:∀ i,S i→S' i) (hW:∀ t,W t→W' t) :
  Sat Γ S' W' D ρ st a w:=by
 refine { h with tm := ?_,idT := ?_,idH := ?_,kinS:=fun i hi=>hS _ (h.kinS i hi) }
 ·intro t v hv
  obtain ⟨u,hu,hd⟩:=h.tm t v hv
  refine ⟨u,hu,?_⟩
  cases v with
  | v x=>exact hd
  | tup l=>exact hd
  | junk=>trivial
  | cnd t w x=>exact ⟨hW _ hd.1,hd.2⟩
 ·exact fun t v hv=>TV.inS_mono hS (h.idT t v hv)
 ·exact fun id b hb=>⟨hS _ (h.idH id b hb).1,Blk.inS_mono hS (h.idH id b hb).2⟩
def Exec (g:OG) (a:Act):Prop:=∀ gd,g=some gd→a.tmps[gd.t]?=some (.bool gd.w)
structure GdOk1 (W:Nat→Prop) (gd:Gd) (a:Act):Prop where
 wr:W gd.t
 ch:a.tmps[gd.t]?=some (.bool gd.w)→∀ t w,(t,w)∈gd.ch→a.tmps[t]?=some (.bool w)
 p:a.tmps[gd.t]?=some (.bool gd.w)→gd.p
def GdOk (W:Nat→Prop) (g:OG) (a:Act):Prop:=∀ gd,g=some gd→GdOk1 W gd a
theorem bAnd_eq {a b:Bool} (h:bAnd a b=true):a=true∧b=true:=by cases a<;>simp_all [bAnd]
theorem inCh_mem {t:Nat} {w:Bool}:∀ {l:List (Nat×Bool)},inCh t w l=true→(t,w)∈l
 | [],h=>by simp [inCh] at h
 | (t',w')::r,h=>by
  simp only [inCh] at h
  cases hb:bAnd (Nat.beq t t') (bEq w w') with
  | true =>
   obtain ⟨h1,h2⟩:=bAnd_eq hb
   rw [(beq_eq _ _).1 h1,bEq_eq h2]
   exact List.mem_cons_self ..
  | false=>rw [hb] at h; exact List.mem_cons_of_mem _ (inCh_mem h)
theorem cstC_den {v:Value} {c:Cell} (h:cstC v=some c) (D:Dat) (ρ:Rho):Den D ρ c v:=by
 cases v<;>simp only [cstC,reduceCtorEq,Option.some.injEq] at h
 case int=>subst h;rfl
 case bool=>subst h;rfl
 case string s=>subst h;simp [Den]
 case pointer a=>cases a<;>simp at h;subst h;rfl
 case slice a n cp =>
  cases a<;>cases n<;>cases cp<;>simp at h
  subst h;rfl
 case map r=>cases r<;>simp at h;subst h;rfl
 case nilFunc=>subst h;rfl
 case nilIface=>subst h;rfl
theorem cstC_inS {v:Value} {c:Cell} (h:cstC v=some c) (S:Nat→Prop):c.inS S:=by
 cases v<;>simp only [cstC,reduceCtorEq,Option.some.injEq] at h
 case int=>subst h;trivial
 case bool=>subst h;trivial
 case string s=>subst h;trivial
 case pointer a=>cases a<;>simp at h;subst h;trivial
 case slice a n cp =>
  cases a<;>cases n<;>cases cp<;>simp at h
  subst h;trivial
 case map r=>cases r<;>simp at h;subst h;trivial
 case nilFunc=>subst h;trivial
 case nilIface=>subst h;trivial
theorem cstL_den:∀ {l:List Value} {cs:List Cell} (h:cstL l=some cs) (D:Dat) (ρ:Rho),cs.length=l.length∧∀ (j:Nat) (x:Cell),cs[j]?=some x→∃ u,l[j]?=some u∧Den D ρ x u:=by
 intro l
 induction l with
 | nil=>intro cs h D ρ; simp [cstL] at h; subst h; simp
 | cons v r ih =>
  intro cs h D ρ
  simp only [cstL] at h
  cases hc:cstC v with
  | none=>simp [hc] at h
  | some c =>
   simp only [hc] at h
   cases hl:cstL r with
   | none=>simp [hl] at h
   | some l =>
    simp only [hl,Option.some.injEq] at h
    subst h
    obtain ⟨h1,h2⟩:=ih hl D ρ
    refine ⟨by simp [h1],fun j x hj => ?_⟩
    cases j with
    | zero=>simp at hj; subst hj; exact ⟨v,by simp,cstC_den hc D ρ⟩
    | succ j=>simp at hj ⊢; exact h2 j x hj
theorem cstL_inS:∀ {l:List Value} {cs:List Cell} (h:cstL l=some cs) (S:Nat→Prop) (j:Nat) (x:Cell),cs[j]?=some x→x.inS S:=by
 intro l
 induction l with
 | nil=>intro cs h S j x hj; simp [cstL] at h; subst h; simp at hj
 | cons v r ih =>
  intro cs h S j x hj
  simp only [cstL] at h
  cases hc:cstC v with
  | none=>simp [hc] at h
  | some c =>
   simp only [hc] at h
   cases hl:cstL r with
   | none=>simp [hl] at h
   | some l =>
    simp only [hl,Option.some.injEq] at h
    subst h
    cases j with
    | zero=>simp at hj; subst hj; exact cstC_inS hc S
    | succ j=>simp at hj; exact ih hl S j x hj
theorem cstV_den {v:Value} {x:V1} (h:cstV v=some x) (D:Dat) (ρ:Rho):DenV D ρ x v:=by
 unfold cstV at h
 split at h
 ·rename_i cs
  cases hl:cstL cs.toList with
  | none=>simp [hl] at h
  | some l =>
   simp only [hl,Option.some.injEq] at h
   subst h
   obtain ⟨h1,h2⟩:=cstL_den hl D ρ
   exact ⟨cs,rfl,by simpa using h1.symm,fun j x hj=>by simpa using h2 j x hj⟩
 ·cases hc:cstC v with
  | none=>simp [hc] at h
  | some c=>simp only [hc,Option.some.injEq] at h; subst h; exact cstC_den hc D ρ
theorem cstV_inS {v:Value} {x:V1} (h:cstV v=some x) (S:Nat→Prop):x.inS S:=by
 unfold cstV at h
 split at h
 ·rename_i cs
  cases hl:cstL cs.toList with
  | none=>simp [hl] at h
  | some l =>
   simp only [hl,Option.some.injEq] at h
   subst h
   exact fun j x hj=>cstL_inS hl S j x hj
 ·cases hc:cstC v with
  | none=>simp [hc] at h
  | some c=>simp only [hc,Option.some.injEq] at h; subst h; exact cstC_inS hc S
theorem get_tm {st:St} {t:Nat} {kv:KV} (h:st.get (.tm t)=some kv):∃ v,kv = .tv v∧look st.tm t=some v:=by
 simp only [St.get] at h
 cases hl:look st.tm t with
 | none=>simp [hl] at h
 | some v=>simp only [hl,Option.some.injEq] at h; exact ⟨v,h.symm,rfl⟩
theorem get_cl {st:St} {id off:Nat} {kv:KV} (h:st.get (.cl id off)=some kv):∃ e cs x,look st.hp id=some (.box e cs)∧cs[off]?=some x∧kv = .cl x:=by
 simp only [St.get] at h
 cases hl:look st.hp id with
 | none=>simp [hl] at h
 | some b =>
  cases b with
  | row e sz n f=>simp [hl] at h
  | ob o=>simp [hl] at h
  | box e cs =>
   simp only [hl] at h
   cases hn:nth cs off with
   | none=>simp [hn] at h
   | some x=>simp only [hn,Option.some.injEq] at h; exact ⟨e,cs,x,rfl,by rw [← nth_eq]; exact hn,h.symm⟩
theorem get_bk {st:St} {id:Nat} {kv:KV} (h:st.get (.bk id)=some kv):∃ b,kv = .bk b∧look st.hp id=some b:=by
 simp only [St.get] at h
 cases hl:look st.hp id with
 | none=>simp [hl] at h
 | some v=>simp only [hl,Option.some.injEq] at h; exact ⟨v,h.symm,rfl⟩
section
variable {Γ:Ctx} {S W:Nat→Prop} {D:Dat} {ρ:Rho} {st:St} {a:Act} {w:World}
theorem tmps_getD {t:Nat} {u:Value} (h:a.tmps[t]?=some u):a.eval (.tmp t)=u:=by
 simp [Act.eval,Array.getD_eq_getD_getElem?,h]
theorem opd_den {E:Env} (hE:E.G=Γ.G) (h:Sat Γ S W D ρ st a w) {g:OG} (hg:GdOk W g a) (hx:Exec g a) {x:Operand} {v:V1}
  (hv:(opdM E g x).Ev st.get v):DenV D ρ v (a.eval x):=by
 cases x with
 | tmp t =>
  simp only [opdM,ev_bind,ev_rd] at hv
  obtain ⟨kv,hk,hv⟩:=hv
  obtain ⟨tv,rfl,hl⟩:=get_tm hk
  obtain ⟨u,hu,hd⟩:=h.tm t tv hl
  rw [tmps_getD hu]
  cases tv with
  | v y=>simp only [ev_ret] at hv; subst hv; exact hd
  | tup l=>simp only [ev_fail] at hv
  | junk=>simp only [ev_fail] at hv
  | cnd t' w' y =>
   cases g with
   | none=>simp only [ev_fail] at hv
   | some gd =>
    simp only [ev_bind,ev_guard,ev_ret] at hv
    obtain ⟨_,hgd,rfl⟩:=hv
    exact hd.2.1 ((hg gd rfl).ch (hx gd rfl) _ _ (inCh_mem hgd))
 | const c=>simp only [opdM,ev_opt] at hv; exact cstV_den hv D ρ
 | global n =>
  simp only [opdM] at hv
  cases hG:E.G n with
  | none=>simp only [hG,ev_fail] at hv
  | some cs =>
   simp only [hG,ev_ret] at hv
   subst hv
   refine ⟨n,0,rfl,fun j hj => ?_⟩
   rw [len_eq] at hj
   have hc:cs[j]?=some cs[j]:=by simp [hj]
   obtain ⟨u,hu,hd⟩:=h.glob n cs (hE▸hG) j _ hc
   refine ⟨u,by simpa using hu,?_⟩
   simp only [nth_eq,hc]
   exact hd
 | func f =>
  simp only [opdM,ev_bind,ev_guard,ev_ret] at hv
  obtain ⟨_,hb,rfl⟩:=hv
  exact ⟨#[],(cloV_of hb).symm,rfl,fun i hi=>by omega⟩
theorem opd_inS {E:Env} (hE:E.G=Γ.G) (h:Sat Γ S W D ρ st a w) {g:OG} {x:Operand} {v:V1} (hv:(opdM E g x).Ev st.get v):v.inS S:=by
 cases x with
 | tmp t =>
  simp only [opdM,ev_bind,ev_rd] at hv
  obtain ⟨kv,hk,hv⟩:=hv
  obtain ⟨tv,rfl,hl⟩:=get_tm hk
  have hd:=h.idT t tv hl
  cases tv with
  | v y=>simp only [ev_ret] at hv; subst hv; exact hd
  | tup l=>simp only [ev_fail] at hv
  | junk=>simp only [ev_fail] at hv
  | cnd t' w' y =>
   cases g with
   | none=>simp only [ev_fail] at hv
   | some gd =>
    simp only [ev_bind,ev_guard,ev_ret] at hv
    obtain ⟨_,hgd,rfl⟩:=hv
    exact hd
 | const c=>simp only [opdM,ev_opt] at hv; exact cstV_inS hv S
 | global n =>
  simp only [opdM] at hv
  cases hG:E.G n with
  | none=>simp only [hG,ev_fail] at hv
  | some cs=>simp only [hG,ev_ret] at hv; subst hv; trivial
 | func f=>simp only [opdM,ev_bind,ev_guard,ev_ret] at hv; obtain ⟨_,_,rfl⟩:=hv; exact fun i hi=>by omega
theorem gdM_ok (h:Sat Γ S W D ρ st a w):∀ (n t:Nat) (b:Bool) (gd:Gd),(gdM n t b).Ev st.get gd→W t→gd.t=t∧gd.w=b∧GdOk1 W gd a:=by
 intro n
 induction n with
 | zero=>intro t b gd hg; simp [gdM,ev_fail] at hg
 | succ n ih =>
  intro t b gd hg hW
  simp only [gdM,ev_bind,ev_rd] at hg
  obtain ⟨kv,hk,hg⟩:=hg
  obtain ⟨tv,rfl,hl⟩:=get_tm hk
  obtain ⟨u,hu,hd⟩:=h.tm t tv hl
  split at hg
  ·rename_i c e
   simp only [KV.tv.injEq] at e
   subst e
   simp only [ev_ret] at hg
   subst hg
   refine ⟨rfl,rfl,hW,fun he t w hm => ?_,fun he => ?_⟩
   ·simp only [List.mem_singleton,Prod.mk.injEq] at hm;obtain ⟨rfl,rfl⟩:=hm;exact he
   ·have hd:u = .bool c:=hd
    rw [hd] at hu
    have he:a.tmps[t]?=some (.bool b):=he
    rw [hu] at he
    simpa using he
  ·rename_i t' w' c e
   simp only [KV.tv.injEq] at e
   subst e
   simp only [ev_bind,ev_ret] at hg
   obtain ⟨g0,hg0,rfl⟩:=hg
   obtain ⟨e1,e2,ok⟩:=ih t' w' g0 hg0 hd.1
   have out:a.tmps[t]?=some (.bool b)→a.tmps[t']?=some (.bool w'):=by
    intro he
    by_cases hh:a.tmps[t']?=some (.bool w')
    ·exact hh
    ·have:=hd.2.2 hh
     subst this
     rw [hu] at he
     simp [undef] at he
   refine ⟨rfl,rfl,hW,fun he t w hm => ?_,fun he=>⟨?_,?_⟩⟩
   ·rcases List.mem_cons.1 hm with hm | hm
    ·simp only [Prod.mk.injEq] at hm;obtain ⟨rfl,rfl⟩:=hm;exact he
    ·exact ok.ch (by rw [e1,e2];exact out he) t w hm
   ·have hd:u = .bool c:=hd.2.1 (out he)
    rw [hd] at hu
    have he:a.tmps[t]?=some (.bool b):=he
    rw [hu] at he
    simpa using he
   ·exact ok.p (by rw [e1,e2];exact out he)
  ·simp [ev_fail] at hg
end
end Go.Sv
end
section
namespace Go.Sv
open M
def wPlus (W:Nat→Prop) (d:Nat):Nat→Prop:=fun t=>W t∨t=d
def PureOk (Γ:Ctx) (S W:Nat→Prop) (D:Dat) (ρ:Rho) (st:St) (a:Act) (w:World) (g:OG) (d:Nat) (eff:Eff) (sem:Sem Value):Prop :=
 (Exec g a→∃ u,sem.run Γ.P w = .ok u w∧Sat Γ S (wPlus W d) D ρ (st.sets eff.wr) (a.put (some d) u) w) ∧
 (¬ Exec g a→Sat Γ S (wPlus W d) D ρ (st.sets eff.wr) (a.put (some d) undef) w)
theorem under_exec {W:Nat→Prop} {a:Act} {g:OG} {p:Prop} (h:under g p) (hg:GdOk W g a) (he:Exec g a):p:=by
 cases g with
 | none=>exact h
 | some gd=>exact h ((hg gd rfl).p (he gd rfl))
section
variable {Γ:Ctx} {S W:Nat→Prop} {D:Dat} {ρ:Rho} {st:St} {a:Act} {w:World} {E:Env} {i d:Nat} {g:OG} {eff:Eff}
theorem fin_wr (h:Sat Γ S W D ρ st a w) (hg:GdOk W g a) (hd:d<Γ.N) (hnd:¬ W d) {v':V1} {sem:Sem Value}
  (hwr:eff.wr=[(.tm d,.tv (wrTV g v'))]) (hin':v'.inS S) (hex':Exec g a→∃ u,sem.run Γ.P w = .ok u w∧DenV D ρ v' u):PureOk Γ S W D ρ st a w g d eff sem:=by
 have hW:∀ t,W t→wPlus W d t:=fun t ht => .inl ht
 rw [PureOk,hwr]
 simp only [St.sets]
 have keep:∀ (gd:Gd),g=some gd→∀ {u:Value},(a.put (some d) u).tmps[gd.t]?=a.tmps[gd.t]?:=by
  intro gd e u
  have hne:d≠gd.t:=fun e'=>hnd (e'▸(hg gd e).wr)
  simp only [Act.put]
  rw [Array.getElem?_setIfInBounds,if_neg hne]
 constructor
 ·intro he
  obtain ⟨u,hu,hdn⟩:=hex' he
  refine ⟨u,hu,h.put hd hnd hW ?_ ?_⟩
  ·cases g with
   | none=>exact hdn
   | some gd=>exact ⟨hW _ (hg gd rfl).wr,fun _=>hdn,fun hn=>(hn (keep gd rfl▸he gd rfl)).elim⟩
  ·cases g<;>exact hin'
 ·intro he
  refine h.put hd hnd hW ?_ ?_
  ·cases g with
   | none=>exact (he (fun gd hh=>by cases hh)).elim
   | some gd =>
    refine ⟨hW _ (hg gd rfl).wr,fun ht => ?_,fun _=>rfl⟩
    rw [keep gd rfl] at ht
    exact (he (fun gd' hh=>by cases hh;exact ht)).elim
  ·cases g<;>exact hin'
theorem fin_ok (h:Sat Γ S W D ρ st a w) (hg:GdOk W g a) (hd:d<Γ.N) (hnd:¬ W d) {vc:List Prop} {v:V1} {sem:Sem Value} {L:Key→Option KV}
  (hf:(finM E i g d vc v).Ev L eff) (hvc:∀ p∈eff.vc,p) (hin:v.inS S)
  (hex:Exec g a→(∀ p∈vc,p)→∃ u,sem.run Γ.P w = .ok u w∧DenV D ρ v u):PureOk Γ S W D ρ st a w g d eff sem:=by
 unfold finM at hf
 have key:∃ v',eff.wr=[(.tm d,.tv (wrTV g v'))]∧v'.inS S∧(Exec g a→∃ u,sem.run Γ.P w = .ok u w∧DenV D ρ v' u):=by
  cases hl:look E.as i with
  | none =>
   simp only [hl,ev_ret] at hf
   subst hf
   exact ⟨v,rfl,hin,fun he=>hex he hvc⟩
  | some v' =>
   simp only [hl,ev_ret] at hf
   subst hf
   have h1:EqvI v v':=hvc _ (by simp)
   have h2:under g (EqvD v v'):=hvc _ (by simp)
   refine ⟨v',rfl,h1 _ hin,fun he => ?_⟩
   obtain ⟨u,hu,hd⟩:=hex he (fun p hp=>hvc p (by simp [hp]))
   exact ⟨u,hu,under_exec h2 hg he _ _ _ hd⟩
 obtain ⟨v',hwr,hin',hex'⟩:=key
 exact fin_wr h hg hd hnd hwr hin' hex'
theorem cells_den (h:Sat Γ S W D ρ st a w) {id:Nat}:∀ {n off:Nat} {l:List Cell},(cellsM id off n).Ev st.get l →
  l.length=n∧(∀ (j:Nat) (x:Cell),l[j]?=some x→x.inS S∧∃ u,w.cell? ⟨(ρ id).1,off+j,none⟩=some u∧Den D ρ x u):=by
 intro n
 induction n with
 | zero=>intro off l hl; simp only [cellsM,ev_ret] at hl; subst hl; simp
 | succ n ih =>
  intro off l hl
  simp only [cellsM,ev_bind,ev_rd] at hl
  obtain ⟨kv,hk,hl⟩:=hl
  obtain ⟨e,cs,x,hb,hx,rfl⟩:=get_cl hk
  simp only [ev_bind,ev_ret] at hl
  obtain ⟨r,hr,rfl⟩:=hl
  obtain ⟨h1,h2⟩:=ih hr
  refine ⟨by simp [h1],fun j y hj => ?_⟩
  cases j with
  | zero =>
   simp only [List.getElem?_cons_zero,Option.some.injEq] at hj
   subst hj
   obtain ⟨_,vs,fz,e1,e2,e3,e4⟩:=h.hp id _ hb
   obtain ⟨u,hu,hd⟩:=e4 off x hx
   refine ⟨(h.idH id _ hb).2 off x hx,u,?_,hd⟩
   simp only [World.cell?,Nat.add_zero,e1,Option.isSome_none,Bool.false_eq_true,if_false]
   exact hu
  | succ j =>
   simp only [List.getElem?_cons_succ] at hj
   obtain ⟨q1,u,q2,q3⟩:=h2 j y hj
   exact ⟨q1,u,by rw [← q2];congr 2;omega,q3⟩
theorem cells_box {st:St} {id:Nat} {e:TypeId} {cs:List Cell} (hb:look st.hp id=some (.box e cs)):∀ (n off:Nat),off+n≤cs.length→(cellsM id off n).Ev st.get ((cs.drop off).take n)
 | 0,off,_=>by simp [cellsM,ev_ret]
 | n+1,off,h=>by
  have hx:cs[off]?=some cs[off]:=by simp [show off<cs.length from by omega]
  have hg:st.get (.cl id off)=some (.cl cs[off]):=by simp only [St.get,hb,nth_eq,hx]
  rw [List.drop_eq_getElem_cons oM,List.take_succ_cons]
  simp only [cellsM,ev_bind,ev_rd]
  exact ⟨_,hg,by simp only [ev_bind,ev_ret];exact ⟨_,cells_box hb n (off+1) oM,rfl⟩⟩
theorem cellsW_ev {st:St} {id off n:Nat} {l:List Cell} (h:(cellsW id off n).Ev st.get l):(cellsM id off n).Ev st.get l:=by
 unfold cellsW at h
 split at h
 ·exact h
 ·simp only [ev_bind,ev_rd] at h
  obtain ⟨kv,hk,h⟩:=h
  obtain ⟨b,rfl,hb⟩:=get_bk hk
  split at h
  ·rename_i e cs he
   simp only [KV.bk.injEq] at he
   subst he
   split at h
   ·rename_i hc
    simp only [ev_ret] at h
    subst h
    obtain ⟨h1,h2⟩:=bAnd_eq hc
    have h1:=(beq_eq _ _).1 h1
    have h2:=(beq_eq _ _).1 h2
    rw [len_eq] at h2
    subst h1 h2
    have:=cells_box hb cs.length 0 oM
    simpa using this
   ·exact h
  ·simp [ev_fail] at h
theorem mkV_ev {ag:Bool} {l:List Cell} {v:V1} {L:Key→Option KV} (h:(mkV ag l).Ev L v):(ag=true∧v = .agg l)∨(ag=false∧∃ x,l=[x]∧v = .c x):=by
 cases ag with
 | true=>simp only [mkV,ev_ret] at h; exact .inl ⟨rfl,h.symm⟩
 | false =>
  simp only [mkV] at h
  match l,h with
  | [],h=>simp [ev_fail] at h
  | [x],h=>simp only [ev_ret] at h; exact .inr ⟨rfl,x,rfl,h.symm⟩
  | _::_::_,h=>simp [ev_fail] at h
theorem tSize_run {P:Program} {t:TypeId} {n:Nat} (h:tSize P t=some n) (w:World):(sizeOf t).run P w = .ok n w:=by
 unfold tSize at h
 cases hi:P.info? t with
 | none=>simp [hi] at h
 | some i =>
  simp only [hi,Option.some.injEq] at h
  have:(typeInfo t).run P w = .ok i w:=by simp [typeInfo,program,Sem.run,hi]
  simp [sizeOf,this,h]
theorem under_run {P:Program} {t:TypeId} {d:TypeDesc} (h:P.underlying t=some d) (w:World):(underlying t).run P w = .ok d w:=by
 simp [underlying,program,Sem.run,h]
theorem tAgg_run {P:Program} {t:TypeId} {b:Bool} (h:tAgg P t=some b) (w:World):(isAgg t).run P w = .ok b w:=by
 unfold tAgg at h
 cases hi:P.underlying t with
 | none=>simp [hi] at h
 | some d =>
  simp only [hi,Option.some.injEq] at h
  subst h
  simp only [isAgg,Sem.run_bind,under_run hi,Result.andThen_ok]
  cases d<;>rfl
theorem addr_add (b o n:Nat):(⟨b,o,none⟩:Addr).add n=⟨b,o+n,none⟩:=by
 unfold Addr.add
 split
 ·rename_i h;subst h;rfl
 ·rfl
theorem loadVar_den {P:Program} {t:TypeId} {sz:Nat} {ag:Bool} (hsz:tSize P t=some sz) (hag:tAgg P t=some ag) {b o:Nat} {l:List Cell} (hl:l.length=sz) {D:Dat} {ρ:Rho} {w:World}
  (hc:∀ (j:Nat) (x:Cell),l[j]?=some x→∃ u,w.cell? ⟨b,o+j,none⟩=some u∧Den D ρ x u) {v:V1} {L:Key→Option KV} (hv:(mkV ag l).Ev L v) :
  ∃ u,(loadVar t ⟨b,o,none⟩).run P w = .ok u w∧DenV D ρ v u:=by
 rcases mkV_ev hv with ⟨rfl,rfl⟩ | ⟨rfl,x,rfl,rfl⟩
 ·have hf:∃ f:Nat→Value,∀ j (h:j<l.length),w.cell? ⟨b,o+j,none⟩=some (f j)∧Den D ρ l[j] (f j):=by
   refine ⟨fun j=>(w.cell? ⟨b,o+j,none⟩).getD undef,fun j h => ?_⟩
   obtain ⟨u,hu,hd⟩:=hc j l[j] (by simp [h])
   simp only [hu,Option.getD_some]
   exact ⟨trivial,hd⟩
  obtain ⟨f,hf⟩:=hf
  refine ⟨.agg ((List.range sz).map f).toArray,?_,?_⟩
  ·simp only [loadVar,Sem.run_bind,tAgg_run hag,Result.andThen_ok,if_true,tSize_run hsz]
   rw [run_loadCells w ⟨b,o,none⟩ sz f (fun j hj=>by rw [addr_add];exact (hf j oM).1)]
   rfl
  ·refine ⟨_,rfl,by simp [hl],fun j x hj => ?_⟩
   have hlt:j<l.length:=by
    rcases Nat.lt_or_ge j l.length with h | h
    ·exact h
    ·simp [List.getElem?_eq_none h] at hj
   have hx:l[j]=x:=by simpa [hlt] using hj
   refine ⟨f j,by simp [← hl,hlt],hx▸(hf j hlt).2⟩
 ·obtain ⟨u,hu,hd⟩:=hc 0 x (by simp)
  refine ⟨u,?_,hd⟩
  simp only [loadVar,Sem.run_bind,tAgg_run hag,Result.andThen_ok,Bool.false_eq_true,if_false,run_load]
  simp only [Nat.add_zero] at hu
  simp [hu]
theorem upL_len {α:Type} (f:Nat→α) (n k:Nat):(upL f k n).length=n:=by
 induction n generalizing k with
 | zero=>rfl
 | succ n ih=>simp [upL,ih]
theorem upL_get {α:Type} (f:Nat→α) (n k j:Nat):(upL f k n)[j]?=if j<n then some (f (k+j)) else none:=by
 induction n generalizing k j with
 | zero=>simp [upL]
 | succ n ih =>
  cases j with
  | zero=>simp [upL]
  | succ j=>simp only [upL,List.getElem?_cons_succ,ih,Nat.add_lt_add_iff_right,Nat.add_assoc,Nat.add_comm 1 j]
theorem row_ev {id:Nat} {r:TypeId×Nat×Nat×(Nat→Nat→Cell)} (h:(rowM id).Ev st.get r):look st.hp id=some (.row r.1 r.2.1 r.2.2.1 r.2.2.2):=by
 simp only [rowM,ev_bind,ev_rd] at h
 obtain ⟨kv,hk,hl⟩:=h
 obtain ⟨b,rfl,hb⟩:=get_bk hk
 cases b with
 | box e cs=>simp [ev_fail] at hl
 | row e sz n f=>simp only [ev_ret] at hl; subst hl; exact hb
 | ob o=>simp [ev_fail] at hl
theorem flats_get {l:List Cell} (h:flats l=true):∀ {j:Nat} {x:Cell},l[j]?=some x→x.flat=true:=by
 induction l with
 | nil=>intro j x hj; simp at hj
 | cons y r ih =>
  intro j x hj
  obtain ⟨h1,h2⟩:=bAnd_eq h
  cases j with
  | zero=>simp at hj; subst hj; exact h1
  | succ j=>simp at hj; exact ih h2 hj
theorem fin_vc {vc:List Prop} {v:V1} {L:Key→Option KV} (hf:(finM E i g d vc v).Ev L eff) (hvc:∀ p∈eff.vc,p):∀ p∈vc,p:=by
 unfold finM at hf
 cases hl:look E.as i with
 | none=>simp only [hl,ev_ret] at hf; subst hf; exact hvc
 | some v'=>simp only [hl,ev_ret] at hf; subst hf; exact fun p hp=>hvc p (by simp [hp])
theorem flat_fin (h:Sat Γ S W D ρ st a w) (hg:GdOk W g a) (hd:d<Γ.N) (hnd:¬ W d) {vc:List Prop} {v:V1} {sem:Sem Value}
  (hf:(flatM E i g d vc v).Ev st.get eff) (hvc:∀ p∈eff.vc,p) (hraw:Exec g a→(∀ p∈vc,p)→∃ u,sem.run Γ.P w = .ok u w∧DenV D rho0 v u):PureOk Γ S W D ρ st a w g d eff sem:=by
 have flatD:∀ {v:V1} {u:Value},flats v.cells=true→DenV D rho0 v u→DenV D ρ v u∧v.inS S:=by
  intro v u hfl hd
  cases v with
  | c x =>
   have hx:x.flat=true:=flats_get (l:=[x]) hfl (j:=0) (by simp)
   exact ⟨Den.flat hx hd,Cell.inS_flat hx⟩
  | agg l =>
   obtain ⟨us,e,hs,hx⟩:=hd
   exact ⟨⟨us,e,hs,fun j x hj=>let ⟨u,hu,hd⟩:=hx j x hj;⟨u,hu,Den.flat (flats_get hfl hj) hd⟩⟩,fun j x hj=>Cell.inS_flat (flats_get hfl hj)⟩
 have flatS:∀ {v:V1},flats v.cells=true→v.inS S:=by
  intro v hfl
  cases v with
  | c x=>exact Cell.inS_flat (flats_get (l:=[x]) hfl (j:=0) (by simp))
  | agg l=>exact fun j x hj=>Cell.inS_flat (flats_get hfl hj)
 unfold flatM at hf
 split at hf
 ·simp only [ev_bind,ev_guard,ev_ret] at hf
  obtain ⟨_,hfl,rfl⟩:=hf
  refine fin_wr h hg hd hnd rfl (flatS hfl) (fun he => ?_)
  obtain ⟨u,hu,hdn⟩:=hraw he hvc
  exact ⟨u,hu,(flatD hfl hdn).1⟩
 ·rename_i v' _
  simp only [ev_bind,ev_guard,ev_ret] at hf
  obtain ⟨_,hfl,rfl⟩:=hf
  have hq:under g (EqvD v v'):=hvc _ (by simp)
  refine fin_wr h hg hd hnd rfl (flatS hfl) (fun he => ?_)
  obtain ⟨u,hu,hdn⟩:=hraw he (fun p hp=>hvc p (by simp [hp]))
  exact ⟨u,hu,(flatD hfl (under_exec hq hg he _ _ _ hdn)).1⟩
theorem load_ok (hP:E.P=Γ.P) (hG:E.G=Γ.G) (h:Sat Γ S W D ρ st a w) (hg:GdOk W g a) (hd:d<Γ.N) (hnd:¬ W d) {t:TypeId} {x:Operand}
  (hf:(loadM E i g d t x).Ev st.get eff) (hvc:∀ p∈eff.vc,p):PureOk Γ S W D ρ st a w g d eff (Instr.loadAt t (a.eval x)):=by
 simp only [loadM,ev_bind,ev_opt] at hf
 obtain ⟨v,hv,c,hc,sz,hsz,ag,hag,hf⟩:=hf
 cases v with
 | agg l=>simp [cellM,ev_fail] at hc
 | c c' =>
 simp only [cellM,ev_ret] at hc
 subst hc
 rw [hP] at hsz hag
 have hS:=opd_inS hG h hv
 cases c' with
 | ptr id off =>
  simp only [ev_bind] at hf
  obtain ⟨l,hl,v,hmk,hf⟩:=hf
  obtain ⟨hlen,hcells⟩:=cells_den h (cellsW_ev hl)
  refine fin_ok h hg hd hnd hf hvc ?_ (fun he _ => ?_)
  ·rcases mkV_ev hmk with ⟨_,rfl⟩ | ⟨_,x,rfl,rfl⟩
   ·exact fun j x hj=>(hcells j x hj).1
   ·exact (hcells 0 x (by simp)).1
  ·have hden:=opd_den hG h hg he hv
   simp only [DenV,Den] at hden
   obtain ⟨u,hu,hdn⟩:=loadVar_den (D:=D) (ρ:=ρ) (w:=w) (b:=(ρ id).1) (o:=off) hsz hag hlen (fun j x hj=>(hcells j x hj).2) hmk
   exact ⟨u,by simp [Instr.loadAt,hden,Instr.sureAddr,hu],hdn⟩
 | dp m k =>
  simp only [ev_bind,ev_guard] at hf
  obtain ⟨_,hle,v,hmk,hf⟩:=hf
  have hle:=Nat.le_of_ble_eq_true hle
  have hget:∀ (j:Nat) (x:Cell),(upL k 0 sz)[j]?=some x→j<sz∧x=k j:=by
   intro j x hj
   rw [upL_get] at hj
   split at hj
   ·rename_i hlt;simp only [Option.some.injEq,Nat.zero_add] at hj;exact ⟨hlt,hj.symm⟩
   ·cases hj
  have hraw:Exec g a→∃ u,(Instr.loadAt t (a.eval x)).run Γ.P w = .ok u w∧DenV D rho0 v u:=by
   intro he
   have hden:=opd_den hG h hg he hv
   simp only [DenV,Den] at hden
   obtain ⟨b,o,hv0,hcl⟩:=hden
   obtain ⟨u,hu,hdn⟩:=loadVar_den (D:=D) (ρ:=rho0) (w:=w) (b:=b) (o:=o) hsz hag (upL_len k sz 0) (fun j x hj=>by
    obtain ⟨hlt,rfl⟩:=hget j x hj
    obtain ⟨u,hu,hdd⟩:=hcl j oM
    exact ⟨u,h.agree _ _ _ hu,hdd⟩) hmk
   exact ⟨u,by simp [Instr.loadAt,hv0,Instr.sureAddr,hu],hdn⟩
  exact flat_fin h hg hd hnd hf hvc (fun he _=>hraw he)
 | rp s id e o =>
  simp only [ev_bind] at hf
  obtain ⟨bb,_,hf⟩:=hf
  cases bb with
  | true =>
  simp only [ev_bind] at hf
  obtain ⟨l,hl,v,hmk,hf⟩:=hf
  obtain ⟨hlen,hcells⟩:=cells_den h (cellsW_ev hl)
  refine fin_ok h hg hd hnd hf hvc ?_ (fun he _ => ?_)
  ·rcases mkV_ev hmk with ⟨_,rfl⟩ | ⟨_,x,rfl,rfl⟩
   ·exact fun j x hj=>(hcells j x hj).1
   ·exact (hcells 0 x (by simp)).1
  ·have hden:=opd_den hG h hg he hv
   simp only [DenV,Den] at hden
   obtain ⟨u,hu,hdn⟩:=loadVar_den (D:=D) (ρ:=ρ) (w:=w) (b:=(ρ id).1) (o:=e*s+o) hsz hag hlen (fun j x hj=>(hcells j x hj).2) hmk
   exact ⟨u,by simp [Instr.loadAt,hden,Instr.sureAddr,hu],hdn⟩
  | false =>
  simp only [ev_bind,ev_guard] at hf
  obtain ⟨r,hr,_,hle,v,hmk,hf⟩:=hf
  obtain ⟨hle1,hle2⟩:=bAnd_eq hle
  have hle1:=(beq_eq _ _).1 hle1
  have hle2:=Nat.le_of_ble_eq_true hle2
  have hrow:=row_ev hr
  have hget:∀ (j:Nat) (x:Cell),(upL (fun j=>r.2.2.2 e j) o sz)[j]?=some x→j<sz∧x=r.2.2.2 e (o+j):=by
   intro j x hj
   rw [upL_get] at hj
   split at hj
   ·rename_i hlt;simp only [Option.some.injEq] at hj;exact ⟨hlt,hj.symm⟩
   ·cases hj
  refine flat_fin h hg hd hnd hf hvc (fun he hvs => ?_)
  have hlt:e<r.2.2.1:=by
   have:under g (e<r.2.2.1):=hvs _ (by simp)
   exact under_exec this hg he
  have hden:=opd_den hG h hg he hv
  simp only [DenV,Den] at hden
  obtain ⟨vs,fz,e1,e2,e3,e4,e5,e6,e7,e8⟩:=(h.hp id _ hrow).resolve_left (fun hh=>by have:=hh.2.1;omega)
  obtain ⟨u,hu,hdn⟩:=loadVar_den (D:=D) (ρ:=rho0) (w:=w) (b:=(ρ id).1) (o:=e*s+o) hsz hag (upL_len (fun j=>r.2.2.2 e j) sz o) (fun j x hj=>by
   obtain ⟨h1,rfl⟩:=hget j x hj
   obtain ⟨u,hu,hdd⟩:=e8 e hlt (o+j) oM
   refine ⟨u,?_,hdd⟩
   simp only [World.cell?,e1,Option.isSome_none,Bool.false_eq_true,if_false]
   rw [← hu,hle1,Nat.add_assoc]) hmk
  exact ⟨u,by simp [Instr.loadAt,hden,Instr.sureAddr,hu],hdn⟩
 | _=>simp [ev_fail] at hf
end
end Go.Sv
end
section
namespace Go.Sv
open M
section
variable {Γ:Ctx} {S W:Nat→Prop} {D:Dat} {ρ:Rho} {st:St} {a:Act} {w:World} {E:Env} {i d:Nat} {g:OG} {eff:Eff}
theorem cell_ev {v:V1} {c:Cell} {L:Key→Option KV} (h:(cellM v).Ev L c):v = .c c:=by
 cases v with
 | c x=>simp only [cellM,ev_ret] at h; rw [h]
 | agg l=>simp [cellM,ev_fail] at h
theorem int_ev {v:V1} {n:IntKind×Int} {L:Key→Option KV} (h:(intM v).Ev L n):v = .c (.int n.1 n.2):=by
 unfold intM at h
 split at h
 ·simp only [ev_ret] at h;subst h;rfl
 ·simp [ev_fail] at h
theorem bool_ev {v:V1} {b:Bool} {L:Key→Option KV} (h:(boolM v).Ev L b):v = .c (.bool b):=by
 unfold boolM at h
 split at h
 ·simp only [ev_ret] at h;subst h;rfl
 ·simp [ev_fail] at h
theorem field_run {P:Program} {t f:Nat} {fd:Field} (h:tField P t f=some fd):∃ fs,P.underlying t=some (.struct fs)∧fs[f]?=some fd:=by
 unfold tField at h
 split at h
 ·rename_i fs hu
  exact ⟨fs,hu,by rw [nth_eq] at h;simpa using h⟩
 ·cases h
theorem faddr_ok (hP:E.P=Γ.P) (hG:E.G=Γ.G) (h:Sat Γ S W D ρ st a w) (hg:GdOk W g a) (hd:d<Γ.N) (hnd:¬ W d) {t:TypeId} {x:Operand} {f:Nat}
  (hf:(faddrM E i g d t x f).Ev st.get eff) (hvc:∀ p∈eff.vc,p):PureOk Γ S W D ρ st a w g d eff (Instr.fieldAt t (a.eval x) f):=by
 simp only [faddrM,ev_bind,ev_opt,ev_guard] at hf
 obtain ⟨v,hv,c,hc,fd,hfd,sz,hsz,_,hpos,hf⟩:=hf
 have hc:=cell_ev hc
 subst hc
 rw [hP] at hfd hsz
 obtain ⟨fs,hu,hfs⟩:=field_run hfd
 have hpos:sz≠0:=by
  intro e;subst e;exact absurd hpos dC
 have hS:=opd_inS hG h hv
 have run:∀ b o,a.eval x = .pointer (some ⟨b,o,none⟩)→(Instr.fieldAt t (a.eval x) f).run Γ.P w = .ok (.pointer (some ⟨b,o+fd.offset,none⟩)) w:=by
  intro b o e
  simp [Instr.fieldAt,e,Instr.sureAddr,under_run hu,hfs,fieldPlace,tSize_run hsz,hpos,addr_add]
 cases c with
 | ptr id off =>
  refine fin_ok h hg hd hnd hf hvc hS (fun he _ => ?_)
  exact ⟨_,run _ _ (opd_den hG h hg he hv),rfl⟩
 | dp m k =>
  simp only [ev_bind,ev_guard] at hf
  obtain ⟨_,hle,hf⟩:=hf
  have hle:=Nat.le_of_ble_eq_true hle
  refine fin_ok h hg hd hnd hf hvc trivial (fun he _ => ?_)
  obtain ⟨b,o,e,hcl⟩:=opd_den hG h hg he hv
  refine ⟨_,run _ _ e,b,o+fd.offset,rfl,fun j hj => ?_⟩
  obtain ⟨u,hu,hdd⟩:=hcl (fd.offset+j) oM
  exact ⟨u,by rw [← hu,Nat.add_assoc],hdd⟩
 | rp s id e o =>
  refine fin_ok h hg hd hnd hf hvc hS (fun he _ => ?_)
  refine ⟨_,run _ _ (opd_den hG h hg he hv),?_⟩
  simp only [DenV,Den,Nat.add_assoc]
 | _=>simp [ev_fail] at hf
theorem iaddr_ok (hP:E.P=Γ.P) (hG:E.G=Γ.G) (h:Sat Γ S W D ρ st a w) (hg:GdOk W g a) (hd:d<Γ.N) (hnd:¬ W d) {t:TypeId} {x y:Operand}
  (hf:(iaddrM E i g d t x y).Ev st.get eff) (hvc:∀ p∈eff.vc,p):PureOk Γ S W D ρ st a w g d eff (Instr.indexAt t (a.eval x) (a.eval y)):=by
 simp only [iaddrM,ev_bind] at hf
 obtain ⟨v,hv,c,hc,vy,hvy,n,hn,hf⟩:=hf
 have hc:=cell_ev hc
 subst hc
 have hn:=int_ev hn
 subst hn
 rw [hP] at hf
 have hS:=opd_inS hG h hv
 have hy:Exec g a→a.eval y = .int n.1 n.2:=fun he=>opd_den hG h hg he hvy
 split at hf
 ·rename_i el hu
  simp only [ev_bind,ev_opt] at hf
  obtain ⟨sz,hsz,hf⟩:=hf
  have run:∀ b o len cp,Exec g a→a.eval x = .slice (some ⟨b,o,none⟩) len cp→0≤n.2∧n.2<(len:Int) →
    (Instr.indexAt t (a.eval x) (a.eval y)).run Γ.P w = .ok (.pointer (some ⟨b,o+n.2.toNat*sz,none⟩)) w:=by
   intro b o len cp he e hb
   simp [Instr.indexAt,e,hy he,asIntOf,under_run hu,hb,tSize_run hsz,addr_add]
  cases c with
  | sl s m f =>
   simp only [ev_bind,ev_guard] at hf
   obtain ⟨_,hs,hf⟩:=hf
   have hs:=(beq_eq _ _).1 hs
   subst hs
   refine fin_ok h hg hd hnd hf hvc trivial (fun he hvcs => ?_)
   have hb:0≤n.2∧n.2<(m:Int):=under_exec (hvcs _ (by simp)) hg he
   obtain ⟨ad,cp,e,h1,h2,h3⟩:=opd_den hG h hg he hv
   rcases h3 with h3 | ⟨b,o,rfl,h3⟩
   ·omega
   ·refine ⟨_,run b o m cp he e hb,b,o+n.2.toNat*s,rfl,fun j hj => ?_⟩
    obtain ⟨u,hu,hdd⟩:=h3 n.2.toNat oM j hj
    exact ⟨u,hu,hdd⟩
  | row s id off m =>
   simp only [ev_bind,ev_guard] at hf
   obtain ⟨_,hs,hf⟩:=hf
   have hs:=(beq_eq _ _).1 hs
   subst hs
   refine fin_ok h hg hd hnd hf hvc hS (fun he hvcs => ?_)
   have hb:0≤n.2∧n.2<(m:Int):=under_exec (hvcs _ (by simp)) hg he
   obtain ⟨o,e,h1,h2⟩:=(opd_den hG h hg he hv:Den D ρ (.row s id off m) (a.eval x)).resolve_right (fun hh=>by have:=hh.2.2.1;omega)
   have ho:o=off*s:=by
    rcases h2 with h2 | h2
    ·exact h2
    ·omega
   refine ⟨_,run _ o m _ he e hb,?_⟩
   simp only [DenV,Den,ho,Nat.add_mul,Nat.add_zero]
  | _=>simp [ev_fail] at hf
 ·rename_i m el hu
  simp only [ev_bind,ev_opt] at hf
  obtain ⟨sz,hsz,hf⟩:=hf
  have run:∀ b o,Exec g a→a.eval x = .pointer (some ⟨b,o,none⟩)→0≤n.2∧n.2<(m:Int) →
    (Instr.indexAt t (a.eval x) (a.eval y)).run Γ.P w = .ok (.pointer (some ⟨b,o+n.2.toNat*sz,none⟩)) w:=by
   intro b o he e hb
   simp [Instr.indexAt,e,hy he,asIntOf,under_run hu,hb,tSize_run hsz,addr_add,Instr.sureAddr]
  cases c with
  | ptr id off =>
   refine fin_ok h hg hd hnd hf hvc hS (fun he hvcs => ?_)
   have hb:0≤n.2∧n.2<(m:Int):=under_exec (hvcs _ (by simp)) hg he
   exact ⟨_,run _ _ he (opd_den hG h hg he hv) hb,rfl⟩
  | dp k f =>
   simp only [ev_bind,ev_guard] at hf
   obtain ⟨_,hs,hf⟩:=hf
   have hle:=Nat.le_of_ble_eq_true hs
   refine fin_ok h hg hd hnd hf hvc trivial (fun he hvcs => ?_)
   have hb:0≤n.2∧n.2<(m:Int):=under_exec (hvcs _ (by simp)) hg he
   obtain ⟨b,o,e,hcl⟩:=opd_den hG h hg he hv
   refine ⟨_,run b o he e hb,b,_,rfl,fun j hj => ?_⟩
   have hlt:n.2.toNat<m:=by omega
   have:n.2.toNat*sz+j<m*sz:=by
    have h1:(n.2.toNat+1)*sz≤m*sz:=Nat.mul_le_mul_right _ hlt
    rw [Nat.add_mul] at h1
    omega
   obtain ⟨u,hu,hdd⟩:=hcl (n.2.toNat*sz+j) oM
   exact ⟨u,by rw [← hu,Nat.add_assoc],hdd⟩
  | _=>simp [ev_fail] at hf
 ·simp [ev_fail] at hf
theorem part_den {P:Program} {t:TypeId} {sz:Nat} {ag:Bool} (hsz:tSize P t=some sz) (hag:tAgg P t=some ag) {l:List Cell} {us:Array Value} {o:Nat} (ho:o+sz≤l.length) (hpos:0<sz) {D:Dat} {ρ:Rho} {w:World}
  (hlen:us.size=l.length) (hc:∀ (j:Nat) (x:Cell),l[j]?=some x→∃ u,us[j]?=some u∧Den D ρ x u) {v:V1} {L:Key→Option KV} (hv:(mkV ag (upL (nthD l) o sz)).Ev L v) :
  ∃ u,(part t us o).run P w = .ok u w∧DenV D ρ v u:=by
 have hnth:∀ j,j<sz→∃ x,l[o+j]?=some x∧nthD l (o+j)=x:=by
  intro j hj
  have:o+j<l.length:=by omega
  refine ⟨l[o+j],by simp [this],?_⟩
  simp [nthD,nth_eq,this]
 rcases mkV_ev hv with ⟨rfl,rfl⟩ | ⟨rfl,x,hx,rfl⟩
 ·refine ⟨.agg (us.extract o (o+sz)),by simp [part,tAgg_run hag,tSize_run hsz],_,rfl,?_,fun j x hj => ?_⟩
  ·simp only [Array.size_extract,upL_len];omega
  ·rw [upL_get] at hj
   split at hj
   ·rename_i hlt
    simp only [Option.some.injEq] at hj
    obtain ⟨y,h1,h2⟩:=hnth j hlt
    rw [h2] at hj
    subst hj
    obtain ⟨u,hu,hdd⟩:=hc _ _ h1
    refine ⟨u,?_,hdd⟩
    rw [Array.getElem?_extract]
    have:j<min (o+sz) us.size-o:=by omega
    simp [this,hu]
   ·cases hj
 ·have h1:sz=1:=by
   have:=congrArg List.length hx
   simpa [upL_len] using this
  obtain ⟨y,h2,h3⟩:=hnth 0 oM
  have:nthD l o=x:=by
   subst h1
   simpa [upL] using hx
  simp only [Nat.add_zero] at h2 h3
  rw [h3] at this
  subst this
  obtain ⟨u,hu,hdd⟩:=hc _ _ h2
  exact ⟨u,by simp [part,tAgg_run hag,hu],hdd⟩
theorem part_inS {ag:Bool} {l:List Cell} {o sz:Nat} (ho:o+sz≤l.length) (hl:∀ (j:Nat) (x:Cell),l[j]?=some x→x.inS S) {v:V1} {L:Key→Option KV} (hv:(mkV ag (upL (nthD l) o sz)).Ev L v):v.inS S:=by
 have hnth:∀ j,j<sz→(nthD l (o+j)).inS S:=by
  intro j hj
  have hlt:o+j<l.length:=by omega
  have:nthD l (o+j)=l[o+j]:=by simp [nthD,nth_eq,hlt]
  rw [this]
  exact hl (o+j) _ (by simp [hlt])
 rcases mkV_ev hv with ⟨rfl,rfl⟩ | ⟨rfl,x,hx,rfl⟩
 ·intro j x hj
  rw [upL_get] at hj
  split at hj
  ·rename_i hlt;simp only [Option.some.injEq] at hj;subst hj;exact hnth j hlt
  ·cases hj
 ·have h1:sz=1:=by
   have:=congrArg List.length hx
   simpa [upL_len] using this
  subst h1
  have:nthD l o=x:=by simpa [upL] using hx
  rw [← this]
  exact hnth 0 oM
theorem field_ok (hP:E.P=Γ.P) (hG:E.G=Γ.G) (h:Sat Γ S W D ρ st a w) (hg:GdOk W g a) (hd:d<Γ.N) (hnd:¬ W d) {t:TypeId} {x:Operand} {f:Nat}
  (hf:(fieldM E i g d t x f).Ev st.get eff) (hvc:∀ p∈eff.vc,p):PureOk Γ S W D ρ st a w g d eff (Instr.field t (a.eval x) f):=by
 simp only [fieldM,ev_bind,ev_opt] at hf
 obtain ⟨v,hv,fd,hfd,sz,hsz,ag,hag,hf⟩:=hf
 rw [hP] at hfd hsz hag
 obtain ⟨fs,hu,hfs⟩:=field_run hfd
 have hS:=opd_inS hG h hv
 cases v with
 | c x=>simp [ev_fail] at hf
 | agg l =>
  simp only [ev_bind,ev_guard] at hf
  obtain ⟨_,hb,v,hmk,hf⟩:=hf
  obtain ⟨hb1,hb2⟩:=bAnd_eq hb
  have hb1:=Nat.le_of_ble_eq_true hb1
  have hb2:0<sz:=Nat.le_of_ble_eq_true hb2
  rw [len_eq] at hb1
  refine fin_ok h hg hd hnd hf hvc (part_inS hb1 hS hmk) (fun he _ => ?_)
  obtain ⟨us,e,hlen,hcl⟩:=opd_den hG h hg he hv
  obtain ⟨u,hu2,hdd⟩:=part_den (w:=w) hsz hag hb1 hb2 hlen hcl hmk
  exact ⟨u,by simp [Instr.field,e,under_run hu,hfs,asAgg,hu2],hdd⟩
theorem index_ok (hP:E.P=Γ.P) (hG:E.G=Γ.G) (h:Sat Γ S W D ρ st a w) (hg:GdOk W g a) (hd:d<Γ.N) (hnd:¬ W d) {t:TypeId} {x y:Operand}
  (hf:(indexM E i g d t x y).Ev st.get eff) (hvc:∀ p∈eff.vc,p):PureOk Γ S W D ρ st a w g d eff (Instr.index t (a.eval x) (a.eval y)):=by
 simp only [indexM,ev_bind] at hf
 obtain ⟨v,hv,vy,hvy,n,hn,hf⟩:=hf
 have hn:=int_ev hn
 subst hn
 rw [hP] at hf
 have hS:=opd_inS hG h hv
 have hy:Exec g a→a.eval y = .int n.1 n.2:=fun he=>opd_den hG h hg he hvy
 split at hf
 ·rename_i hu
  split at hf
  ·rename_i s
   refine fin_ok h hg hd hnd hf hvc trivial (fun he hvcs => ?_)
   have hb:0≤n.2∧n.2<(s.length:Int):=under_exec (hvcs _ (by simp)) hg he
   have e:a.eval x = .string ⟨s.toArray⟩:=opd_den hG h hg he hv
   have hlt:n.2.toNat<s.length:=by omega
   refine ⟨_,?_,rfl⟩
   have hget:(⟨s.toArray⟩:ByteArray)[n.2.toNat]?=some (s.getD n.2.toNat 0):=by
    have:n.2.toNat<(⟨s.toArray⟩:ByteArray).size:=by simpa [ByteArray.size] using hlt
    rw [getElem?_pos (⟨s.toArray⟩:ByteArray) n.2.toNat this]
    simp only [Option.some.injEq]
    show s.toArray[n.2.toNat]=_
    simp [List.getD,List.getElem?_eq_getElem hlt]
   simp [Instr.index,e,hy he,asIntOf,under_run hu,hb.1,hget]
  ·simp [ev_fail] at hf
 ·rename_i m el hu
  split at hf
  ·rename_i l
   simp only [ev_bind,ev_opt,ev_guard] at hf
   obtain ⟨sz,hsz,ag,hag,_,hb,v,hmk,hf⟩:=hf
   obtain ⟨hb1,hb2⟩:=bAnd_eq hb
   have hb1:=Nat.le_of_ble_eq_true hb1
   have hb2:0<sz:=Nat.le_of_ble_eq_true hb2
   rw [len_eq] at hb1
   have hv1:=fin_vc hf hvc _ (List.mem_singleton.2 rfl)
   have bound:0≤n.2∧n.2<(m:Int)→n.2.toNat*sz+sz≤l.length:=by
    intro hb
    have hlt:n.2.toNat<m:=by omega
    have h1:(n.2.toNat+1)*sz≤m*sz:=Nat.mul_le_mul_right _ hlt
    rw [Nat.add_mul] at h1
    omega
   by_cases hx:Exec g a
   ·have hbb:0≤n.2∧n.2<(m:Int):=under_exec hv1 hg hx
    refine fin_ok h hg hd hnd hf hvc (part_inS (bound hbb) hS hmk) (fun he hvcs => ?_)
    obtain ⟨us,e,hlen,hcl⟩:=opd_den hG h hg he hv
    obtain ⟨u,hu2,hdd⟩:=part_den (w:=w) hsz hag (bound hbb) hb2 hlen hcl hmk
    exact ⟨u,by simp [Instr.index,e,hy he,asIntOf,under_run hu,hbb,tSize_run hsz,hu2],hdd⟩
   ·refine fin_ok h hg hd hnd hf hvc ?_ (fun he _=>(hx he).elim)
    have hall:∀ j,(nthD l j).inS S:=by
     intro j
     unfold nthD
     rw [nth_eq]
     cases hj:l[j]? with
     | none=>trivial
     | some x=>exact hS j x hj
    rcases mkV_ev hmk with ⟨rfl,rfl⟩ | ⟨rfl,x,hx,rfl⟩
    ·intro j x hj
     rw [upL_get] at hj
     split at hj
     ·simp only [Option.some.injEq] at hj;subst hj;exact hall _
     ·cases hj
    ·have hq:(upL (nthD l) (n.2.toNat*sz) sz)[0]?=some x:=by rw [hx];rfl
     rw [upL_get,if_pos hb2] at hq
     simp only [Option.some.injEq] at hq
     rw [← hq];exact hall _
  ·simp [ev_fail] at hf
 ·simp [ev_fail] at hf
end
end Go.Sv
end
section
namespace Go.Sv
open M
theorem wrap_in {k:IntKind} {n:Int} (h:inR k n):k.wrap n=n:=by
 unfold inR IntKind.min IntKind.max at h
 unfold IntKind.wrap
 cases k<;>simp [IntKind.signed,IntKind.bits] at h ⊢<;>(try split)<;>omega
section
variable {Γ:Ctx} {S W:Nat→Prop} {D:Dat} {ρ:Rho} {st:St} {a:Act} {w:World} {E:Env} {i d:Nat} {g:OG} {eff:Eff}
theorem arith_ok (h:Sat Γ S W D ρ st a w) (hg:GdOk W g a) (hd:d<Γ.N) (hnd:¬ W d) {k:IntKind} {r:Int} {sem:Sem Value} {L:Key→Option KV}
  (hf:(arithM E i g d k r).Ev L eff) (hvc:∀ p∈eff.vc,p) (run:Exec g a→sem.run Γ.P w = .ok (.int k (k.wrap r)) w):PureOk Γ S W D ρ st a w g d eff sem:=by
 unfold arithM at hf
 split at hf
 ·refine fin_ok h hg hd hnd hf hvc trivial (fun he hv=>⟨_,run he,?_⟩)
  have:inR .i64 r:=under_exec (hv _ (by simp)) hg he
  rw [wrap_in this];rfl
 ·exact fin_ok h hg hd hnd hf hvc trivial (fun he hv=>⟨_,run he,rfl⟩)
theorem binI_ok (h:Sat Γ S W D ρ st a w) (hg:GdOk W g a) (hd:d<Γ.N) (hnd:¬ W d) {op:BinOp} {k:IntKind} {x y:Int} {sem:Sem Value} {L:Key→Option KV}
  (hf:(binI E i g d op k x y).Ev L eff) (hvc:∀ p∈eff.vc,p)
  (run:Exec g a→sem.run Γ.P w=((match op with
   | .add | .sub | .mul=>Op.intArith op k x y
   | .quo | .rem=>Op.intDiv op k x y
   | .and | .or | .xor | .andNot=>Op.intBits op k x y
   | _=>Op.intCmp op x y):Sem Value).run Γ.P w):PureOk Γ S W D ρ st a w g d eff sem:=by
 cases op<;>simp only [binI] at hf
 case add=>exact arith_ok h hg hd hnd hf hvc (fun he=>by rw [run he];rfl)
 case sub=>exact arith_ok h hg hd hnd hf hvc (fun he=>by rw [run he];rfl)
 case mul=>exact arith_ok h hg hd hnd hf hvc (fun he=>by rw [run he];rfl)
 case quo =>
  refine fin_ok h hg hd hnd hf hvc trivial (fun he hv => ?_)
  have hy:y≠0:=under_exec (hv _ (by simp)) hg he
  exact ⟨_,by rw [run he];simp only [Op.intDiv,hy,if_false,Sem.run_pure],rfl⟩
 case rem =>
  refine fin_ok h hg hd hnd hf hvc trivial (fun he hv => ?_)
  have hy:y≠0:=under_exec (hv _ (by simp)) hg he
  exact ⟨_,by rw [run he];simp only [Op.intDiv,hy,if_false,Sem.run_pure],rfl⟩
 case shl=>simp [ev_fail] at hf
 case shr=>simp [ev_fail] at hf
 all_goals exact fin_ok h hg hd hnd hf hvc trivial (fun he hv=>⟨_,by rw [run he];rfl,rfl⟩)
theorem toList_mk (s:List UInt8):(⟨s.toArray⟩:ByteArray).toList=s:=by
 rw [ByteArray.toList_eq]
theorem append_mk (s t:List UInt8):(⟨s.toArray⟩:ByteArray)++⟨t.toArray⟩=⟨(s++t).toArray⟩:=by
 exact ByteArray.mk_append_mk s t
theorem size_mk (s:List UInt8):(⟨s.toArray⟩:ByteArray).size=s.length:=by simp [ByteArray.size]
theorem binS_ok (h:Sat Γ S W D ρ st a w) (hg:GdOk W g a) (hd:d<Γ.N) (hnd:¬ W d) {op:BinOp} {x y:List UInt8} {sem:Sem Value} {L:Key→Option KV}
  (hf:(binS E i g d op x y).Ev L eff) (hvc:∀ p∈eff.vc,p)
  (run:Exec g a→sem.run Γ.P w=(Op.stringOp op ⟨x.toArray⟩ ⟨y.toArray⟩).run Γ.P w):PureOk Γ S W D ρ st a w g d eff sem:=by
 cases op<;>simp only [binS] at hf
 case add =>
  refine fin_ok h hg hd hnd hf hvc trivial (fun he hv => ?_)
  have hy:x.length+y.length≤9223372036854775807:=under_exec (hv _ (by simp)) hg he
  refine ⟨.string ⟨(x++y).toArray⟩,?_,rfl⟩
  rw [run he]
  simp only [Op.stringOp,size_mk]
  have hm:IntKind.i64.max=9223372036854775807:=rfl
  rw [if_neg (by rw [hm];omega),append_mk]
  rfl
 case eql=>exact fin_ok h hg hd hnd hf hvc trivial (fun he hv=>⟨_,by rw [run he];simp only [Op.stringOp,toList_mk,Sem.run_pure],rfl⟩)
 case neq=>exact fin_ok h hg hd hnd hf hvc trivial (fun he hv=>⟨_,by rw [run he];simp only [Op.stringOp,toList_mk,Sem.run_pure],rfl⟩)
 case lss=>exact fin_ok h hg hd hnd hf hvc trivial (fun he hv=>⟨_,by rw [run he];simp only [Op.stringOp,toList_mk,Sem.run_pure],rfl⟩)
 case leq=>exact fin_ok h hg hd hnd hf hvc trivial (fun he hv=>⟨_,by rw [run he];simp only [Op.stringOp,toList_mk,Sem.run_pure],rfl⟩)
 case gtr=>exact fin_ok h hg hd hnd hf hvc trivial (fun he hv=>⟨_,by rw [run he];simp only [Op.stringOp,toList_mk,Sem.run_pure],rfl⟩)
 case geq=>exact fin_ok h hg hd hnd hf hvc trivial (fun he hv=>⟨_,by rw [run he];simp only [Op.stringOp,toList_mk,Sem.run_pure],rfl⟩)
 all_goals simp [ev_fail] at hf
theorem eqGuard_run {op:BinOp} {t:TypeId} {x y:Operand} {u v:Value} (h:match u,v with | .nilIface,.nilIface=>False | .agg _,.agg _=>False | _,_=>True) (P:Program) (w:World) :
  (eqGuard op t x y u v).run P w = .ok () w:=by
 unfold eqGuard
 cases op<;>simp<;>(split<;>simp_all)
theorem tIs_run {P:Program} {q:TypeDesc→Bool} {t:TypeId} (h:tIs P q t=true):∃ dd,P.underlying t=some dd∧q dd=true:=by
 unfold tIs at h
 cases hu:P.underlying t with
 | none=>simp [hu] at h
 | some dd=>simp only [hu] at h; exact ⟨dd,rfl,h⟩
theorem mkVo_ev {ag:Bool} {l:List Cell} {v:V1} (h:mkVo ag l=some v) (L:Key→Option KV):(mkV ag l).Ev L v:=by
 unfold mkVo at h
 unfold mkV
 cases ag with
 | true=>simp only [Option.some.injEq] at h; simp only [ev_ret]; exact h
 | false =>
  simp only at h ⊢
  split at h
  ·simp only [Option.some.injEq] at h;simp only [ev_ret];exact h
  ·cases h
theorem partV_den {P:Program} {t:TypeId} {l:List Cell} {o:Nat} {v:V1} (h:partV P t l o=some v) {us:Array Value} {D:Dat} {ρ:Rho} {w:World} (hlen:us.size=l.length) (hc:∀ (j:Nat) (x:Cell),l[j]?=some x→∃ u,us[j]?=some u∧Den D ρ x u) :
  ∃ u,(part t us o).run P w = .ok u w∧DenV D ρ v u:=by
 unfold partV at h
 split at h
 ·rename_i sz ag hsz hag
  split at h
  ·rename_i hb
   obtain ⟨h1,h2⟩:=bAnd_eq hb
   have h1:=Nat.le_of_ble_eq_true h1
   have h2:0<sz:=Nat.le_of_ble_eq_true h2
   rw [len_eq] at h1
   exact part_den hsz hag h1 h2 hlen hc (mkVo_ev h (fun _=>none))
  ·cases h
 ·cases h
theorem eqV_run {P:Program} {D:Dat} {ρ:Rho} {w:World}:∀ (n:Nat) (t:TypeId) (a b:V1) (r:Bool) (u v:Value),eqV P n t a b=some r→DenV D ρ a u→DenV D ρ b v→∀ d,n≤d→(Op.equalIn d t u v).run P w = .ok r w:=by
 intro n
 induction n with
 | zero=>intro t a b r u v h; simp [eqV] at h
 | succ n ih =>
  intro t a b r u v h ha hb d hd
  obtain ⟨d,rfl⟩:∃ d',d=d'+1:=⟨d-1,by omega⟩
  simp only [eqV] at h
  split at h
  ·rename_i hu
   split at h
   ·simp only [Option.some.injEq] at h
    have ha:u = .bool _:=ha
    have hb:v = .bool _:=hb
    subst ha hb h
    simp [Op.equalIn,under_run hu]
   ·cases h
  ·rename_i k0 hu
   split at h
   ·split at h
    ·rename_i hk
     have hk:=kEq_eq hk
     subst hk
     simp only [Option.some.injEq] at h
     have ha:u = .int _ _:=ha
     have hb:v = .int _ _:=hb
     subst ha hb h
     simp [Op.equalIn,under_run hu]
    ·cases h
   ·cases h
  ·rename_i hu
   split at h
   ·simp only [Option.some.injEq] at h
    have ha:u = .string _:=ha
    have hb:v = .string _:=hb
    subst ha hb h
    simp only [Op.equalIn,Sem.run_bind,under_run hu,Result.andThen_ok,Sem.run_pure]
    rw [beq_toListBytes,toList_mk,toList_mk]
   ·cases h
  ·rename_i fs hu
   split at h
   ·rename_i l rr
    split at h
    ·cases h
    ·rename_i hst
     obtain ⟨us,e1,hl1,hc1⟩:=ha
     obtain ⟨vs,e2,hl2,hc2⟩:=hb
     subst e1 e2
     have hfo:P.fieldsOf t=fs:=by simp [Program.fieldsOf,hu]
     rw [run_equalIn_struct w d t us vs (by rw [hfo];exact hu) hst,hfo]
     have:∀ (fl:List Field) (r:Bool),eqFs P (eqV P n) l rr fl=some r→(Op.eqFields d us vs fl).run P w = .ok r w:=by
      intro fl
      induction fl with
      | nil=>intro r h; simp only [eqFs,Option.some.injEq] at h; subst h; rfl
      | cons f fl ihf =>
       intro r h
       simp only [eqFs] at h
       split at h
       ·rename_i hname
        split at h
        ·rename_i x y hx hy
         split at h
         ·rename_i p q hp hq
          simp only [Option.some.injEq] at h
          subst h
          obtain ⟨u1,r1,d1⟩:=partV_den (w:=w) hx hl1 hc1
          obtain ⟨u2,r2,d2⟩:=partV_den (w:=w) hy hl2 hc2
          have hne:f.name ≠ "_" := by simpa using hname
          simp only [Op.eqFields,if_pos hne,Sem.run_bind,r1,r2,Result.andThen_ok,ih _ _ _ _ _ _ hp d1 d2 d oM]
          cases p with
          | true=>simp [ihf _ hq]
          | false=>simp
         ·cases h
        ·cases h
       ·cases h
     exact this fs.toList r h
   ·cases h
  ·rename_i m e hu
   split at h
   ·rename_i l rr
    split at h
    ·rename_i sz hsz
     obtain ⟨us,e1,hl1,hc1⟩:=ha
     obtain ⟨vs,e2,hl2,hc2⟩:=hb
     subst e1 e2
     obtain ⟨inf,hinf,hsi⟩:∃ inf,P.info? e=some inf∧inf.size=sz:=by
      unfold tSize at hsz
      split at hsz
      ·rename_i j hj;simp only [Option.some.injEq] at hsz;exact ⟨j,hj,hsz⟩
      ·cases hsz
     have hco:P.cellsOf e=sz:=by simp [Program.cellsOf,hinf,hsi]
     rw [run_equalIn_array w d us vs hu hinf,hco]
     have:∀ (fl:List Nat) (r:Bool),eqIs P (eqV P n e) e sz l rr fl=some r→(Op.eqItems d e sz us vs fl).run P w = .ok r w:=by
      intro fl
      induction fl with
      | nil=>intro r h; simp only [eqIs,Option.some.injEq] at h; subst h; rfl
      | cons f fl ihf =>
       intro r h
       simp only [eqIs] at h
       split at h
       ·rename_i x y hx hy
        split at h
        ·rename_i p q hp hq
         simp only [Option.some.injEq] at h
         subst h
         obtain ⟨u1,r1,d1⟩:=partV_den (w:=w) hx hl1 hc1
         obtain ⟨u2,r2,d2⟩:=partV_den (w:=w) hy hl2 hc2
         simp only [Op.eqItems,Sem.run_bind,r1,r2,Result.andThen_ok,ih _ _ _ _ _ _ hp d1 d2 d oM]
         cases p with
         | true=>simp [ihf _ hq]
         | false=>simp
        ·cases h
       ·cases h
     exact this _ r h
    ·cases h
   ·cases h
  ·cases h
theorem isNN_den {D:Dat} {ρ:Rho} {b:Cell} {v:Value} (h:isNN b=true) (hv:Den D ρ b v):∃ ad,v = .pointer (some ad):=by
 cases b<;>(try simp only [isNN,Bool.false_eq_true] at h)<;>simp only [Den] at hv
 ·exact ⟨_,hv⟩
 ·obtain ⟨b,o,rfl,_⟩:=hv;exact ⟨_,rfl⟩
 ·exact ⟨_,hv⟩
theorem typeInfo_ok {P:Program} {t:TypeId} {i:TypeInfo} (h:P.info? t=some i) (w:World):(typeInfo t).run P w = .ok i w:=by simp [typeInfo,program,Sem.run,h]
theorem eqC_run {P:Program} {D:Dat} {ρ:Rho} {w:World} {t:TypeId} {a b:Cell} {r:Bool} {u v:Value} (h:eqC P t a b=some r) (hu:Den D ρ a u) (hv:Den D ρ b v):(Op.equal t u v).run P w = .ok r w:=by
 show (Op.equalIn (9999+1) t u v).run P w=_
 have hn4:4≤9999:=by decide
 revert hn4
 generalize 9999=n
 intro hn4
 unfold eqC at h
 split at h
 ·rename_i el ht
  split at h
  ·rename_i id o id' o'
   split at h
   ·rename_i sz hsz
    split at h
    ·rename_i hh
     obtain ⟨h1,h2⟩:=bAnd_eq hh
     have h1:=(beq_eq _ _).1 h1
     have h2:0<sz:=Nat.le_of_ble_eq_true h2
     subst h1
     simp only [Option.some.injEq] at h
     subst h
     simp only [Den] at hu hv
     subst hu hv
     have hne:sz≠0:=by omega
     simp [Op.equalIn,under_run ht,tSize_run hsz,hne,sameAddr]
     by_cases e:o=o'
     ·subst e;simp
     ·rw [show Nat.beq o o'=false from by cases hb:Nat.beq o o' with | true=>exact absurd ((beq_eq _ _).1 hb) e | false=>rfl];simp [e]
    ·cases h
   ·cases h
  ·simp only [Option.some.injEq] at h
   subst h
   simp only [Den] at hu hv
   subst hu hv
   simp [Op.equalIn,under_run ht]
  ·split at h
   ·rename_i hb
    simp only [Option.some.injEq] at h
    subst h
    have hu:u = .pointer none:=hu
    obtain ⟨ad,rfl⟩:=isNN_den hb hv
    subst hu
    simp [Op.equalIn,under_run ht]
   ·cases h
  ·split at h
   ·rename_i hb
    simp only [Option.some.injEq] at h
    subst h
    have hv:v = .pointer none:=hv
    obtain ⟨ad,rfl⟩:=isNN_den hb hu
    subst hv
    simp [Op.equalIn,under_run ht]
   ·cases h
  ·cases h
 ·rename_i ht
  split at h
  ·simp only [Option.some.injEq] at h;subst h;simp only [Den] at hu hv;subst hu hv;simp [Op.equalIn,under_run ht]
  ·simp only [Option.some.injEq] at h;subst h;simp only [Den] at hu hv;obtain ⟨x,rfl,_⟩:=hv;subst hu;simp [Op.equalIn,under_run ht]
  ·simp only [Option.some.injEq] at h;subst h;simp only [Den] at hu hv;obtain ⟨x,rfl,_⟩:=hu;subst hv;simp [Op.equalIn,under_run ht]
  ·rename_i tx sh c ty sh' c'
   simp only [Den] at hu hv
   obtain ⟨x,rfl,hx⟩:=hu
   obtain ⟨y,rfl,hy⟩:=hv
   split at h
   ·rename_i hne
    simp only [Option.some.injEq] at h
    subst h
    have hne:tx≠ty:=fun e=>by rw [(beq_eq tx ty).2 e] at hne;cases hne
    simp [Op.equalIn,under_run ht,hne]
   ·rename_i heq
    have heq:=(beq_eq tx ty).1 heq
    subst heq
    split at h
    ·rename_i inf hi
     split at h
     ·rename_i hc
      have r1:=eqV_run (w:=w) 4 tx _ _ r x y h hx hy n hn4
      simp [Op.equalIn,under_run ht,typeInfo_ok hi,hc,r1]
     ·cases h
    ·cases h
  ·cases h
 ·rename_i ht
  split at h
  ·simp only [Option.some.injEq] at h;subst h;simp only [Den] at hu hv;subst hu hv;simp [Op.equalIn,under_run ht]
  ·simp only [Option.some.injEq] at h;subst h;simp only [Den] at hu hv;obtain ⟨b,cap,rfl,_⟩:=hu;subst hv;simp [Op.equalIn,under_run ht]
  ·simp only [Option.some.injEq] at h;subst h;simp only [Den] at hu hv;obtain ⟨b,cap,rfl,h1,_,h2⟩:=hu;subst hv;rcases h2 with ⟨_,h2⟩ | ⟨b,o,rfl,_⟩
   ·omega
   ·simp [Op.equalIn,under_run ht]
  ·cases h
 ·rename_i ht
  split at h
  ·simp only [Option.some.injEq] at h;subst h;simp only [Den] at hu hv;subst hu hv;simp [Op.equalIn,under_run ht]
  ·simp only [Option.some.injEq] at h;subst h;simp only [Den] at hu hv;subst hu hv;simp [Op.equalIn,under_run ht]
  ·simp only [Option.some.injEq] at h;subst h;simp only [Den] at hu hv;subst hu hv;simp [Op.equalIn,under_run ht]
  ·cases h
 ·rename_i ht
  split at h
  ·simp only [Option.some.injEq] at h;subst h;simp only [Den] at hu hv;subst hu hv;simp [Op.equalIn,under_run ht]
  ·simp only [Option.some.injEq] at h;subst h;simp only [Den] at hu hv;obtain ⟨x,rfl,_⟩:=hv;subst hu;obtain ⟨g,fs,cs,e⟩:=cloV_ex _ x;rw [e];simp [Op.equalIn,under_run ht]
  ·simp only [Option.some.injEq] at h;subst h;simp only [Den] at hu hv;obtain ⟨x,rfl,_⟩:=hu;subst hv;obtain ⟨g,fs,cs,e⟩:=cloV_ex _ x;rw [e];simp [Op.equalIn,under_run ht]
  ·cases h
 ·cases h
def noNum:Value→Prop
 | .int _ _ | .float _ _ | .complex _ _ _ | .string _ | .agg _=>False
 | _=>True
theorem noNum_ptr {D:Dat} {ρ:Rho} {b:Cell} {v:Value} (h:isNN b=true) (hv:Den D ρ b v):noNum v∧v ≠ .nilIface:=by
 obtain ⟨ad,rfl⟩:=isNN_den h hv
 exact ⟨trivial,by intro h;cases h⟩
theorem eqC_shape {P:Program} {D:Dat} {ρ:Rho} {t:TypeId} {a b:Cell} {r:Bool} {u v:Value} (h:eqC P t a b=some r) (hu:Den D ρ a u) (hv:Den D ρ b v) :
  noNum u∧noNum v∧(u = .nilIface→v = .nilIface→a = .nilif∧b = .nilif):=by
 unfold eqC at h
 split at h
 ·split at h
  ·simp only [Den] at hu hv
   subst hu hv
   exact ⟨trivial,trivial,fun h=>by cases h⟩
  ·simp only [Den] at hu hv
   subst hu hv
   exact ⟨trivial,trivial,fun h=>by cases h⟩
  ·split at h
   ·rename_i hb
    have hu:u = .pointer none:=hu
    subst hu
    exact ⟨trivial,(noNum_ptr hb hv).1,fun h=>by cases h⟩
   ·cases h
  ·split at h
   ·rename_i hb
    have hv:v = .pointer none:=hv
    subst hv
    exact ⟨(noNum_ptr hb hu).1,trivial,fun _ h=>by cases h⟩
   ·cases h
  ·cases h
 ·split at h
  ·simp only [Den] at hu hv;subst hu hv;exact ⟨trivial,trivial,fun _ _=>⟨rfl,rfl⟩⟩
  ·simp only [Den] at hu hv;obtain ⟨x,rfl,_⟩:=hv;subst hu;exact ⟨trivial,trivial,fun _ h=>by cases h⟩
  ·simp only [Den] at hu hv;obtain ⟨x,rfl,_⟩:=hu;subst hv;exact ⟨trivial,trivial,fun h=>by cases h⟩
  ·simp only [Den] at hu hv;obtain ⟨x,rfl,_⟩:=hu;obtain ⟨y,rfl,_⟩:=hv;exact ⟨trivial,trivial,fun h=>by cases h⟩
  ·cases h
 ·split at h
  ·simp only [Den] at hu hv;subst hu hv;exact ⟨trivial,trivial,fun h=>by cases h⟩
  ·simp only [Den] at hu hv;obtain ⟨b,cap,rfl,_⟩:=hu;subst hv;exact ⟨trivial,trivial,fun h=>by cases h⟩
  ·simp only [Den] at hu hv;obtain ⟨b,cap,rfl,_⟩:=hu;subst hv;exact ⟨trivial,trivial,fun h=>by cases h⟩
  ·cases h
 ·split at h
  ·simp only [Den] at hu hv;subst hu hv;exact ⟨trivial,trivial,fun h=>by cases h⟩
  ·simp only [Den] at hu hv;subst hu hv;exact ⟨trivial,trivial,fun h=>by cases h⟩
  ·simp only [Den] at hu hv;subst hu hv;exact ⟨trivial,trivial,fun h=>by cases h⟩
  ·cases h
 ·split at h
  ·simp only [Den] at hu hv;subst hu hv;exact ⟨trivial,trivial,fun h=>by cases h⟩
  ·simp only [Den] at hu hv;obtain ⟨x,rfl,_⟩:=hv;subst hu;obtain ⟨g,fs,cs,e⟩:=cloV_ex _ x;rw [e];exact ⟨trivial,trivial,fun h=>by cases h⟩
  ·simp only [Den] at hu hv;obtain ⟨x,rfl,_⟩:=hu;subst hv;obtain ⟨g,fs,cs,e⟩:=cloV_ex _ x;rw [e];exact ⟨trivial,trivial,fun h=>by cases h⟩
  ·cases h
 ·cases h
theorem eqC_guard {P:Program} {D:Dat} {ρ:Rho} {w:World} {op:BinOp} {t:TypeId} {a b:Cell} {r:Bool} {x y:Operand} {u v:Value} (h:eqC P t a b=some r) (hok:nilOk a b x y=true) (hu:Den D ρ a u) (hv:Den D ρ b v) :
  (eqGuard op t x y u v).run P w = .ok () w:=by
 obtain ⟨h1,h2,h3⟩:=eqC_shape h hu hv
 by_cases hn:u = .nilIface∧v = .nilIface
 ·obtain ⟨rfl,rfl⟩:=hn
  obtain ⟨rfl,rfl⟩:=h3 rfl rfl
  have:isConst x=true∨isConst y=true:=by
   simp only [nilOk] at hok
   split at hok
   ·exact Or.inl aS
   ·exact Or.inr hok
  clear hok h h3
  unfold eqGuard
  rcases this with h | h
  ·cases x<;>first | (simp [isConst] at h;done) | (cases op<;>simp)
  ·cases y<;>first | (simp [isConst] at h;done) | (cases x<;>cases op<;>simp)
 ·refine eqGuard_run ?_ _ _
  split
  ·exact hn ⟨rfl,rfl⟩
  ·exact h1
  ·trivial
theorem eqC_bin {P:Program} {D:Dat} {ρ:Rho} {t:TypeId} {a b:Cell} {r:Bool} {u v:Value} (h:eqC P t a b=some r) (hu:Den D ρ a u) (hv:Den D ρ b v) :
  binOp .eql t u v=(do pure (.bool (← Op.equal t u v)))∧binOp .neq t u v=(do pure (.bool (!(← Op.equal t u v)))):=by
 obtain ⟨h1,h2,_⟩:=eqC_shape h hu hv
 cases u<;>first | exact h1.elim | exact ⟨rfl,rfl⟩
theorem bin_ok (hP:E.P=Γ.P) (hG:E.G=Γ.G) (h:Sat Γ S W D ρ st a w) (hg:GdOk W g a) (hd:d<Γ.N) (hnd:¬ W d) {op:BinOp} {t:TypeId} {x y:Operand}
  (hf:(binM E i g d op t x y).Ev st.get eff) (hvc:∀ p∈eff.vc,p) :
  PureOk Γ S W D ρ st a w g d eff (do eqGuard op t x y (a.eval x) (a.eval y);binOp op t (a.eval x) (a.eval y)):=by
 simp only [binM,ev_bind] at hf
 obtain ⟨u,hu,v,hv,hf⟩:=hf
 have hx:=fun he=>opd_den hG h hg he hu
 have hy:=fun he=>opd_den hG h hg he hv
 split at hf
 ·rename_i k m k' n
  have hx:Exec g a→a.eval x = .int k m:=hx
  have hy:Exec g a→a.eval y = .int k' n:=hy
  have hgd:Exec g a→(eqGuard op t x y (a.eval x) (a.eval y)).run Γ.P w = .ok () w:=fun he=>eqGuard_run (by rw [hx he,hy he];trivial) _ _
  split at hf
  ·refine fin_ok h hg hd hnd hf hvc trivial (fun he hvs => ?_)
   have hn:0≤n:=under_exec (hvs _ (by simp)) hg he
   refine ⟨_,?_,rfl⟩
   simp only [Sem.run_bind,hgd he,Result.andThen_ok]
   rw [hx he,hy he]
   simp only [binOp,Op.shift,if_neg (show ¬ n<0 by omega)]
   rfl
  ·refine fin_ok h hg hd hnd hf hvc trivial (fun he hvs => ?_)
   have hn:0≤n:=under_exec (hvs _ (by simp)) hg he
   refine ⟨_,?_,rfl⟩
   simp only [Sem.run_bind,hgd he,Result.andThen_ok]
   rw [hx he,hy he]
   simp only [binOp,Op.shift,if_neg (show ¬ n<0 by omega)]
   rfl
  ·rename_i h1 h2
   simp only [ev_bind,ev_guard] at hf
   obtain ⟨_,hk,hf⟩:=hf
   have hk:=kEq_eq hk
   subst hk
   refine binI_ok h hg hd hnd hf hvc (fun he => ?_)
   simp only [Sem.run_bind,hgd he,Result.andThen_ok]
   rw [hx he,hy he]
   cases op<;>first | (exact absurd rfl h1) | (exact absurd rfl h2) | (simp [binOp])
 ·rename_i s s'
  have hx:Exec g a→a.eval x = .string ⟨s.toArray⟩:=hx
  have hy:Exec g a→a.eval y = .string ⟨s'.toArray⟩:=hy
  have hgd:Exec g a→(eqGuard op t x y (a.eval x) (a.eval y)).run Γ.P w = .ok () w:=fun he=>eqGuard_run (by rw [hx he,hy he];trivial) _ _
  refine binS_ok h hg hd hnd hf hvc (fun he => ?_)
  simp only [Sem.run_bind,hgd he,Result.andThen_ok]
  rw [hx he,hy he]
  cases op<;>simp [binOp]
 ·rename_i p q
  simp only [ev_bind,ev_guard] at hf
  obtain ⟨_,ht,hf⟩:=hf
  rw [hP] at ht
  obtain ⟨dd,hdd,hq⟩:=tIs_run ht
  have hdd:Γ.P.underlying t=some .bool:=by cases dd<;>simp [isBoolD] at hq;exact hdd
  have hx:Exec g a→a.eval x = .bool p:=hx
  have hy:Exec g a→a.eval y = .bool q:=hy
  have hgd:Exec g a→(eqGuard op t x y (a.eval x) (a.eval y)).run Γ.P w = .ok () w:=fun he=>eqGuard_run (by rw [hx he,hy he];trivial) _ _
  have heq:(Op.equal t (.bool p) (.bool q)).run Γ.P w = .ok (p==q) w:=by
   show (Op.equalIn (9999+1) t (.bool p) (.bool q)).run Γ.P w=_
   generalize 9999=n
   simp [Op.equalIn,under_run hdd]
  split at hf
  ·refine fin_ok h hg hd hnd hf hvc trivial (fun he hvs=>⟨_,?_,rfl⟩)
   simp only [Sem.run_bind,hgd he,Result.andThen_ok]
   rw [hx he,hy he]
   simp only [binOp,Sem.run_bind,heq,Result.andThen_ok,Sem.run_pure]
  ·refine fin_ok h hg hd hnd hf hvc trivial (fun he hvs=>⟨_,?_,rfl⟩)
   simp only [Sem.run_bind,hgd he,Result.andThen_ok]
   rw [hx he,hy he]
   simp only [binOp,Sem.run_bind,heq,Result.andThen_ok,Sem.run_pure]
  ·simp [ev_fail] at hf
 ·rename_i l r
  simp only [ev_bind,ev_guard,ev_opt] at hf
  obtain ⟨_,hgt,b,hb,hf⟩:=hf
  rw [hP] at hgt hb
  have hgt:Go.Program.eqGuardType Γ.P Γ.P.depth t=false:=by
   cases hh:Go.Program.eqGuardType Γ.P Γ.P.depth t with
   | true=>rw [hh] at hgt; cases hgt
   | false=>rfl
  have hgd:Exec g a→(eqGuard op t x y (a.eval x) (a.eval y)).run Γ.P w = .ok () w:=by
   intro he
   obtain ⟨us,e1,_⟩:=hx he
   obtain ⟨vs,e2,_⟩:=hy he
   rw [e1,e2]
   cases op<;>simp [eqGuard,program,Sem.run,hgt]
  have heq:Exec g a→(Op.equal t (a.eval x) (a.eval y)).run Γ.P w = .ok b w:=fun he=>eqV_run 8 t _ _ b _ _ hb (hx he) (hy he) Op.maxDepth (by unfold Op.maxDepth;omega)
  split at hf
  ·refine fin_ok h hg hd hnd hf hvc trivial (fun he hvs=>⟨_,?_,rfl⟩)
   obtain ⟨us,e1,_⟩:=hx he
   obtain ⟨vs,e2,_⟩:=hy he
   have:=heq he
   simp only [Sem.run_bind,hgd he,Result.andThen_ok]
   rw [e1,e2] at this ⊢
   simp only [binOp,Sem.run_bind,this,Result.andThen_ok,Sem.run_pure]
  ·refine fin_ok h hg hd hnd hf hvc trivial (fun he hvs=>⟨_,?_,rfl⟩)
   obtain ⟨us,e1,_⟩:=hx he
   obtain ⟨vs,e2,_⟩:=hy he
   have:=heq he
   simp only [Sem.run_bind,hgd he,Result.andThen_ok]
   rw [e1,e2] at this ⊢
   simp only [binOp,Sem.run_bind,this,Result.andThen_ok,Sem.run_pure]
  ·simp [ev_fail] at hf
 ·rename_i a' b' _ _ _
  simp only [ev_bind,ev_guard,ev_opt] at hf
  obtain ⟨_,hok,r,hr,hf⟩:=hf
  rw [hP] at hr
  have hgd:Exec g a→(eqGuard op t x y (a.eval x) (a.eval y)).run Γ.P w = .ok () w:=by
   intro he
   exact eqC_guard hr hok (hx he) (hy he)
  have heq:Exec g a→(Op.equal t (a.eval x) (a.eval y)).run Γ.P w = .ok r w:=fun he=>eqC_run hr (hx he) (hy he)
  split at hf
  ·refine fin_ok h hg hd hnd hf hvc trivial (fun he hvs=>⟨_,?_,rfl⟩)
   simp only [Sem.run_bind,hgd he,Result.andThen_ok,(eqC_bin hr (hx he) (hy he)).1,heq he,Sem.run_pure]
  ·refine fin_ok h hg hd hnd hf hvc trivial (fun he hvs=>⟨_,?_,rfl⟩)
   simp only [Sem.run_bind,hgd he,Result.andThen_ok,(eqC_bin hr (hx he) (hy he)).2,heq he,Sem.run_pure]
  ·simp [ev_fail] at hf
 ·simp [ev_fail] at hf
theorem un_ok (hP:E.P=Γ.P) (hG:E.G=Γ.G) (h:Sat Γ S W D ρ st a w) (hg:GdOk W g a) (hd:d<Γ.N) (hnd:¬ W d) {op:UnOp} {x:Operand}
  (hf:(unM E i g d op x).Ev st.get eff) (hvc:∀ p∈eff.vc,p):PureOk Γ S W D ρ st a w g d eff (Op.unary op (a.eval x)):=by
 simp only [unM,ev_bind] at hf
 obtain ⟨u,hu,hf⟩:=hf
 have hx:=fun he=>opd_den hG h hg he hu
 split at hf
 ·rename_i b
  have hx:Exec g a→a.eval x = .bool b:=hx
  exact fin_ok h hg hd hnd hf hvc trivial (fun he hvs=>⟨_,by rw [hx he];rfl,rfl⟩)
 ·rename_i k n
  have hx:Exec g a→a.eval x = .int k n:=hx
  exact arith_ok h hg hd hnd hf hvc (fun he=>by rw [hx he];rfl)
 ·rename_i k n
  have hx:Exec g a→a.eval x = .int k n:=hx
  exact fin_ok h hg hd hnd hf hvc trivial (fun he hvs=>⟨_,by rw [hx he];rfl,rfl⟩)
 ·simp [ev_fail] at hf
theorem conv_ok (hP:E.P=Γ.P) (hG:E.G=Γ.G) (h:Sat Γ S W D ρ st a w) (hg:GdOk W g a) (hd:d<Γ.N) (hnd:¬ W d) {s t:TypeId} {x:Operand}
  (hf:(convM E i g d s t x).Ev st.get eff) (hvc:∀ p∈eff.vc,p):PureOk Γ S W D ρ st a w g d eff (convert s t (a.eval x)):=by
 simp only [convM,ev_bind] at hf
 obtain ⟨u,hu,hf⟩:=hf
 rw [hP] at hf
 have hx:=fun he=>opd_den hG h hg he hu
 split at hf
 ·rename_i ds k k' n e1 e2
  have hx:Exec g a→a.eval x = .int k' n:=hx
  exact fin_ok h hg hd hnd hf hvc trivial (fun he hvs=>⟨_,by rw [hx he];simp [convert,under_run e1,under_run e2,Conv.intToInt],rfl⟩)
 ·rename_i ds b e1 e2
  have hx:Exec g a→a.eval x = .string ⟨b.toArray⟩:=hx
  refine fin_ok h hg hd hnd hf hvc trivial (fun he hvs=>⟨.string ⟨b.toArray⟩,?_,rfl⟩)
  rw [hx he]
  simp only [convert,Sem.run_bind,under_run e1,under_run e2,Result.andThen_ok]
  cases ds<;>rfl
 ·simp [ev_fail] at hf
theorem len_ok (hP:E.P=Γ.P) (hG:E.G=Γ.G) (h:Sat Γ S W D ρ st a w) (hg:GdOk W g a) (hd:d<Γ.N) (hnd:¬ W d) {t ty:TypeId} {x:Operand}
  (hf:(lenM E i g d t x).Ev st.get eff) (hvc:∀ p∈eff.vc,p):PureOk Γ S W D ρ st a w g d eff (Builtin.len_ #[t] ty #[a.eval x]):=by
 simp only [lenM,ev_bind] at hf
 obtain ⟨u,hu,hf⟩:=hf
 rw [hP] at hf
 have hx:=fun he=>opd_den hG h hg he hu
 split at hf
 ·rename_i s e1
  have hx:Exec g a→a.eval x = .string ⟨s.toArray⟩:=hx
  exact fin_ok h hg hd hnd hf hvc trivial (fun he hvs=>⟨.int .i64 s.length,by rw [hx he];simp only [Builtin.len_];simp [under_run e1,goInt,size_mk],rfl⟩)
 ·rename_i el sz n f e1
  refine fin_ok h hg hd hnd hf hvc trivial (fun he hvs=>⟨.int .i64 n,?_,rfl⟩)
  obtain ⟨ad,cp,e,_⟩:=hx he
  rw [e];simp [Builtin.len_,under_run e1,goInt]
 ·rename_i el e1
  refine fin_ok h hg hd hnd hf hvc trivial (fun he hvs=>⟨.int .i64 0,?_,rfl⟩)
  have e:a.eval x = .slice none 0 0:=hx he
  rw [e];simp [Builtin.len_,under_run e1,goInt]
 ·rename_i el sz id off n e1
  refine fin_ok h hg hd hnd hf hvc trivial (fun he hvs=>⟨.int .i64 n,?_,rfl⟩)
  rcases (hx he:Den D ρ (.row sz id off n) (a.eval x)) with ⟨o,e,_⟩ | ⟨_,_,hn,ad,_,e⟩
  ·rw [e];simp [Builtin.len_,under_run e1,goInt]
  ·rw [e];simp [Builtin.len_,under_run e1,goInt,hn]
 ·simp [ev_fail] at hf
theorem extract_ok (hG:E.G=Γ.G) (h:Sat Γ S W D ρ st a w) (hg:GdOk W g a) (hd:d<Γ.N) (hnd:¬ W d) {x:Operand} {k:Nat}
  (hf:(extractM E i g d x k).Ev st.get eff) (hvc:∀ p∈eff.vc,p):PureOk Γ S W D ρ st a w g d eff (Instr.extract (a.eval x) k):=by
 unfold extractM at hf
 split at hf
 ·rename_i t
  simp only [ev_bind,ev_rd] at hf
  obtain ⟨kv,hk,hf⟩:=hf
  obtain ⟨tv,rfl,hl⟩:=get_tm hk
  obtain ⟨u,hu,hdn⟩:=h.tm t tv hl
  have hin:=h.idT t tv hl
  cases tv with
  | v y=>simp [ev_fail] at hf
  | cnd _ _ _=>simp [ev_fail] at hf
  | junk=>simp [ev_fail] at hf
  | tup l =>
   simp only [ev_bind,ev_opt] at hf
   obtain ⟨v,hv,hf⟩:=hf
   rw [nth_eq] at hv
   obtain ⟨vs,e,h1,h2⟩:=hdn
   subst e
   obtain ⟨y,hy,hdy⟩:=h2 k v hv
   exact fin_ok h hg hd hnd hf hvc (hin k v hv) (fun he hvs=>⟨y,by rw [tmps_getD hu];simp [Instr.extract,hy],hdy⟩)
 ·simp [ev_fail] at hf
theorem pick_ok (hG:E.G=Γ.G) (h:Sat Γ S W D ρ st a w) (hg:GdOk W g a) (hd:d<Γ.N) (hnd:¬ W d) {c x y:Operand}
  (hf:(pickM E i g d c x y).Ev st.get eff) (hvc:∀ p∈eff.vc,p) :
  PureOk Γ S W D ρ st a w g d eff (do pure (if ← asBool (a.eval c) then a.eval x else a.eval y)):=by
 unfold pickM at hf
 split at hf
 ·rename_i t
  simp only [ev_bind] at hf
  obtain ⟨vc,hvc0,b,hb,g1,hg1,g2,hg2,p,hp,q,hq,bp,hbp,bq,hbq,hf⟩:=hf
  have hb:=bool_ev hb
  have hbp:=bool_ev hbp
  have hbq:=bool_ev hbq
  subst hb hbp hbq
  refine fin_ok h hg hd hnd hf hvc trivial (fun he hvs=>⟨.bool (cond b bp bq),?_,rfl⟩)
  have hc:a.eval (.tmp t) = .bool b:=opd_den hG h hg he hvc0
  have ht:a.tmps[t]?=some (.bool b):=by
   simp only [Act.eval,Array.getD_eq_getD_getElem?] at hc
   cases hh:a.tmps[t]? with
   | none=>simp [hh,undef] at hc
   | some z=>simp [hh] at hc; rw [hc]
  have opd:∀ (ww:Bool) (z:Operand) (bz:Bool) (g':Gd),(gdM 9 t ww).Ev st.get g'→(opdM E (some g') z).Ev st.get (.c (.bool bz))→b=ww→a.eval z = .bool bz:=by
   intro ww z bz g' hg' hz hbw
   subst hbw
   cases z with
   | tmp t2 =>
    have hz':=hz
    simp only [opdM,ev_bind,ev_rd] at hz
    obtain ⟨kv,hk,hz⟩:=hz
    obtain ⟨tv,rfl,hl⟩:=get_tm hk
    obtain ⟨u2,hu2,hd2⟩:=h.tm t2 tv hl
    cases tv with
    | v v=>simp only [ev_ret] at hz; subst hz; rw [tmps_getD hu2]; exact hd2
    | tup l=>simp [ev_fail] at hz
    | junk=>simp [ev_fail] at hz
    | cnd t' w' v =>
     by_cases hWt:W t
     ·obtain ⟨e1,e2,ok⟩:=gdM_ok h 9 t b g' hg' hWt
      exact opd_den hG h (g:=some g') (by intro gd e;cases e;exact ok) (by intro gd e;cases e;rw [e1,e2];exact ht) hz'
     ·generalize (9:Nat)=n9 at hg'
      cases n9 with
      | zero=>simp [gdM,ev_fail] at hg'
      | succ n9 =>
      simp only [gdM,ev_bind,ev_rd] at hg'
      obtain ⟨kv3,hk3,hg'⟩:=hg'
      obtain ⟨tv3,rfl,hl3⟩:=get_tm hk3
      obtain ⟨u3,hu3,hd3⟩:=h.tm t tv3 hl3
      simp only [ev_bind,ev_guard,ev_ret] at hz
      obtain ⟨_,hin,rfl⟩:=hz
      split at hg'
      ·simp only [ev_ret] at hg'
       subst hg'
       have:=inCh_mem hin
       simp only [List.mem_singleton,Prod.mk.injEq] at this
       exact (hWt (this.1▸hd2.1)).elim
      ·rename_i t4 w4 b4 e4
       simp only [KV.tv.injEq] at e4
       subst e4
       simp only [ev_bind,ev_ret] at hg'
       obtain ⟨g0,hg0,rfl⟩:=hg'
       rcases List.mem_cons.1 (inCh_mem hin) with hm | hm
       ·simp only [Prod.mk.injEq] at hm
        exact (hWt (hm.1▸hd2.1)).elim
       ·obtain ⟨e1,e2,ok⟩:=gdM_ok h _ t4 w4 g0 hg0 hd3.1
        have hout:a.tmps[t4]?=some (.bool w4):=by
         by_cases hh:a.tmps[t4]?=some (.bool w4)
         ·exact hh
         ·have:=hd3.2.2 hh
          subst this
          rw [hu3] at ht
          simp [undef] at ht
        rw [tmps_getD hu2]
        exact hd2.2.1 (ok.ch (by rw [e1,e2];exact hout) _ _ hm)
      ·simp [ev_fail] at hg'
   | const v=>simp only [opdM,ev_opt] at hz; exact cstV_den hz D ρ
   | global n =>
    simp only [opdM] at hz
    split at hz
    ·simp [ev_ret] at hz
    ·simp [ev_fail] at hz
   | func f=>simp [opdM,ev_bind,ev_guard,ev_ret] at hz
  rw [hc]
  cases b with
  | true=>simp [asBool,opd true x bp g1 hg1 hp rfl]
  | false=>simp [asBool,opd false y bq g2 hg2 hq rfl]
 ·simp [ev_fail] at hf
theorem move_ok (hG:E.G=Γ.G) (h:Sat Γ S W D ρ st a w) (hg:GdOk W g a) (hd:d<Γ.N) (hnd:¬ W d) {x:Operand}
  (hf:(bind (opdM E g x) fun v=>finM E i g d [] v).Ev st.get eff) (hvc:∀ p∈eff.vc,p):PureOk Γ S W D ρ st a w g d eff (pure (a.eval x)):=by
 simp only [ev_bind] at hf
 obtain ⟨u,hu,hf⟩:=hf
 exact fin_ok h hg hd hnd hf hvc (opd_inS hG h hu) (fun he _=>⟨_,rfl,opd_den hG h hg he hu⟩)
end
end Go.Sv
end
section
namespace Go.Sv
open M
def RelA (D:Dat) (ρ:Rho) (l:List Cell) (us:Array Value):Prop:=us.size=l.length∧∀ (j:Nat) (x:Cell),l[j]?=some x→∃ u,us[j]?=some u∧Den D ρ x u
theorem DenV.cells {D:Dat} {ρ:Rho} {x:V1} {v:Value} (h:DenV D ρ x v):RelA D ρ x.cells v.cells:=by
 cases x with
 | c x =>
  have h:Den D ρ x v:=h
  rw [h.one.cells]
  refine ⟨rfl,fun j y hj => ?_⟩
  cases j with
  | zero=>simp [V1.cells] at hj; subst hj; exact ⟨v,rfl,h⟩
  | succ j=>simp [V1.cells] at hj
 | agg l=>obtain ⟨us,e,h1,h2⟩:=h; subst e; exact ⟨h1,h2⟩
theorem V1.cells_inS {S:Nat→Prop} {x:V1} (h:x.inS S):∀ (j:Nat) (y:Cell),x.cells[j]?=some y→y.inS S:=by
 cases x with
 | c x=>intro j y hj; cases j<;>simp [V1.cells] at hj; subst hj; exact h
 | agg l=>exact h
theorem spliceL_len:∀ (l:List Cell) (n:Nat) (ys:List Cell),(spliceL l n ys).length=l.length
 | l,n,[]=>by unfold spliceL; cases l<;>cases n<;>rfl
 | [],n,_::_=>by unfold spliceL; rfl
 | x::r,0,y::ys=>by simp [spliceL,spliceL_len r 0 ys]
 | x::r,n+1,y::ys=>by simp [spliceL,spliceL_len r n (y::ys)]
theorem spliceL_get:∀ (l:List Cell) (n:Nat) (ys:List Cell) (k:Nat),n+ys.length≤l.length→(spliceL l n ys)[k]?=if n≤k∧k<n+ys.length then ys[k-n]? else l[k]?
 | l,n,[],k,h=>by
  have:spliceL l n []=l:=by unfold spliceL;cases l<;>cases n<;>rfl
  rw [this,if_neg (by simp)]
 | [],n,_::_,k,h=>by simp at h
 | x::r,0,y::ys,k,h=>by
  simp only [spliceL]
  cases k with
  | zero=>simp
  | succ k =>
   simp only [List.getElem?_cons_succ]
   rw [spliceL_get r 0 ys k (by simp at h ⊢;omega)]
   simp only [Nat.zero_le,true_and,Nat.zero_add,List.length_cons,Nat.sub_zero,Nat.add_lt_add_iff_right,List.getElem?_cons_succ]
 | x::r,n+1,y::ys,k,h=>by
  simp only [spliceL]
  cases k with
  | zero=>simp
  | succ k =>
   simp only [List.getElem?_cons_succ]
   rw [spliceL_get r n (y::ys) k (by simp at h ⊢;omega)]
   simp only [Nat.add_le_add_iff_right,Nat.add_sub_add_right]
   congr 1
   simp only [List.length_cons,eq_iff_iff]
   omega
theorem fold_set (off:Nat):∀ (l:List Value) (j:Nat) (cs:Array Value),(∀ k,((l.zipIdx j).foldl (fun cs (p:Value×Nat)=>cs.setIfInBounds (off+p.2) p.1) cs)[k]? =
   if off+j≤k∧k<off+j+l.length∧k<cs.size then l[k-(off+j)]? else cs[k]?)∧((l.zipIdx j).foldl (fun cs (p:Value×Nat)=>cs.setIfInBounds (off+p.2) p.1) cs).size=cs.size
 | [],j,cs=>by simp; intro k h1 h2; omega
 | v::l,j,cs=>by
  simp only [List.zipIdx_cons,List.foldl_cons]
  obtain ⟨h1,h2⟩:=fold_set off l (j+1) (cs.setIfInBounds (off+j) v)
  refine ⟨fun k => ?_,by rw [h2];simp⟩
  rw [h1,Array.getElem?_setIfInBounds]
  simp only [Array.size_setIfInBounds,List.length_cons]
  by_cases e:off+j=k
  ·subst e
   rw [if_neg oM,if_pos rfl]
   by_cases hk:off+j<cs.size
   ·rw [if_pos hk,if_pos ⟨by omega,by omega,hk⟩];simp
   ·rw [if_neg hk,if_neg oM];simp;omega
  ·by_cases hr:off+(j+1)≤k∧k<off+(j+1)+l.length∧k<cs.size
   ·rw [if_pos hr,if_pos ⟨by omega,by omega,hr.2.2⟩]
    have:k-(off+j)=(k-(off+(j+1)))+1:=by omega
    rw [this];simp
   ·rw [if_neg hr,if_neg e,if_neg oM]
section
variable {Γ:Ctx} {S W:Nat→Prop} {D:Dat} {ρ:Rho} {st:St} {a:Act} {w:World} {E:Env} {i d:Nat} {g:OG} {eff:Eff}
theorem parts_den (hG:E.G=Γ.G) (h:Sat Γ S W D ρ st a w) (hg:GdOk W g a) (he:Exec g a) {place:Nat→Option (Nat×Nat)}:∀ {ps:List (Nat×Operand)} {l l':List Cell} {us:Array Value},
  (partsM E g place l ps).Ev st.get l'→RelA D ρ l us→∃ us',Instr.fill place us (ps.map fun p=>(p.1,a.eval p.2))=some us'∧RelA D ρ l' us':=by
 intro ps
 induction ps with
 | nil=>intro l l' us hp hr; simp only [partsM,ev_ret] at hp; subst hp; exact ⟨us,rfl,hr⟩
 | cons p ps ih =>
  obtain ⟨k,x⟩:=p
  intro l l' us hp hr
  simp only [partsM,ev_bind,ev_opt,ev_guard] at hp
  obtain ⟨v,hv,pl,hpl,_,hgd,hp⟩:=hp
  obtain ⟨h1,h2⟩:=bAnd_eq hgd
  have h1:=(beq_eq _ _).1 h1
  have h2:=Nat.le_of_ble_eq_true h2
  rw [len_eq] at h1 h2
  have hd:=(opd_den hG h hg he hv).cells
  simp only [List.map_cons,Instr.fill,hpl]
  have e1:(a.eval x).cells.size=pl.2:=by rw [hd.1,h1]
  rw [if_neg (by rw [hr.1];simp only [e1,bne_self_eq_false,Bool.false_or,decide_eq_true_eq];simp;omega)]
  refine ih hp ?_
  obtain ⟨f1,f2⟩:=fold_set pl.1 (a.eval x).cells.toList 0 us
  have eqf:(a.eval x).cells.zipIdx.foldl (fun cs (p:Value×Nat)=>cs.setIfInBounds (pl.1+p.2) p.1) us=((a.eval x).cells.toList.zipIdx 0).foldl (fun cs (p:Value×Nat)=>cs.setIfInBounds (pl.1+p.2) p.1) us:=by
   rw [← Array.foldl_toList];simp
  have eqf':(a.eval x).cells.zipIdx.foldl (fun cs x_1=>match x_1 with | (c,j)=>cs.setIfInBounds (pl.1+j) c) us=((a.eval x).cells.toList.zipIdx 0).foldl (fun cs (p:Value×Nat)=>cs.setIfInBounds (pl.1+p.2) p.1) us:=eqf
  rw [eqf']
  refine ⟨by rw [f2,hr.1,spliceL_len],fun j y hj => ?_⟩
  rw [spliceL_get _ _ _ _ (by rw [h1];exact h2)] at hj
  rw [f1]
  simp only [Nat.add_zero,Array.length_toList,e1,h1] at hj ⊢
  by_cases hc:pl.1≤j∧j<pl.1+pl.2
  ·rw [if_pos hc] at hj
   rw [if_pos ⟨hc.1,hc.2,by rw [hr.1];omega⟩]
   obtain ⟨u,hu,hdd⟩:=hd.2 _ _ hj
   exact ⟨u,by simpa using hu,hdd⟩
  ·rw [if_neg hc] at hj
   rw [if_neg (fun hh=>hc ⟨hh.1,hh.2.1⟩)]
   exact hr.2 j y hj
theorem parts_inS (hG:E.G=Γ.G) (h:Sat Γ S W D ρ st a w) {place:Nat→Option (Nat×Nat)}:∀ {ps:List (Nat×Operand)} {l l':List Cell},
  (partsM E g place l ps).Ev st.get l'→(∀ (j:Nat) (x:Cell),l[j]?=some x→x.inS S)→l'.length=l.length∧∀ (j:Nat) (x:Cell),l'[j]?=some x→x.inS S:=by
 intro ps
 induction ps with
 | nil=>intro l l' hp hr; simp only [partsM,ev_ret] at hp; subst hp; exact ⟨rfl,hr⟩
 | cons p ps ih =>
  obtain ⟨k,x⟩:=p
  intro l l' hp hr
  simp only [partsM,ev_bind,ev_opt,ev_guard] at hp
  obtain ⟨v,hv,pl,hpl,_,hgd,hp⟩:=hp
  obtain ⟨h1,h2⟩:=bAnd_eq hgd
  have h1:=(beq_eq _ _).1 h1
  have h2:=Nat.le_of_ble_eq_true h2
  rw [len_eq] at h1 h2
  have hd:=V1.cells_inS (opd_inS hG h hv)
  obtain ⟨q1,q2⟩:=ih hp (fun j y hj=>by
   rw [spliceL_get _ _ _ _ (by rw [h1];exact h2)] at hj
   split at hj
   ·exact hd _ _ hj
   ·exact hr _ _ hj)
  exact ⟨by rw [q1,spliceL_len],q2⟩
theorem zero_run {P:Program} {t:TypeId} {z:List Cell} (h:tZero P t=some z) (D:Dat) (ρ:Rho) (w:World):∃ u,(zeroValue t).run P w = .ok u w∧RelA D ρ z u.cells∧∀ (S:Nat→Prop) (j:Nat) (x:Cell),z[j]?=some x→x.inS S:=by
 unfold tZero at h
 cases hi:P.info? t with
 | none=>simp [hi] at h
 | some i =>
  simp only [hi] at h
  cases hz:i.zero with
  | none=>simp [hz] at h
  | some v =>
   simp only [hz] at h
   obtain ⟨h1,h2⟩:=cstL_den h D ρ
   refine ⟨v,by simp [zeroValue,typeInfo,program,Sem.run,hi,hz],⟨by simpa using h1.symm,fun j x hj=>by simpa using h2 j x hj⟩,fun S j x hj=>cstL_inS h S j x hj⟩
theorem mapM_places {P:Program} (w:World):∀ (fs:List Field),allSized P fs=true →
  (fs.mapM (fun (f:Field)=>(do pure (f.offset,← sizeOf f.type):Sem (Nat×Nat)))).run P w = .ok (fs.map fun f=>(f.offset,(tSize P f.type).getD 0)) w:=by
 intro fs
 induction fs with
 | nil=>intro _; rfl
 | cons f r ih =>
  intro h
  simp only [allSized] at h
  cases hs:tSize P f.type with
  | none=>simp [hs] at h
  | some n =>
   simp only [hs] at h
   simp only [List.mapM_cons,Sem.run_bind,tSize_run hs,Result.andThen_ok,Sem.run_pure,ih h,List.map_cons,hs,Option.getD_some]
theorem fieldPl_eq {P:Program}:∀ (fs:List Field),allSized P fs=true→∀ i,fieldPl P fs i=(fs.map fun f=>(f.offset,(tSize P f.type).getD 0))[i]?:=by
 intro fs h i
 unfold fieldPl
 rw [nth_eq]
 simp only [List.getElem?_map]
 cases hf:fs[i]? with
 | none=>rfl
 | some f =>
  have:∀ (fs:List Field),allSized P fs=true→∀ (i:Nat) (f:Field),fs[i]?=some f→∃ n,tSize P f.type=some n:=by
   intro fs
   induction fs with
   | nil=>intro _ i f h; simp at h
   | cons g r ih =>
    intro h i f hf
    simp only [allSized] at h
    cases hs:tSize P g.type with
    | none=>simp [hs] at h
    | some n =>
     simp only [hs] at h
     cases i with
     | zero=>simp at hf; subst hf; exact ⟨n,hs⟩
     | succ i=>simp at hf; exact ih h i f hf
  obtain ⟨n,hn⟩:=this fs h i f hf
  simp [hn]
theorem build_ok (hP:E.P=Γ.P) (hG:E.G=Γ.G) (h:Sat Γ S W D ρ st a w) (hg:GdOk W g a) (hd:d<Γ.N) (hnd:¬ W d) {t:TypeId} {ps:Array (Nat×Operand)}
  (hf:(buildM E i g d t ps.toList).Ev st.get eff) (hvc:∀ p∈eff.vc,p):PureOk Γ S W D ρ st a w g d eff (Instr.build t (ps.map fun (i,x)=>(i,a.eval x))):=by
 simp only [buildM,ev_bind,ev_opt] at hf
 obtain ⟨z,hz,hf⟩:=hf
 rw [hP] at hz hf
 obtain ⟨u,hzr,hzd,hzi⟩:=zero_run hz D ρ w
 split at hf
 ·rename_i fs hu
  simp only [ev_bind,ev_guard] at hf
  obtain ⟨_,hsz,l,hl,hf⟩:=hf
  refine fin_ok h hg hd hnd hf hvc (parts_inS hG h hl (hzi S)).2 (fun he _ => ?_)
  obtain ⟨us',h1,h2⟩:=parts_den hG h hg he hl hzd
  refine ⟨.agg us',?_,us',rfl,h2⟩
  have hm:(Array.mapM (fun (f:Field)=>(do pure (f.offset,← sizeOf f.type):Sem (Nat×Nat))) fs).run Γ.P w = .ok (fs.toList.map fun (f:Field)=>(f.offset,(tSize Γ.P f.type).getD 0)).toArray w:=by
   rw [Array.mapM_eq_mapM_toList]
   simp only [Sem.run_map,mapM_places w fs.toList hsz,Result.andThen_ok]
  have hpl:(fun i=>(fs.toList.map fun (f:Field)=>(f.offset,(tSize Γ.P f.type).getD 0)).toArray[i]?)=fieldPl Γ.P fs.toList:=by
   funext i
   rw [fieldPl_eq fs.toList hsz]
   simp
  simp only [Instr.build,Sem.run_bind,hzr,Result.andThen_ok,under_run hu,hm,hpl,Array.toList_map]
  rw [h1]
  rfl
 ·rename_i n el hu
  simp only [ev_bind,ev_opt] at hf
  obtain ⟨sz,hsz,l,hl,hf⟩:=hf
  refine fin_ok h hg hd hnd hf hvc (parts_inS hG h hl (hzi S)).2 (fun he _ => ?_)
  obtain ⟨us',h1,h2⟩:=parts_den hG h hg he hl hzd
  refine ⟨.agg us',?_,us',rfl,h2⟩
  simp only [Instr.build,Sem.run_bind,hzr,Result.andThen_ok,under_run hu,tSize_run hsz,Array.toList_map]
  rw [h1]
  rfl
 ·simp [ev_fail] at hf
theorem nilChk_ok (hG:E.G=Γ.G) (h:Sat Γ S W D ρ st a w) (hg:GdOk W g a) (hd:d<Γ.N) (hnd:¬ W d) {x:Operand}
  (hf:(nilChkM E i g d x).Ev st.get eff) (hvc:∀ p∈eff.vc,p):PureOk Γ S W D ρ st a w g d eff (pure (a.eval x)) ∧
   (Exec g a→(∃ ad,a.eval x = .pointer (some ad))∨∃ f k c,a.eval x = .func (.func f) k c):=by
 simp only [nilChkM,ev_bind] at hf
 obtain ⟨u,hu,hf⟩:=hf
 have hx:=fun he=>opd_den hG h hg he hu
 have hS:=opd_inS hG h hu
 split at hf
 ·refine ⟨fin_ok h hg hd hnd hf hvc hS (fun he _=>⟨a.eval x,rfl,hx he⟩),fun he => ?_⟩
  have e:=hx he
  simp only [DenV,Den] at e
  exact .inl ⟨_,e⟩
 ·refine ⟨fin_ok h hg hd hnd hf hvc hS (fun he _=>⟨a.eval x,rfl,hx he⟩),fun he => ?_⟩
  obtain ⟨b,o,e,_⟩:=hx he
  exact .inl ⟨_,e⟩
 ·refine ⟨fin_ok h hg hd hnd hf hvc hS (fun he _=>⟨a.eval x,rfl,hx he⟩),fun he => ?_⟩
  have e:=hx he
  simp only [DenV,Den] at e
  exact .inl ⟨_,e⟩
 ·refine ⟨fin_ok h hg hd hnd hf hvc hS (fun he _=>⟨a.eval x,rfl,hx he⟩),fun he => ?_⟩
  obtain ⟨b,e,_⟩:=hx he
  unfold cloV at e
  split at e<;>exact .inr ⟨_,_,_,e⟩
 ·simp [ev_fail] at hf
theorem mkIfc_ok (hP:E.P=Γ.P) (hG:E.G=Γ.G) (h:Sat Γ S W D ρ st a w) (hg:GdOk W g a) (hd:d<Γ.N) (hnd:¬ W d) {t:TypeId} {x:Operand}
  (hf:(mkIfcM E i g d t x).Ev st.get eff) (hvc:∀ p∈eff.vc,p):PureOk Γ S W D ρ st a w g d eff (Instr.makeInterface t (a.eval x)):=by
 simp only [mkIfcM,ev_bind,ev_guard] at hf
 obtain ⟨u,hu,_,hc,hf⟩:=hf
 rw [hP] at hc
 have hx:=fun he=>opd_den hG h hg he hu
 have hS:=opd_inS hG h hu
 have run:(Instr.makeInterface t (a.eval x)).run Γ.P w = .ok (.iface t (a.eval x)) w:=by
  unfold isConc at hc
  cases hu:Γ.P.underlying t with
  | none=>simp [hu] at hc
  | some dd =>
   simp only [hu] at hc
   simp only [Instr.makeInterface,Sem.run_bind,under_run hu,Result.andThen_ok]
   cases dd<;>first | rfl | (simp at hc)
 split at hf
 ·exact fin_ok h hg hd hnd hf hvc hS (fun he _=>⟨_,run,_,rfl,hx he⟩)
 ·rename_i l
  refine fin_ok h hg hd hnd hf hvc ?_ (fun he _=>⟨_,run,_,rfl,?_⟩)
  ·intro j hj
   rw [len_eq] at hj
   simp only [nthD,nth_eq]
   have:l[j]?=some l[j]:=by simp [hj]
   rw [this];exact hS j _ this
  ·obtain ⟨us,e,h1,h2⟩:=hx he
   refine ⟨us,e,by rw [len_eq];exact h1,fun j hj => ?_⟩
   rw [len_eq] at hj
   have:l[j]?=some l[j]:=by simp [hj]
   obtain ⟨y,hy,hdy⟩:=h2 j _ this
   exact ⟨y,hy,by simp only [nthD,nth_eq,this];exact hdy⟩
theorem opds_den (hG:E.G=Γ.G) (h:Sat Γ S W D ρ st a w) (hg:GdOk W g a):∀ {xs:List Operand} {l:List V1},(opdsM E g xs).Ev st.get l →
  (∀ (j:Nat) (v:V1),l[j]?=some v→v.inS S)∧l.length=xs.length∧(Exec g a→∀ (j:Nat) (v:V1),l[j]?=some v→∃ x,xs[j]?=some x∧DenV D ρ v (a.eval x)):=by
 intro xs
 induction xs with
 | nil=>intro l hl; simp only [opdsM,ev_ret] at hl; subst hl; simp
 | cons x xs ih =>
  intro l hl
  simp only [opdsM,ev_bind,ev_ret] at hl
  obtain ⟨v,hv,r,hr,rfl⟩:=hl
  obtain ⟨h1,h2,h3⟩:=ih hr
  refine ⟨fun j y hj => ?_,by simp [h2],fun he j y hj => ?_⟩
  ·cases j with
   | zero=>simp at hj; subst hj; exact opd_inS hG h hv
   | succ j=>simp at hj; exact h1 j y hj
  ·cases j with
   | zero=>simp at hj; subst hj; exact ⟨x,rfl,opd_den hG h hg he hv⟩
   | succ j=>simp at hj ⊢; exact h3 he j y hj
theorem blt_bound (f:Nat):Nat.blt (f+1000000000) 1000000000=false:=by
 cases h:Nat.blt (f+1000000000) 1000000000 with
 | false=>rfl
 | true=>have:=Nat.le_of_ble_eq_true h; omega
theorem mkFn_ok (hG:E.G=Γ.G) (h:Sat Γ S W D ρ st a w) (hg:GdOk W g a) (hd:d<Γ.N) (hnd:¬ W d) {fn:Fn} {first cap:Array Operand}
  (hf:(mkFnM E i g d fn first.toList cap.toList).Ev st.get eff) (hvc:∀ p∈eff.vc,p):PureOk Γ S W D ρ st a w g d eff (Instr.makeFunc fn (first.map a.eval) (cap.map a.eval)):=by
 unfold mkFnM at hf
 split at hf
 ·rename_i f hfi
  simp only [ev_bind,ev_guard] at hf
  obtain ⟨_,hbb,l,hl,hf⟩:=hf
  obtain ⟨h1,h2,h3⟩:=opds_den hG h hg hl
  have hlt:∀ i (hi:i<len l),nth l i=some (l[i]'(by rwa [len_eq] at hi)):=by
   intro i hi;rw [nth_eq];rw [len_eq] at hi;simp [hi]
  refine fin_ok h hg hd hnd hf hvc ?_ (fun he _=>⟨_,rfl,?_⟩)
  ·intro i hi
   simp only [hlt i hi]
   have hv:=h1 i (l[i]'(by rwa [len_eq] at hi)) (by rw [len_eq] at hi;simp [hi])
   generalize l[i]'(by rwa [len_eq] at hi)=v at hv
   cases v with
   | c x=>exact hv
   | agg k =>
    intro j hj
    rw [len_eq] at hj
    simp only [V1.cells,nthD,nth_eq]
    have:k[j]?=some k[j]:=by simp [hj]
    rw [this];exact hv j _ this
  ·have hfe:first=#[]:=by
    cases first with
    | mk l=>simp at hfi; subst hfi; rfl
   subst hfe
   refine ⟨cap.map a.eval,by rw [cloV_of hbb];simp,by simp [len_eq,h2],fun i hi => ?_⟩
   have hi':=hi
   rw [len_eq] at hi'
   obtain ⟨x,hx,hdx⟩:=h3 he i (l[i]) (by simp [hi'])
   refine ⟨a.eval x,by simp at hx;simp [hx],?_⟩
   simp only [hlt i hi]
   generalize l[i]=v at hdx
   cases v with
   | c y=>exact hdx
   | agg k =>
    obtain ⟨us,e,q1,q2⟩:=hdx
    refine ⟨us,e,by rw [len_eq];exact q1,fun j hj => ?_⟩
    rw [len_eq] at hj
    have:k[j]?=some k[j]:=by simp [hj]
    obtain ⟨y,hy,hdy⟩:=q2 j _ this
    exact ⟨y,hy,by simp only [V1.cells,nthD,nth_eq,this];exact hdy⟩
 ·rename_i f
  simp only [ev_bind,ev_guard] at hf
  obtain ⟨_,hcc,l,hl,hf⟩:=hf
  obtain ⟨h1,h2,h3⟩:=opds_den hG h hg hl
  have hlt:∀ i (hi:i<len l),nth l i=some (l[i]'(by rwa [len_eq] at hi)):=by
   intro i hi;rw [nth_eq];rw [len_eq] at hi;simp [hi]
  refine fin_ok h hg hd hnd hf hvc ?_ (fun he _=>⟨_,rfl,?_⟩)
  ·intro i hi
   simp only [hlt i hi]
   have hv:=h1 i (l[i]'(by rwa [len_eq] at hi)) (by rw [len_eq] at hi;simp [hi])
   generalize l[i]'(by rwa [len_eq] at hi)=v at hv
   cases v with
   | c x=>exact hv
   | agg k =>
    intro j hj
    rw [len_eq] at hj
    simp only [V1.cells,nthD,nth_eq]
    have:k[j]?=some k[j]:=by simp [hj]
    rw [this];exact hv j _ this
  ·have hfe:cap=#[]:=by
    cases cap with
    | mk l=>cases l with
     | nil=>rfl
     | cons x r=>cases hcc
   subst hfe
   refine ⟨first.map a.eval,by rw [cloV_bound (blt_bound _)];simp,by simp [len_eq,h2],fun i hi => ?_⟩
   have hi':=hi
   rw [len_eq] at hi'
   obtain ⟨x,hx,hdx⟩:=h3 he i (l[i]) (by simp [hi'])
   refine ⟨a.eval x,by simp at hx;simp [hx],?_⟩
   simp only [hlt i hi]
   generalize l[i]=v at hdx
   cases v with
   | c y=>exact hdx
   | agg k =>
    obtain ⟨us,e,q1,q2⟩:=hdx
    refine ⟨us,e,by rw [len_eq];exact q1,fun j hj => ?_⟩
    rw [len_eq] at hj
    have:k[j]?=some k[j]:=by simp [hj]
    obtain ⟨y,hy,hdy⟩:=q2 j _ this
    exact ⟨y,hy,by simp only [V1.cells,nthD,nth_eq,this];exact hdy⟩
 ·simp [ev_fail] at hf
theorem optInt_ev {lo:Option Operand} {l:Option Int} (hG:E.G=Γ.G) (h:Sat Γ S W D ρ st a w) (hg:GdOk W g a)
  (hl:(optIM E g lo).Ev st.get l) (he:Exec g a) :
  (lo.map a.eval=none∧l=none)∨∃ k m,lo.map a.eval=some (.int k m)∧l=some m:=by
 cases lo with
 | none=>simp only [optIM,ev_ret] at hl; exact .inl ⟨rfl,hl.symm⟩
 | some o =>
  simp only [optIM,ev_bind,ev_ret] at hl
  obtain ⟨v,hv,n,hn,rfl⟩:=hl
  have hn:=int_ev hn
  subst hn
  have e:a.eval o = .int n.1 n.2:=opd_den hG h hg he hv
  exact .inr ⟨n.1,n.2,by simp [e],rfl⟩
theorem bounds_run {P:Program} {w:World} {lo hi:Option Value} {l h:Option Int} {isS:Bool} {n cp:Nat}
  (hl:(lo=none∧l=none)∨∃ k m,lo=some (.int k m)∧l=some m) (hh:(hi=none∧h=none)∨∃ k m,hi=some (.int k m)∧h=some m)
  (hb:0≤loI l∧loI l≤hiI n h∧hiI n h≤(n:Int)) (hcp:n≤cp) :
  (Instr.sliceBounds isS n cp lo hi none).run P w = .ok ((loI l).toNat,(hiI n h).toNat,cp) w:=by
 obtain ⟨h0,h1,h2⟩:=hb
 rcases hl with ⟨rfl,rfl⟩ | ⟨k,m,rfl,rfl⟩<;>rcases hh with ⟨rfl,rfl⟩ | ⟨k',m',rfl,rfl⟩<;>simp only [loI,hiI] at h0 h1 h2 ⊢
 ·simp [Instr.sliceBounds]
 ·simp only [Instr.sliceBounds,Instr.sliceBound,asIntOf,Sem.run_bind,Sem.run_pure,Result.andThen_ok]
  rw [Sem.run_ite,if_pos oM]
  simp
 ·simp only [Instr.sliceBounds,Instr.sliceBound,asIntOf,Sem.run_bind,Sem.run_pure,Result.andThen_ok]
  rw [Sem.run_ite,if_pos oM]
  simp
 ·simp only [Instr.sliceBounds,Instr.sliceBound,asIntOf,Sem.run_bind,Sem.run_pure,Result.andThen_ok]
  rw [Sem.run_ite,if_pos oM]
  simp only [Sem.run_pure,Result.andThen_ok]
  rw [Sem.run_ite,if_pos oM]
  simp
theorem bounds_runC {P:Program} {w:World} {lo hi:Option Value} {l h:Option Int} {isS:Bool} {n cp:Nat}
  (hl:(lo=none∧l=none)∨∃ k m,lo=some (.int k m)∧l=some m) (hh:(hi=none∧h=none)∨∃ k m,hi=some (.int k m)∧h=some m)
  (hb:0≤loI l∧loI l≤hiI n h∧hiI n h≤(cp:Int)) :
  (Instr.sliceBounds isS n cp lo hi none).run P w = .ok ((loI l).toNat,(hiI n h).toNat,cp) w:=by
 obtain ⟨h0,h1,h2⟩:=hb
 rcases hl with ⟨rfl,rfl⟩ | ⟨k,m,rfl,rfl⟩<;>rcases hh with ⟨rfl,rfl⟩ | ⟨k',m',rfl,rfl⟩<;>simp only [loI,hiI] at h0 h1 h2 ⊢
 ·simp [Instr.sliceBounds]
 ·simp only [Instr.sliceBounds,Instr.sliceBound,asIntOf,Sem.run_bind,Sem.run_pure,Result.andThen_ok]
  rw [Sem.run_ite,if_pos oM]
  simp
 ·simp only [Instr.sliceBounds,Instr.sliceBound,asIntOf,Sem.run_bind,Sem.run_pure,Result.andThen_ok]
  rw [Sem.run_ite,if_pos oM]
  simp
 ·simp only [Instr.sliceBounds,Instr.sliceBound,asIntOf,Sem.run_bind,Sem.run_pure,Result.andThen_ok]
  rw [Sem.run_ite,if_pos oM]
  simp only [Sem.run_pure,Result.andThen_ok]
  rw [Sem.run_ite,if_pos oM]
  simp
theorem bounds_run3 {P:Program} {w:World} {lo hi mx:Option Value} {l h m:Option Int} {isS:Bool} {n cp:Nat}
  (hl:(lo=none∧l=none)∨∃ k m,lo=some (.int k m)∧l=some m) (hh:∃ k m,hi=some (.int k m)∧h=some m) (hm:∃ k v,mx=some (.int k v)∧m=some v)
  (hb:0≤loI l∧loI l≤hiI n h∧hiI n h≤loI m∧loI m≤(n:Int)) (hcp:n≤cp) :
  (Instr.sliceBounds isS n cp lo hi mx).run P w = .ok ((loI l).toNat,(hiI n h).toNat,(loI m).toNat) w:=by
 obtain ⟨h0,h1,h2,h3⟩:=hb
 obtain ⟨k2,v2,rfl,rfl⟩:=hh
 obtain ⟨k3,v3,rfl,rfl⟩:=hm
 rcases hl with ⟨rfl,rfl⟩ | ⟨k,v,rfl,rfl⟩<;>simp only [loI,hiI] at h0 h1 h2 h3 ⊢
 ·simp only [Instr.sliceBounds,Instr.sliceBound,asIntOf,Sem.run_bind,Sem.run_pure,Result.andThen_ok]
  rw [Sem.run_ite,if_pos oM]
  simp only [Sem.run_pure,Result.andThen_ok]
  rw [Sem.run_ite,if_pos oM]
  simp
 ·simp only [Instr.sliceBounds,Instr.sliceBound,asIntOf,Sem.run_bind,Sem.run_pure,Result.andThen_ok]
  rw [Sem.run_ite,if_pos oM]
  simp only [Sem.run_pure,Result.andThen_ok]
  rw [Sem.run_ite,if_pos oM]
  simp only [Sem.run_pure,Result.andThen_ok]
  rw [Sem.run_ite,if_pos oM]
  simp
theorem arr_ev {id k:Nat} (h:(arrM id).Ev st.get k):∃ e cs,look st.hp id=some (.box e cs)∧cs.length=k:=by
 simp only [arrM,ev_bind,ev_rd] at h
 obtain ⟨kv,hk,hl⟩:=h
 obtain ⟨c,rfl,hb⟩:=get_bk hk
 cases c with
 | box e cs=>simp only [ev_ret] at hl; subst hl; exact ⟨e,cs,hb,(len_eq cs).symm⟩
 | row e sz n f=>simp [ev_fail] at hl
 | ob o=>simp [ev_fail] at hl
theorem slice_ok (hP:E.P=Γ.P) (hG:E.G=Γ.G) (h:Sat Γ S W D ρ st a w) (hg:GdOk W g a) (hd:d<Γ.N) (hnd:¬ W d) {t:TypeId} {x:Operand} {lo hi mx:Option Operand}
  (hf:(sliceM E i g d t x lo hi mx).Ev st.get eff) (hvc:∀ p∈eff.vc,p):PureOk Γ S W D ρ st a w g d eff (Instr.sliceAt t (a.eval x) (lo.map a.eval) (hi.map a.eval) (mx.map a.eval)):=by
 simp only [sliceM,ev_bind] at hf
 obtain ⟨u,hu,l,hl,hh,hhh,hf⟩:=hf
 have hx:=fun he=>opd_den hG h hg he hu
 have hS:=opd_inS hG h hu
 have bl:=fun he=>optInt_ev hG h hg hl he
 have bh:=fun he=>optInt_ev hG h hg hhh he
 rw [hP] at hf
 cases mx with
 | some mo =>
  cases hi with
  | none=>simp [ev_fail] at hf
  | some hio =>
  simp only [ev_bind] at hf
  obtain ⟨mv,hmv,hf⟩:=hf
  have bm:=fun he=>optInt_ev hG h hg hmv he
  split at hf
  ·rename_i el sz n f hu2
   simp only [ev_bind,ev_opt,ev_guard] at hf
   obtain ⟨z,hz,_,hzs,hf⟩:=hf
   have hzs:=(beq_eq _ _).1 hzs
   subst hzs
   refine fin_ok h hg hd hnd hf hvc trivial (fun he hvs => ?_)
   have hb:=under_exec (hvs _ (List.mem_singleton.2 rfl)) hg he
   obtain ⟨ad,cp,e,h1,h2,h3⟩:=hx he
   have bh':=(bh he).resolve_left (fun hh=>by cases hh.1)
   have bm':=(bm he).resolve_left (fun hh=>by cases hh.1)
   have hr:=bounds_run3 (P:=Γ.P) (w:=w) (isS:=true) (n:=n) (cp:=cp) (bl he) bh' bm' hb h1
   have hM3:(loI mv).toNat≤n:=by omega
   have hH3:(hiI n hh).toNat≤(loI mv).toNat:=by omega
   have hL3:(loI l).toNat≤(hiI n hh).toNat:=by omega
   generalize hL:(loI l).toNat=L at hr hL3 ⊢
   generalize hH:(hiI n hh).toNat=H at hr hL3 hH3 ⊢
   generalize hMM:(loI mv).toNat=Mx at hr hH3 hM3 ⊢
   refine ⟨.slice (if Mx=L then ad else ad.map (·.add (L*z))) (H-L) (Mx-L),?_,_,_,rfl,by omega,by omega,?_⟩
   ·simp only [Instr.sliceAt,Sem.run_bind,under_run hu2,Result.andThen_ok,Instr.slice,e,Option.map_some,Option.isSome_some,Bool.false_eq_true,if_false,Sem.run_pure]
    simp only [Option.map_some] at hr
    simp only [hr,Result.andThen_ok,Sem.run_pure,tSize_run hz]
   ·rcases h3 with h3 | ⟨b,o,rfl,h3⟩
    ·left;omega
    ·right
     split
     ·exact ⟨b,o,rfl,fun i hi=>by omega⟩
     ·refine ⟨b,o+L*z,by simp [addr_add],fun i hi j hj => ?_⟩
      obtain ⟨u,hu,hdd⟩:=h3 (L+i) oM j hj
      exact ⟨u,by rw [← hu,Nat.add_mul,Nat.add_assoc o],hdd⟩
  ·rename_i n el k f hu2
   simp only [ev_bind,ev_opt,ev_guard] at hf
   obtain ⟨z,hz,_,hzs,hf⟩:=hf
   obtain ⟨hz1,hz2⟩:=bAnd_eq hzs
   have hz1:=Nat.le_of_ble_eq_true hz1
   have hz2:=Nat.le_of_ble_eq_true hz2
   refine fin_ok h hg hd hnd hf hvc trivial (fun he hvs => ?_)
   have hb:=under_exec (hvs _ (List.mem_singleton.2 rfl)) hg he
   obtain ⟨b,o,e,h3⟩:=hx he
   have bh':=(bh he).resolve_left (fun hh=>by cases hh.1)
   have bm':=(bm he).resolve_left (fun hh=>by cases hh.1)
   have hr:=bounds_run3 (P:=Γ.P) (w:=w) (isS:=false) (n:=n) (cp:=n) (bl he) bh' bm' hb (Nat.le_refl _)
   have hM3:(loI mv).toNat≤n:=by omega
   have hH3:(hiI n hh).toNat≤(loI mv).toNat:=by omega
   have hL3:(loI l).toNat≤(hiI n hh).toNat:=by omega
   generalize hL:(loI l).toNat=L at hr hL3 ⊢
   generalize hH:(hiI n hh).toNat=H at hr hL3 hH3 ⊢
   generalize hMM:(loI mv).toNat=Mx at hr hH3 hM3 ⊢
   refine ⟨.slice (some (if Mx=L then ⟨b,o,none⟩ else Addr.add ⟨b,o,none⟩ (L*z))) (H-L) (Mx-L),?_,_,_,rfl,by omega,by unfold maxLen;omega,.inr ?_⟩
   ·simp only [Instr.sliceAt,Sem.run_bind,under_run hu2,Result.andThen_ok,Instr.sureAddr,e,Option.map_some,Sem.run_pure]
    simp only [Option.map_some] at hr
    simp only [hr,Result.andThen_ok,Sem.run_pure,tSize_run hz]
   ·split
    ·exact ⟨b,o,rfl,fun i hi=>by omega⟩
    ·refine ⟨b,o+L*z,by simp [addr_add],fun i hi j hj => ?_⟩
     have hlt:(L+i)*z+j<n*z:=by
      have:(L+i+1)*z≤n*z:=Nat.mul_le_mul_right _ oM
      rw [Nat.add_mul] at this
      omega
     obtain ⟨u,hu,hdd⟩:=h3 ((L+i)*z+j) oM
     exact ⟨u,by rw [← hu,Nat.add_mul];congr 1;omega,hdd⟩
  ·rename_i el sz id off n hu2
   simp only [ev_bind,ev_opt,ev_guard,ev_ret] at hf
   obtain ⟨z,hz,_,hzs,rfl⟩:=hf
   have hzs:=(beq_eq _ _).1 hzs
   subst hzs
   refine ⟨fun he => ?_,fun _=>h.put hd hnd (fun t ht => .inl ht) (v := .junk) trivial trivial⟩
   have hb:=under_exec (hvc _ (List.mem_singleton.2 rfl)) hg he
   have bh':=(bh he).resolve_left (fun hh=>by cases hh.1)
   have bm':=(bm he).resolve_left (fun hh=>by cases hh.1)
   have hval:∃ ad cp,a.eval x = .slice ad n cp∧n≤cp:=by
    rcases (hx he:Den D ρ (.row z id off n) (a.eval x)) with ⟨o,e,h1,h2⟩ | ⟨z1,z2,z3,ad,hsp,e⟩
    ·exact ⟨_,_,e,by omega⟩
    ·exact ⟨ad,0,by rw [e,z3],by omega⟩
   obtain ⟨ad,cp,e,h1⟩:=hval
   have hr:=bounds_run3 (P:=Γ.P) (w:=w) (isS:=true) (n:=n) (cp:=cp) (bl he) bh' bm' hb h1
   refine ⟨.slice (if (loI mv).toNat=(loI l).toNat then ad else ad.map (·.add ((loI l).toNat*z))) ((hiI n hh).toNat-(loI l).toNat) ((loI mv).toNat-(loI l).toNat),?_,h.put hd hnd (fun t ht => .inl ht) (v := .junk) trivial trivial⟩
   simp only [Instr.sliceAt,Sem.run_bind,under_run hu2,Result.andThen_ok,Instr.slice,e,Option.map_some,Option.isSome_some,Bool.false_eq_true,if_false,Sem.run_pure]
   simp only [Option.map_some] at hr
   simp only [hr,Result.andThen_ok,Sem.run_pure,tSize_run hz]
  ·simp [ev_fail] at hf
 | none =>
 simp only at hf
 split at hf
 ·rename_i s hu2
  refine fin_ok h hg hd hnd hf hvc trivial (fun he hvs => ?_)
  have hb:=under_exec (hvs _ (List.mem_singleton.2 rfl)) hg he
  have e:a.eval x = .string ⟨s.toArray⟩:=hx he
  have hr:=bounds_run (P:=Γ.P) (w:=w) (isS:=false) (n:=s.length) (cp:=s.length) (bl he) (bh he) hb (Nat.le_refl _)
  refine ⟨_,?_,rfl⟩
  simp only [Instr.sliceAt,Sem.run_bind,under_run hu2,Result.andThen_ok,Instr.slice,e,Option.map_none,size_mk,Option.isSome_none,Bool.false_eq_true,if_false,Sem.run_pure]
  simp only [hr,Result.andThen_ok,Sem.run_pure]
  congr 2
  apply ByteArray.ext
  simp only [ByteArray.data_extract]
  apply Array.ext'
  simp [List.extract_eq_take_drop,List.drop_take]
 ·rename_i el sz n f hu2
  simp only [ev_bind,ev_opt,ev_guard] at hf
  obtain ⟨z,hz,_,hzs,hf⟩:=hf
  have hzs:=(beq_eq _ _).1 hzs
  subst hzs
  refine fin_ok h hg hd hnd hf hvc trivial (fun he hvs => ?_)
  have hb:=under_exec (hvs _ (List.mem_singleton.2 rfl)) hg he
  obtain ⟨ad,cp,e,h1,h2,h3⟩:=hx he
  have hr:=bounds_run (P:=Γ.P) (w:=w) (isS:=true) (n:=n) (cp:=cp) (bl he) (bh he) hb h1
  generalize hL:(loI l).toNat=L at hr ⊢
  generalize hH:(hiI n hh).toNat=H at hr ⊢
  refine ⟨.slice (if cp=L then ad else ad.map (·.add (L*z))) (H-L) (cp-L),?_,_,_,rfl,by omega,by omega,?_⟩
  ·simp only [Instr.sliceAt,Sem.run_bind,under_run hu2,Result.andThen_ok,Instr.slice,e,Option.map_none,Option.isSome_none,Bool.false_eq_true,if_false,Sem.run_pure]
   simp only [hr,Result.andThen_ok,Sem.run_pure,tSize_run hz]
  ·rcases h3 with h3 | ⟨b,o,rfl,h3⟩
   ·left;omega
   ·right
    split
    ·exact ⟨b,o,rfl,fun i hi=>by omega⟩
    ·refine ⟨b,o+L*z,by simp [addr_add],fun i hi j hj => ?_⟩
     obtain ⟨u,hu,hdd⟩:=h3 (L+i) oM j hj
     exact ⟨u,by rw [← hu,Nat.add_mul,Nat.add_assoc o],hdd⟩
 ·rename_i el sz id off n hu2
  simp only [ev_bind,ev_opt,ev_guard] at hf
  obtain ⟨z,hz,_,hzs,hf⟩:=hf
  have hzs:=(beq_eq _ _).1 hzs
  subst hzs
  have key:∃ vc,(finM E i g d vc (.c (.row z id (off+(loI l).toNat) ((hiI n hh).toNat-(loI l).toNat)))).Ev st.get eff∧(Exec g a→(∀ p∈vc,p)→0≤loI l∧loI l≤hiI n hh∧(hiI n hh≤(n:Int)∨(off:Int)+hiI n hh≤((ρ id).2:Int))):=by
   split at hf
   ·refine ⟨_,hf,fun he hvs => ?_⟩
    have hb:=under_exec (hvs _ (List.mem_singleton.2 rfl)) hg he
    exact ⟨hb.1,hb.2.1,.inl hb.2.2⟩
   ·simp only [ev_bind] at hf
    obtain ⟨r,hr,hf⟩:=hf
    refine ⟨_,hf,fun he hvs => ?_⟩
    have hb:=under_exec (hvs _ (List.mem_singleton.2 rfl)) hg he
    refine ⟨hb.1,hb.2.1,.inr ?_⟩
    have hbb:=hb.2.2
    rcases h.hp id _ (row_ev hr) with ⟨q1,q2,_⟩ | ⟨vs,fz,q1,q2,q3,q4,_⟩
    ·omega
    ·omega
  obtain ⟨vc0,hf,hkey⟩:=key
  refine fin_ok h hg hd hnd hf hvc hS (fun he hvs => ?_)
  obtain ⟨hb1,hb2,hb3⟩:=hkey he hvs
  rcases (hx he:Den D ρ (.row z id off n) (a.eval x)) with ⟨o,e,h1,h2⟩ | ⟨z1,z2,z3,ad,hsp,e⟩
  rotate_left
  ·subst z2 z3
   have hr:=bounds_runC (P:=Γ.P) (w:=w) (isS:=true) (n:=0) (cp:=0) (bl he) (bh he) ⟨hb1,hb2,by omega⟩
   have hL:(loI l).toNat=0:=by omega
   have hH:(hiI 0 hh).toNat=0:=by omega
   rw [hL,hH] at hr ⊢
   refine ⟨.slice ad 0 0,?_,.inr ⟨z1,by simp,by simp,ad,hsp,rfl⟩⟩
   simp only [Instr.sliceAt,Sem.run_bind,under_run hu2,Result.andThen_ok,Instr.slice,e,Option.map_none,Option.isSome_none,Bool.false_eq_true,if_false,Sem.run_pure]
   simp only [hr,Result.andThen_ok,Sem.run_pure,tSize_run hz,if_true]
  have hr:=bounds_runC (P:=Γ.P) (w:=w) (isS:=true) (n:=n) (cp:=(ρ id).2-off) (bl he) (bh he) ⟨hb1,hb2,by omega⟩
  generalize hL:(loI l).toNat=L at hr ⊢
  generalize hH:(hiI n hh).toNat=H at hr ⊢
  refine ⟨.slice (if (ρ id).2-off=L then some ⟨(ρ id).1,o,none⟩ else some ⟨(ρ id).1,o+L*z,none⟩) (H-L) ((ρ id).2-off-L),?_,?_⟩
  ·simp only [Instr.sliceAt,Sem.run_bind,under_run hu2,Result.andThen_ok,Instr.slice,e,Option.map_none,Option.isSome_none,Bool.false_eq_true,if_false,Sem.run_pure]
   simp only [hr,Result.andThen_ok,Sem.run_pure,tSize_run hz,Option.map_some,addr_add]
  ·left
   split
   ·exact ⟨o,by rw [Nat.sub_sub],by omega,.inr oM⟩
   ·refine ⟨o+L*z,by rw [Nat.sub_sub],by omega,?_⟩
    rcases h2 with rfl | h2
    ·left;rw [Nat.add_mul]
    ·right;omega
 ·rename_i n el k f hu2
  simp only [ev_bind,ev_opt,ev_guard] at hf
  obtain ⟨z,hz,_,hzs,hf⟩:=hf
  obtain ⟨hz1,hz2⟩:=bAnd_eq hzs
  have hz1:=Nat.le_of_ble_eq_true hz1
  have hz2:=Nat.le_of_ble_eq_true hz2
  refine fin_ok h hg hd hnd hf hvc trivial (fun he hvs => ?_)
  have hb:=under_exec (hvs _ (List.mem_singleton.2 rfl)) hg he
  obtain ⟨b,o,e,h3⟩:=hx he
  have hr:=bounds_run (P:=Γ.P) (w:=w) (isS:=false) (n:=n) (cp:=n) (bl he) (bh he) hb (Nat.le_refl _)
  have hH3:(hiI n hh).toNat≤n:=by omega
  have hL3:(loI l).toNat≤(hiI n hh).toNat:=by omega
  generalize hL:(loI l).toNat=L at hr hL3 ⊢
  generalize hH:(hiI n hh).toNat=H at hr hL3 hH3 ⊢
  refine ⟨.slice (some (if n=L then ⟨b,o,none⟩ else Addr.add ⟨b,o,none⟩ (L*z))) (H-L) (n-L),?_,_,_,rfl,by omega,by unfold maxLen;omega,.inr ?_⟩
  ·simp only [Instr.sliceAt,Sem.run_bind,under_run hu2,Result.andThen_ok,Instr.sureAddr,e,Option.map_none,Sem.run_pure]
   simp only [hr,Result.andThen_ok,Sem.run_pure,tSize_run hz]
  ·split
   ·exact ⟨b,o,rfl,fun i hi=>by omega⟩
   ·refine ⟨b,o+L*z,by simp [addr_add],fun i hi j hj => ?_⟩
    have hlt:(L+i)*z+j<n*z:=by
     have:(L+i+1)*z≤n*z:=Nat.mul_le_mul_right _ oM
     rw [Nat.add_mul] at this
     omega
    obtain ⟨u,hu,hdd⟩:=h3 ((L+i)*z+j) oM
    exact ⟨u,by rw [← hu,Nat.add_mul];congr 1;omega,hdd⟩
 ·rename_i n el id off hu2
  simp only [ev_bind,ev_opt,ev_guard] at hf
  obtain ⟨z,hz,k,hk,_,hzs,hf⟩:=hf
  obtain ⟨hz0,hzs⟩:=bAnd_eq hzs
  obtain ⟨hz1,hzs⟩:=bAnd_eq hzs
  obtain ⟨hz2,hz3⟩:=bAnd_eq hzs
  have hz0:=(beq_eq _ _).1 hz0
  have hz1:=(beq_eq _ _).1 hz1
  have hz2:=(beq_eq _ _).1 hz2
  have hz3:0<n:=Nat.le_of_ble_eq_true hz3
  subst hz0 hz1 hz2
  refine fin_ok h hg hd hnd hf hvc hS (fun he hvs => ?_)
  have hb:=under_exec (hvs _ (List.mem_singleton.2 rfl)) hg he
  have e:a.eval x = .pointer (some ⟨(ρ id).1,0,none⟩):=hx he
  obtain ⟨be,cs,hbk,hcl⟩:=arr_ev hk
  have hρ:(ρ id).2=k:=by
   obtain ⟨q0,_⟩:=h.hp id _ hbk
   rw [q0,hcl];exact Nat.max_eq_right hz3
  have hr:=bounds_run (P:=Γ.P) (w:=w) (isS:=false) (n:=k) (cp:=k) (bl he) (bh he) hb (Nat.le_refl _)
  have hH3:(hiI k hh).toNat≤k:=by omega
  have hL3:(loI l).toNat≤(hiI k hh).toNat:=by omega
  generalize hL:(loI l).toNat=L at hr hL3 ⊢
  generalize hH:(hiI k hh).toNat=H at hr hL3 hH3 ⊢
  refine ⟨.slice (some (if k=L then ⟨(ρ id).1,0,none⟩ else Addr.add ⟨(ρ id).1,0,none⟩ (L*1))) (H-L) (k-L),?_,.inl ?_⟩
  ·simp only [Instr.sliceAt,Sem.run_bind,under_run hu2,Result.andThen_ok,Instr.sureAddr,e,Option.map_none,Sem.run_pure]
   simp only [hr,Result.andThen_ok,Sem.run_pure,tSize_run hz]
  ·rw [hρ]
   split
   ·exact ⟨0,rfl,by omega,.inr oM⟩
   ·exact ⟨L*1,by simp [addr_add],by omega,.inl rfl⟩
 ·simp [ev_fail] at hf
end
end Go.Sv
end
section
namespace Go.Sv
open M
def sPlus (S:Nat→Prop) (nid:Nat):Nat→Prop:=fun id=>S id∨(nid≤id∧id<nid+16)
def Fresh (S:Nat→Prop) (nid:Nat):Prop:=∀ id,nid≤id→id<nid+16→¬ S id
def rhoSet (ρ:Rho) (id:Nat) (p:Nat×Nat):Rho:=fun i=>if i=id then p else ρ i
theorem heap_of_cell {w:World} {b o:Nat} {v:Value} (h:w.cell? ⟨b,o,none⟩=some v):b<w.heap.size:=by
 simp only [World.cell?] at h
 rcases Nat.lt_or_ge b w.heap.size with hb | hb
 ·exact hb
 ·simp [Array.getElem?_eq_none hb] at h
theorem BlkSat.lt {D:Dat} {ρ:Rho} {id:Nat} {w:World} {b:Blk} (h:BlkSat D ρ id w b) (hl:Live ρ id b):(ρ id).1<w.heap.size:=by
 rcases Nat.lt_or_ge (ρ id).1 w.heap.size with hb | hb
 ·exact hb
 ·cases b with
  | box e cs=>obtain ⟨_,vs,fz,h1,_⟩:=h; simp [Array.getElem?_eq_none hb] at h1
  | row e sz n f =>
   rcases h with h | ⟨vs,fz,h1,_⟩
   ·exact (hl h.1).elim
   ·simp [Array.getElem?_eq_none hb] at h1
  | ob o=>obtain ⟨_,x,h1,_⟩:=h; simp [Array.getElem?_eq_none hb] at h1
theorem BlkSat.dead {D:Dat} {ρ:Rho} {id:Nat} {w w':World} {b:Blk} (h:BlkSat D ρ id w b) (hl:¬ Live ρ id b):BlkSat D ρ id w' b:=by
 cases b with
 | box e cs=>exact (hl (max1_ne h.1)).elim
 | row e sz n f =>
  have h0:(ρ id).2=0:=by
   by_cases h:(ρ id).2=0
   ·exact h
   ·exact (hl h).elim
  rcases h with h | ⟨vs,fz,h1,h2,h3,h4,h5,h6,_⟩
  ·exact .inl h
  ·exact .inl ⟨h0,by omega,h6⟩
 | ob o=>exact (hl h.1).elim
theorem push_old (w:World) (o:Obj) (b:Nat) (h:b<w.heap.size):({ w with heap:=w.heap.push o }:World).heap[b]?=w.heap[b]?:=by
 show (w.heap.push o)[b]?=_
 rw [Array.getElem?_push,if_neg oM]
theorem push_new (w:World) (o:Obj):({ w with heap:=w.heap.push o }:World).heap[w.heap.size]?=some o:=by
 show (w.heap.push o)[_]?=_
 simp
theorem cell_block {w w':World} {b:Nat} (h:w'.heap[b]?=w.heap[b]?) (o:Nat):w'.cell? ⟨b,o,none⟩=w.cell? ⟨b,o,none⟩:=by
 simp only [World.cell?,h]
section
variable {Γ:Ctx} {S W:Nat→Prop} {D:Dat} {ρ:Rho} {st:St} {a:Act} {w:World} {E:Env} {i d nid:Nat} {g:OG} {eff:Eff}
theorem Sat.new (h:Sat Γ S W D ρ st a w) (hf:Fresh S nid) {o:Obj} {n:Nat} {b:Blk}
  (hb:BlkSat D (rhoSet ρ nid (w.heap.size,n)) nid { w with heap:=w.heap.push o } b) (hin:b.inS S) :
  Sat Γ (sPlus S nid) W D (rhoSet ρ nid (w.heap.size,n)) (st.set (.bk nid) (.bk b)) a { w with heap:=w.heap.push o }:=by
 have hnS:¬ S nid:=hf nid (Nat.le_refl _) oM
 have hr:∀ i,S i→ρ i=rhoSet ρ nid (w.heap.size,n) i:=by
  intro i hi;unfold rhoSet;rw [if_neg];rintro rfl;exact hnS hi
 have hlt:∀ i bi,look st.hp i=some bi→Live ρ i bi→(ρ i).1<w.heap.size:=fun i bi hi hl=>(h.hp i bi hi).lt hl
 have hlv:∀ i bi,look st.hp i=some bi→(Live ρ i bi↔Live (rhoSet ρ nid (w.heap.size,n)) i bi):=fun i bi hi=>Live.agr hr (h.idH i bi hi).1
 have hSp:∀ i,S i→sPlus S nid i:=fun i hi => .inl hi
 have hne:∀ i bi,look st.hp i=some bi→i≠nid:=fun i bi hi e=>hnS (e▸(h.idH i bi hi).1)
 have hlook:∀ i,look (st.set (.bk nid) (.bk b)).hp i=if nid=i then some b else look st.hp i:=fun i=>look_put _ _ _ _
 have hrn:rhoSet ρ nid (w.heap.size,n) nid=(w.heap.size,n):=by simp [rhoSet]
 refine { defers:=h.defers,size:=h.size,tm := ?_,hp := ?_,inj := ?_,agree := ?_,sep := ?_,le:=h.le,glob:=h.glob,gl:=h.gl,own := ?_,kin := ?_,newD:=h.newD,frame := ?_,os:=h.os,tape:=h.tape,output:=h.output,grow := ?_,drawn:=h.drawn,idT := ?_,idH := ?_,kinS:=fun i hi=>hSp _ (h.kinS i hi) }
 ·intro t v hv
  obtain ⟨u,hu,hd⟩:=h.tm t v hv
  exact ⟨u,hu,hd.agr hr (h.idT t v hv)⟩
 ·intro id c hc
  rw [hlook] at hc
  by_cases e:nid=id
  ·subst e;rw [if_pos rfl] at hc;simp only [Option.some.injEq] at hc;subst hc;exact hb
  ·rw [if_neg e] at hc
   have:=(h.hp id c hc).agr hr (h.idH id c hc).1 (h.idH id c hc).2
   by_cases hl:Live ρ id c
   ·refine this.world ?_
    rw [← hr id (h.idH id c hc).1]
    exact push_old _ _ _ (hlt id c hc hl)
   ·exact this.dead (fun hh=>hl ((hlv id c hc).2 hh))
 ·intro i j bi bj hi hj li lj hij
  rw [hlook] at hi hj
  by_cases e1:nid=i<;>by_cases e2:nid=j
  ·rw [← e1,← e2]
  ·rw [if_neg e2] at hj
   subst e1
   rw [hrn,← hr j (h.idH j bj hj).1] at hij
   have:=hlt j bj hj ((hlv j bj hj).2 lj)
   omega
  ·rw [if_neg e1] at hi
   subst e2
   rw [hrn,← hr i (h.idH i bi hi).1] at hij
   have:=hlt i bi hi ((hlv i bi hi).2 li)
   omega
  ·rw [if_neg e1] at hi;rw [if_neg e2] at hj
   rw [← hr i (h.idH i bi hi).1,← hr j (h.idH j bj hj).1] at hij
   exact h.inj i j bi bj hi hj ((hlv i bi hi).2 li) ((hlv j bj hj).2 lj) hij
 ·intro b' o' v hv
  have:=h.agree b' o' v hv
  rw [← this]
  exact cell_block (push_old _ _ _ (heap_of_cell this)) o'
 ·intro id c hc lv o'
  rw [hlook] at hc
  by_cases e:nid=id
  ·subst e
   rw [hrn]
   cases hD:D w.heap.size o' with
   | none=>rfl
   | some v=>exact absurd (heap_of_cell (h.agree _ _ _ hD)) (Nat.lt_irrefl _)
  ·rw [if_neg e] at hc
   rw [← hr id (h.idH id c hc).1]
   exact h.sep id c hc ((hlv id c hc).2 lv) o'
 ·intro id c hc lv
  rw [hlook] at hc
  by_cases e:nid=id
  ·subst e;rw [hrn];exact .inl h.grow
  ·rw [if_neg e] at hc
   rw [← hr id (h.idH id c hc).1]
   exact h.own id c hc ((hlv id c hc).2 lv)
 ·intro i hi
  rw [← hr i (h.kinS i hi)]
  exact h.kin i hi
 ·intro b' hb' hk
  rw [push_old _ _ _ (Nat.lt_of_lt_of_le hb' h.grow)]
  exact h.frame b' hb' hk
 ·exact Nat.le_trans h.grow (by simp)
 ·exact fun t v hv=>TV.inS_mono hSp (h.idT t v hv)
 ·intro id c hc
  rw [hlook] at hc
  by_cases e:nid=id
  ·subst e
   rw [if_pos rfl] at hc
   simp only [Option.some.injEq] at hc
   subst hc
   exact ⟨.inr ⟨Nat.le_refl _,by omega⟩,Blk.inS_mono hSp hin⟩
  ·rw [if_neg e] at hc
   exact ⟨hSp _ (h.idH id c hc).1,Blk.inS_mono hSp (h.idH id c hc).2⟩
theorem clear00 (n:Nat):clear (0,0) n:=fun o _ h=>by omega
theorem nth_rel {D:Dat} {ρ:Rho} {l:List Cell} {us:Array Value} (h:RelA D ρ l us) {j:Nat} (hj:j<l.length):∃ u,us[j]?=some u∧Den D ρ (nthD l j) u:=by
 have e:l[j]?=some l[j]:=by simp [hj]
 obtain ⟨u,hu,hd⟩:=h.2 j _ e
 exact ⟨u,hu,by simp only [nthD,nth_eq,e];exact hd⟩
theorem Sat.box (h:Sat Γ S W D ρ st a w) (hf:Fresh S nid) {t:TypeId} {l:List Cell} {us:Array Value} (hr:RelA D ρ l us) (hin:∀ (j:Nat) (x:Cell),l[j]?=some x→x.inS S) :
  Sat Γ (sPlus S nid) W D (rhoSet ρ nid (w.heap.size,Nat.max 1 l.length)) (st.set (.bk nid) (.bk (.box t l))) a { w with heap:=w.heap.push (.cells us t) }:=by
 have hnS:¬ S nid:=hf nid (Nat.le_refl _) oM
 have hrn:rhoSet ρ nid (w.heap.size,Nat.max 1 l.length) nid=(w.heap.size,Nat.max 1 l.length):=by simp [rhoSet]
 refine h.new hf ⟨by rw [hrn],us,(0,0),?_,hr.1,clear00 _,fun j x hj => ?_⟩ hin
 ·rw [hrn];exact push_new _ _
 ·obtain ⟨u,hu,hd⟩:=hr.2 j x hj
  refine ⟨u,hu,Den.agr (Agr.of_inS (S:=S) (fun i hi => ?_) (hin j x hj)) hd⟩
  unfold rhoSet;rw [if_neg];rintro rfl;exact hnS hi
theorem Sat.row (h:Sat Γ S W D ρ st a w) (hf:Fresh S nid) {t:TypeId} {sz n:Nat} {l:List Cell} {us:Array Value} (hr:RelA D ρ l us) (hfl:flats l=true)
  (hlen:l.length=n*sz) (hsz:0<sz) (hmax:n≤maxLen) :
  Sat Γ (sPlus S nid) W D (rhoSet ρ nid (w.heap.size,n)) (st.set (.bk nid) (.bk (.row t sz n (fun i j=>nthD l (i*sz+j))))) a { w with heap:=w.heap.push (.cells us t) }:=by
 have hnS:¬ S nid:=hf nid (Nat.le_refl _) oM
 have hrn:rhoSet ρ nid (w.heap.size,n) nid=(w.heap.size,n):=by simp [rhoSet]
 have hag:∀ i,S i→ρ i=rhoSet ρ nid (w.heap.size,n) i:=by
  intro i hi;unfold rhoSet;rw [if_neg];rintro rfl;exact hnS hi
 have hlt:∀ i,i<n→∀ j,j<sz→i*sz+j<l.length:=by
  intro i hi j hj
  have:(i+1)*sz≤n*sz:=Nat.mul_le_mul_right _ hi
  rw [Nat.add_mul] at this
  omega
 refine h.new hf (.inr ⟨us,(0,0),?_,?_,clear00 _,?_,?_,hsz,?_,fun i hi j hj => ?_⟩) trivial
 ·rw [hrn];exact push_new _ _
 ·rw [hrn,hr.1,hlen]
 ·rw [hrn];exact Nat.le_refl _
 ·rw [hrn];exact hmax
 ·intro j u hu
  have hj:j<l.length:=by
   rw [← hr.1]
   rcases Nat.lt_or_ge j us.size with h | h
   ·exact h
   ·simp [Array.getElem?_eq_none h] at hu
  obtain ⟨u',hu',hd⟩:=nth_rel hr hj
  rw [hu] at hu'
  simp only [Option.some.injEq] at hu'
  subst hu'
  exact hd.one
 ·obtain ⟨u,hu,hd⟩:=nth_rel hr (hlt i hi j hj)
  refine ⟨u,hu,Den.flat ?_ hd⟩
  have e:l[i*sz+j]?=some (l[i*sz+j]'(hlt i hi j hj)):=by simp [hlt i hi j hj]
  simp only [nthD,nth_eq,e]
  exact flats_get hfl e
def EffOk (Γ:Ctx) (S W:Nat→Prop) (st:St) (a:Act) (w:World) (dst:Option Nat) (nid:Nat) (eff:Eff) (sem:Sem Value):Prop :=
 ∃ u w',sem.run Γ.P w = .ok u w'∧SatE Γ (sPlus S nid) (fun t=>W t∨dst=some t) (st.sets eff.wr) (a.put dst u) w'
theorem alloc_ok (hP:E.P=Γ.P) (h:Sat Γ S W D ρ st a w) (hf:Fresh S nid) (hd:d<Γ.N) (hnd:¬ W d) {t:TypeId} {z:List Cell} (hz:tZero E.P t=some z) :
  EffOk Γ S W st a w (some d) nid ⟨[(.bk nid,.bk (.box t z)),(.tm d,.tv (.v (.c (.ptr nid 0))))],[]⟩ (Instr.alloc t true (.tuple #[])):=by
 rw [hP] at hz
 obtain ⟨u,h1,h2,h3⟩:=zero_run hz D ρ w
 refine ⟨.pointer (some ⟨w.heap.size,0,none⟩),{ w with heap:=w.heap.push (.cells u.cells t) },?_,?_⟩
 ·simp only [Instr.alloc,Sem.run_bind,h1,Result.andThen_ok]
  rfl
 ·refine ⟨D,_,(h.box hf (t:=t) h2 (h3 S)).put (W':=fun t=>W t∨some d=some t) hd hnd (fun t ht => .inl ht) ?_ ?_⟩
  ·simp [DenT,DenV,Den,rhoSet]
  ·exact .inr ⟨Nat.le_refl _,by omega⟩
theorem box_ok (hG:E.G=Γ.G) (h:Sat Γ S W D ρ st a w) (hf:Fresh S nid) (hd:d<Γ.N) (hnd:¬ W d) {t:TypeId} {x:Operand} {v:V1} (hv:(opdM E none x).Ev st.get v) :
  EffOk Γ S W st a w (some d) nid ⟨[(.bk nid,.bk (.box t v.cells)),(.tm d,.tv (.v (.c (.ptr nid 0))))],[]⟩ (Instr.box t (a.eval x)):=by
 have hden:=opd_den hG h (g:=none) (by intro gd e;cases e) (by intro gd e;cases e) hv
 refine ⟨.pointer (some ⟨w.heap.size,0,none⟩),{ w with heap:=w.heap.push (.cells (a.eval x).cells t) },rfl,?_⟩
 refine ⟨D,_,(h.box hf (t:=t) hden.cells (V1.cells_inS (opd_inS hG h hv))).put (W':=fun t=>W t∨some d=some t) hd hnd (fun t ht => .inl ht) ?_ ?_⟩
 ·simp [DenT,DenV,Den,rhoSet]
 ·exact .inr ⟨Nat.le_refl _,by omega⟩
theorem repL_len (n:Nat) (l:List Cell):(repL n l).length=n*l.length:=by
 induction n with
 | zero=>simp [repL]
 | succ n ih=>simp only [repL,List.length_append,ih,Nat.add_mul]; omega
theorem repL_get:∀ (n:Nat) (l:List Cell) (k:Nat),k<n*l.length→(repL n l)[k]?=l[k%l.length]?
 | 0,l,k,h=>by simp at h
 | n+1,l,k,h=>by
  simp only [repL]
  rw [List.getElem?_append]
  split
  ·rename_i hk;rw [Nat.mod_eq_of_lt hk]
  ·rename_i hk
   have hk:l.length≤k:=by omega
   rw [repL_get n l _ (by rw [Nat.add_mul] at h;omega),Nat.mod_eq_sub_mod hk]
theorem buildSl_ok (hP:E.P=Γ.P) (hG:E.G=Γ.G) (h:Sat Γ S W D ρ st a w) (hfr:Fresh S nid) (hd:d<Γ.N) (hnd:¬ W d) {t:TypeId} {n:Nat} {ps:Array (Nat×Operand)} {g:OG}
  (hf:(buildSlM E i nid g d t n ps.toList).Ev st.get eff):EffOk Γ S W st a w (some d) nid eff (Instr.buildSlice t n (ps.map fun (i,x)=>(i,a.eval x))):=by
 simp only [buildSlM,ev_bind,ev_opt,ev_guard,ev_ret] at hf
 obtain ⟨_,hg1,el,hel,sz,hsz,z,hz,_,hb,l,hl,_,hfl,rfl⟩:=hf
 have hg0:g=none:=by cases g with
  | none=>rfl
  | some gd=>simp [pure1,ev_fail] at hg1
 subst hg0
 rw [hP] at hel hsz hz
 obtain ⟨hb1,hb⟩:=bAnd_eq hb
 obtain ⟨hb2,hb3⟩:=bAnd_eq hb
 have hb1:0<sz:=Nat.le_of_ble_eq_true hb1
 have hb2:n*sz≤16777216:=Nat.le_of_ble_eq_true hb2
 have hb3:=(beq_eq _ _).1 hb3
 rw [len_eq] at hb3
 have hu:Γ.P.underlying t=some (.slice el):=by
  unfold tElem at hel
  split at hel
  ·rename_i e hh;simp only [Option.some.injEq] at hel;subst hel;exact hh
  ·cases hel
 obtain ⟨u,hzr,hzd,hzi⟩:=zero_run hz D ρ w
 have he:Exec none a:=by intro gd e;cases e
 have hg:GdOk W none a:=by intro gd e;cases e
 have zsz:u.cells.size=sz:=by rw [hzd.1,hb3]
 have hrel:RelA D ρ (repL n z) ((Array.range (n*sz)).map (u.cells[· % u.cells.size]!)):=by
  refine ⟨by simp [repL_len,hb3],fun j x hj => ?_⟩
  have hjl:j<n*z.length:=by
   rw [← repL_len]
   rcases Nat.lt_or_ge j (repL n z).length with h | h
   ·exact h
   ·simp [List.getElem?_eq_none h] at hj
  rw [repL_get _ _ _ hjl] at hj
  obtain ⟨y,hy,hdy⟩:=hzd.2 _ _ hj
  refine ⟨y,?_,hdy⟩
  have hjn:j<n*sz:=by rw [← hb3];exact hjl
  simp only [Array.getElem?_map,Array.getElem?_range,hjn,if_true,Option.map_some,zsz,Option.some.injEq]
  rw [hb3] at hy
  rw [getElem!_def,hy]
 obtain ⟨us',h1,h2⟩:=parts_den hG h hg he hl hrel
 obtain ⟨q1,q2⟩:=parts_inS hG h hl (fun j x hj=>by
  have hjl:j<n*z.length:=by
   rw [← repL_len]
   rcases Nat.lt_or_ge j (repL n z).length with h | h
   ·exact h
   ·simp [List.getElem?_eq_none h] at hj
  rw [repL_get _ _ _ hjl] at hj
  exact hzi S _ _ hj)
 have hlen:l.length=n*sz:=by rw [q1,repL_len,hb3]
 have hn:n≤n*sz:=Nat.le_mul_of_pos_right n hb1
 refine ⟨.slice (some ⟨w.heap.size,0,none⟩) n n,{ w with heap:=w.heap.push (.cells us' el) },?_,?_⟩
 ·simp only [Instr.buildSlice,Sem.run_bind,under_run hu,Result.andThen_ok,tSize_run hsz]
  rw [if_neg oM]
  by_cases hz0:n*sz=0
  ·have hn0:n=0:=by omega
   simp only [hz0,if_true,Sem.run_bind,Sem.run_pure,Result.andThen_ok]
   rw [hz0] at h1
   simp only [Array.toList_map] at h1 ⊢
   rw [show (Array.map (fun x=>(#[]:Array Value)[x%(#[]:Array Value).size]!) (Array.range 0))=Array.map (u.cells[· % u.cells.size]!) (Array.range 0) from by simp,h1]
   rfl
  ·simp only [hz0,if_false,Sem.run_bind,hzr,Sem.run_pure,Result.andThen_ok,Array.toList_map]
   rw [h1]
   rfl
 ·refine ⟨D,_,(h.row hfr (t:=el) h2 hfl hlen hb1 (by unfold maxLen;omega)).put (W':=fun t=>W t∨some d=some t) hd hnd (fun t ht => .inl ht) ?_ ?_⟩
  ·simp only [DenT,DenV,Den]
   refine .inl ⟨0,?_,?_,.inl (by simp)⟩
   ·simp [rhoSet]
   ·simp [rhoSet]
  ·exact .inr ⟨Nat.le_refl _,by omega⟩
end
end Go.Sv
end
section
namespace Go.Sv
open M
structure OneOff (w w':World) (b:Nat) (o:Obj):Prop where
 at_:w'.heap[b]?=some o
 other:∀ k,k≠b→w'.heap[k]?=w.heap[k]?
 size:w'.heap.size=w.heap.size
 os:w'.os=w.os
 tape:w'.tape=w.tape
 output:w'.output=w.output
 drawn:w.drawn≤w'.drawn
theorem Sat.congr {Γ:Ctx} {S W:Nat→Prop} {D:Dat} {ρ:Rho} {st st':St} {a:Act} {w:World} (ht:∀ t,look st'.tm t=look st.tm t) (hh:∀ id,look st'.hp id=look st.hp id)
  (h:Sat Γ S W D ρ st a w):Sat Γ S W D ρ st' a w :=
 { h with
  tm:=fun t v hv=>h.tm t v (by rw [← ht];exact hv)
  hp:=fun id b hb=>h.hp id b (by rw [← hh];exact hb)
  inj:=fun i j bi bj hi hj li lj=>h.inj i j bi bj (by rw [← hh];exact hi) (by rw [← hh];exact hj) li lj
  sep:=fun id b hb=>h.sep id b (by rw [← hh];exact hb)
  own:=fun id b hb=>h.own id b (by rw [← hh];exact hb)
  idT:=fun t v hv=>h.idT t v (by rw [← ht];exact hv)
  idH:=fun id b hb=>h.idH id b (by rw [← hh];exact hb) }
theorem Sat.upd {Γ:Ctx} {S W:Nat→Prop} {D:Dat} {ρ:Rho} {st:St} {a:Act} {w w':World} (h:Sat Γ S W D ρ st a w) {id:Nat} {b b':Blk} {o:Obj} (hb:look st.hp id=some b) (hlv:Live ρ id b)
  (hw:OneOff w w' (ρ id).1 o) (hb':BlkSat D ρ id w' b') (hin:b'.inS S):Sat Γ S W D ρ (st.set (.bk id) (.bk b')) a w':=by
 have hlook:∀ i,look (st.set (.bk id) (.bk b')).hp i=if id=i then some b' else look st.hp i:=fun i=>look_put _ _ _ _
 have key:∀ i c,look (st.set (.bk id) (.bk b')).hp i=some c→Live ρ i c→∃ c0,look st.hp i=some c0∧Live ρ i c0:=by
  intro i c hc lc
  rw [hlook] at hc
  by_cases e:id=i
  ·exact ⟨b,e▸hb,e▸hlv⟩
  ·rw [if_neg e] at hc;exact ⟨c,hc,lc⟩
 refine { h with tm:=h.tm,hp := ?_,inj := ?_,agree := ?_,sep := ?_,own := ?_,frame := ?_,os:=hw.os.trans h.os,tape:=hw.tape.trans h.tape,output:=hw.output.trans h.output,grow:=by rw [hw.size];exact h.grow,drawn:=fun n=>Nat.le_trans (h.drawn n) hw.drawn,idT:=h.idT,idH := ?_ }
 ·intro i c hc
  rw [hlook] at hc
  by_cases e:id=i
  ·subst e;rw [if_pos rfl] at hc;simp only [Option.some.injEq] at hc;subst hc;exact hb'
  ·rw [if_neg e] at hc
   by_cases lc:Live ρ i c
   ·exact (h.hp i c hc).world (hw.other _ (fun e'=>e (h.inj id i b c hb hc hlv lc e'.symm)))
   ·exact (h.hp i c hc).dead lc
 ·intro i j bi bj hi hj li lj hij
  obtain ⟨ci,hi,li⟩:=key i bi hi li
  obtain ⟨cj,hj,lj⟩:=key j bj hj lj
  exact h.inj i j ci cj hi hj li lj hij
 ·intro b' o' v hv
  have hne:b'≠(ρ id).1:=by
   rintro rfl
   rw [h.sep id b hb hlv o'] at hv
   cases hv
  rw [cell_block (hw.other b' hne)]
  exact h.agree b' o' v hv
 ·intro i c hc lc
  obtain ⟨c0,hc0,l0⟩:=key i c hc lc
  exact h.sep i c0 hc0 l0
 ·intro i c hc lc
  obtain ⟨c0,hc0,l0⟩:=key i c hc lc
  exact h.own i c0 hc0 l0
 ·intro b' hlt hk
  have hne:b'≠(ρ id).1:=by
   rintro rfl
   rcases h.own id b hb hlv with h1 | ⟨i,hi,e⟩
   ·omega
   ·exact hk i hi e.1 e.2
  rw [hw.other b' hne]
  exact h.frame b' hlt hk
 ·intro i c hc
  rw [hlook] at hc
  by_cases e:id=i
  ·subst e;rw [if_pos rfl] at hc;simp only [Option.some.injEq] at hc;subst hc;exact ⟨(h.idH id b hb).1,hin⟩
  ·rw [if_neg e] at hc;exact h.idH i c hc
theorem OneOff.trans {w w' w'':World} {b:Nat} {o o':Obj} (h:OneOff w w' b o) (k:OneOff w' w'' b o'):OneOff w w'' b o' :=
 ⟨k.at_,fun i hi=>(k.other i hi).trans (h.other i hi),k.size.trans h.size,k.os.trans h.os,k.tape.trans h.tape,k.output.trans h.output,Nat.le_trans h.drawn k.drawn⟩
theorem setCell_off {w:World} {b o:Nat} {arr:Array Value} {e:TypeId} {fz:Nat×Nat} (h:w.heap[b]?=some (.cells arr e fz)) (v:Value) :
  OneOff w (w.setCell ⟨b,o,none⟩ v) b (.cells (arr.setIfInBounds o v) e fz):=by
 refine ⟨?_,fun k hk => ?_,?_,rfl,rfl,rfl,Nat.le_refl _⟩
 ·simp only [World.setCell,Array.getElem?_modify,if_true,h,Option.map_some,Option.isSome_none,Bool.false_eq_true,if_false]
 ·simp only [World.setCell,Array.getElem?_modify];rw [if_neg (by simpa using Ne.symm hk)]
 ·simp [World.setCell]
theorem store_run {P:Program} {w:World} {b o:Nat} {arr:Array Value} {e:TypeId} {fz:Nat×Nat} (h:w.heap[b]?=some (.cells arr e fz)) (ho:o<arr.size) (hfz:clear fz arr.size) {v:Value} (hv:one v) :
  (store ⟨b,o,none⟩ v).run P w = .ok () (w.setCell ⟨b,o,none⟩ v):=by
 have hc:w.cell? ⟨b,o,none⟩=some arr[o]:=by
  simp [World.cell?,h,ho]
 have hf:w.frozen? ⟨b,o,none⟩=false:=by
  have:=hfz o ho
  simp only [World.frozen?,h]
  simp only [Bool.and_eq_false_iff,decide_eq_false_iff_not]
  omega
 cases v<;>first | exact hv.elim | simp [store,Sem.run,hc,hf]
theorem storeCells_run {P:Program} {b:Nat} {e:TypeId} {fz:Nat×Nat} (o:Nat):∀ (vs:List Value) (i:Nat) (w:World) (arr:Array Value),w.heap[b]?=some (.cells arr e fz)→clear fz arr.size →
  o+i+vs.length≤arr.size→(∀ v∈vs,one v)→∃ w' arr',(storeCells ⟨b,o,none⟩ vs i).run P w = .ok () w'∧OneOff w w' b (.cells arr' e fz)∧arr'.size=arr.size ∧
   ∀ k,arr'[k]?=if o+i≤k∧k<o+i+vs.length then vs[k-(o+i)]? else arr[k]?
 | [],i,w,arr,h,hf,hl,hv=>⟨w,arr,rfl,⟨h,fun _ _=>rfl,rfl,rfl,rfl,rfl,Nat.le_refl _⟩,rfl,fun k=>by simp; intro h1 h2; omega⟩
 | v::vs,i,w,arr,h,hf,hl,hv=>by
  simp only [List.length_cons] at hl
  have h1:=setCell_off (o:=o+i) h v
  obtain ⟨w',arr',r,ho,hs,hk⟩:=storeCells_run (P:=P) o vs (i+1) _ _ h1.at_ (by simpa using hf) sO (fun u hu=>hv u (by simp [hu]))
  refine ⟨w',arr',?_,h1.trans ho,by rw [hs];simp,fun k => ?_⟩
  ·simp only [storeCells,Sem.run_bind,addr_add]
   rw [store_run h oM hf (hv v (by simp))]
   exact r
  ·rw [hk,Array.getElem?_setIfInBounds]
   simp only [List.length_cons]
   by_cases e:o+i=k
   ·subst e
    rw [if_neg oM,if_pos rfl,if_pos oM,if_pos oM];simp
   ·by_cases hr:o+(i+1)≤k∧k<o+(i+1)+vs.length
    ·rw [if_pos hr,if_pos oM]
     have:k-(o+i)=(k-(o+(i+1)))+1:=by omega
     rw [this];simp
    ·rw [if_neg hr,if_neg e,if_neg oM]
section
variable {Γ:Ctx} {S W:Nat→Prop} {D:Dat} {ρ:Rho} {st:St} {a:Act} {w:World} {E:Env} {i d nid:Nat} {g:OG} {eff:Eff}
theorem have_ev {id:Nat}:∀ {n off:Nat},(haveM id off n).Ev st.get ()→0<n→∃ e cs,look st.hp id=some (.box e cs)∧off+n≤cs.length:=by
 intro n
 induction n with
 | zero=>intro off h hn; omega
 | succ n ih =>
  intro off h hn
  simp only [haveM,ev_bind,ev_rd] at h
  obtain ⟨kv,hk,h⟩:=h
  obtain ⟨e,cs,x,hb,hx,_⟩:=get_cl hk
  have hlt:off<cs.length:=by
   rcases Nat.lt_or_ge off cs.length with h | h
   ·exact h
   ·simp [List.getElem?_eq_none h] at hx
  rcases Nat.eq_zero_or_pos n with rfl | hp
  ·exact ⟨e,cs,hb,by omega⟩
  ·obtain ⟨e',cs',hb',hl⟩:=ih h hp
   rw [hb] at hb'
   simp only [Option.some.injEq,Blk.box.injEq] at hb'
   obtain ⟨rfl,rfl⟩:=hb'
   exact ⟨e,cs,hb,by omega⟩
theorem setL_look {id:Nat}:∀ {l:List Cell} {off:Nat} {st:St} {e:TypeId} {cs:List Cell},look st.hp id=some (.box e cs)→off+l.length≤cs.length →
  ∃ cs',(∀ t,look (st.sets (setL id off l)).tm t=look st.tm t)∧(∀ j,look (st.sets (setL id off l)).hp j=if id=j then some (.box e cs') else look st.hp j)∧cs'.length=cs.length ∧
   ∀ k:Nat,cs'[k]?=if off≤k∧k<off+l.length then l[k-off]? else cs[k]?:=by
 intro l
 induction l with
 | nil =>
  intro off st e cs hb hl
  refine ⟨cs,fun t=>rfl,fun j => ?_,rfl,fun k=>by simp;intro h1 h2;omega⟩
  by_cases e':id=j
  ·subst e';rw [if_pos rfl];exact hb
  ·rw [if_neg e'];rfl
 | cons x l ih =>
  intro off st e cs hb hl
  simp only [List.length_cons] at hl
  have hset:st.set (.cl id off) (.cl x)={ st with hp:=put st.hp id (.box e (setNth cs off x)) }:=by simp only [St.set,hb]
  have hb':look (st.set (.cl id off) (.cl x)).hp id=some (.box e (setNth cs off x)):=by rw [hset];simp [look_put]
  obtain ⟨cs',h1,h2,h3,h4⟩:=ih (off:=off+1) hb' (by rw [setNth_eq];simp;omega)
  refine ⟨cs',fun t => ?_,fun j => ?_,by rw [h3,setNth_eq];simp,fun k => ?_⟩
  ·simp only [setL,St.sets]
   rw [h1,hset]
  ·simp only [setL,St.sets]
   rw [h2]
   by_cases e':id=j
   ·rw [if_pos e',if_pos e']
   ·rw [if_neg e',if_neg e',hset];simp [look_put,e']
  ·rw [h4,setNth_eq,List.getElem?_set]
   simp only [List.length_cons]
   by_cases e':off=k
   ·subst e'
    rw [if_neg oM,if_pos rfl,if_pos oM,if_pos oM];simp
   ·by_cases hr:off+1≤k∧k<off+1+l.length
    ·rw [if_pos hr,if_pos oM]
     have:k-off=(k-(off+1))+1:=by omega
     rw [this];simp
    ·rw [if_neg hr,if_neg e',if_neg oM]
theorem rel_one {D:Dat} {ρ:Rho} {l:List Cell} {us:Array Value} (h:RelA D ρ l us):∀ v∈us.toList,one v:=by
 intro v hv
 obtain ⟨j,hj⟩:=List.getElem?_of_mem hv
 have hj':us[j]?=some v:=by simpa using hj
 have hlt:j<l.length:=by
  rw [← h.1]
  rcases Nat.lt_or_ge j us.size with h | h
  ·exact h
  ·simp [Array.getElem?_eq_none h] at hj'
 obtain ⟨u,hu,hd⟩:=nth_rel h hlt
 rw [hj'] at hu
 simp only [Option.some.injEq] at hu
 subst hu
 exact hd.one
theorem store_ok (hP:E.P=Γ.P) (hG:E.G=Γ.G) (h:Sat Γ S W D ρ st a w) {t:TypeId} {x y:Operand} {g:OG}
  (hf:(storeM E i g t x y).Ev st.get eff) (hvc:∀ p∈eff.vc,p) :
  g=none∧∃ w',(Instr.storeAt t (a.eval x) (a.eval y)).run Γ.P w = .ok () w'∧Sat Γ S W D ρ (st.sets eff.wr) a w':=by
 simp only [storeM,ev_bind,ev_opt,ev_guard] at hf
 obtain ⟨_,hg1,v,hv,c,hc,vy,hvy,sz,hsz,_,hlen,hf⟩:=hf
 have hg0:g=none:=by cases g with
  | none=>rfl
  | some gd=>simp [pure1,ev_fail] at hg1
 subst hg0
 refine ⟨rfl,?_⟩
 have he:Exec none a:=by intro gd e;cases e
 have hg:GdOk W none a:=by intro gd e;cases e
 have hc:=cell_ev hc
 subst hc
 rw [hP] at hsz
 have hlen:=(beq_eq _ _).1 hlen
 rw [len_eq] at hlen
 have hy:=(opd_den hG h hg he hvy).cells
 have hyS:=V1.cells_inS (opd_inS hG h hvy)
 have hden:=opd_den hG h hg he hv
 have run:∀ (b o:Nat),a.eval x = .pointer (some ⟨b,o,none⟩)→(Instr.storeAt t (a.eval x) (a.eval y)).run Γ.P w=(storeCells ⟨b,o,none⟩ (a.eval y).cells.toList).run Γ.P w:=by
  intro b o e
  rw [e]
  simp only [Instr.storeAt,Instr.sureAddr,Sem.run_bind,Sem.run_pure,Result.andThen_ok,storeVar,tSize_run hsz]
  rw [if_neg (by rw [hy.1,hlen];simp)]
 cases c with
 | ptr id off =>
  have hden:a.eval x = .pointer (some ⟨(ρ id).1,off,none⟩):=hden
  have hkey:(∃ u,(haveM id off sz).Ev st.get u∧eff=⟨setL id off vy.cells,[]⟩)∨∃ e cs,look st.hp id=some (.box e cs)∧off=0∧cs.length=sz∧eff=⟨[(.bk id,.bk (.box e vy.cells))],[]⟩:=by
   have old:(bind (haveM id off sz) fun _=>ret (⟨setL id off vy.cells,[]⟩:Eff)).Ev st.get eff→∃ u,(haveM id off sz).Ev st.get u∧eff=⟨setL id off vy.cells,[]⟩:=by
    intro ho
    simp only [ev_bind,ev_ret] at ho
    obtain ⟨u,h1,h2⟩:=ho
    exact ⟨u,h1,h2.symm⟩
   simp only [ptrStM] at hf
   split at hf
   ·exact .inl (old hf)
   ·simp only [ev_bind,ev_rd] at hf
    obtain ⟨kv,hk,hf⟩:=hf
    obtain ⟨b,rfl,hb⟩:=get_bk hk
    split at hf
    ·rename_i e cs he
     simp only [KV.bk.injEq] at he
     subst he
     split at hf
     ·rename_i hc
      simp only [ev_ret] at hf
      obtain ⟨h1,h2⟩:=bAnd_eq hc
      have h2:=(beq_eq _ _).1 h2
      rw [len_eq] at h2
      exact .inr ⟨e,cs,hb,(beq_eq _ _).1 h1,h2,hf.symm⟩
     ·exact .inl (old (by simpa only [ev_bind] using hf))
    ·simp [ev_fail] at hf
  rcases hkey with hold | ⟨e,cs,hb,rfl,hcl,rfl⟩
  rotate_left
  ·rw [run _ _ hden]
   obtain ⟨q0,arr,fz,q1,q2,q3,q4⟩:=h.hp id _ hb
   obtain ⟨w',arr',r1,r2,r3,r4⟩:=storeCells_run (P:=Γ.P) 0 (a.eval y).cells.toList 0 w arr q1 q3 (by simp [hy.1,hlen];omega) (rel_one hy)
   refine ⟨w',r1,?_⟩
   simp only [St.sets]
   refine h.upd (b' := .box e vy.cells) hb (max1_ne q0) r2 ⟨by rw [q0,hcl,hlen],arr',fz,r2.at_,by rw [r3,q2,hcl,hlen],by rw [r3];exact q3,fun j x hj => ?_⟩ (fun j x hj=>hyS j x hj)
   obtain ⟨u,hu,hd⟩:=hy.2 _ _ hj
   have hjl:j<vy.cells.length:=by
    rcases Nat.lt_or_ge j vy.cells.length with hh | hh
    ·exact hh
    ·simp [List.getElem?_eq_none hh] at hj
   refine ⟨u,?_,hd⟩
   rw [r4,if_pos ⟨by omega,by simp [hy.1];omega⟩]
   simpa using hu
  obtain ⟨_,hhv,rfl⟩:=hold
  rw [run _ _ hden]
  rcases Nat.eq_zero_or_pos sz with rfl | hpos
  ·have:vy.cells=[]:=List.length_eq_zero_iff.1 hlen
   have h2:(a.eval y).cells.toList=[]:=by
    have:=hy.1
    rw [hlen] at this
    exact List.length_eq_zero_iff.1 (by simpa using this)
   rw [this,h2]
   exact ⟨w,rfl,h⟩
  ·obtain ⟨e,cs,hb,hl⟩:=have_ev hhv hpos
   obtain ⟨q0,arr,fz,q1,q2,q3,q4⟩:=h.hp id _ hb
   obtain ⟨w',arr',r1,r2,r3,r4⟩:=storeCells_run (P:=Γ.P) off (a.eval y).cells.toList 0 w arr q1 q3 (by simp [hy.1,hlen];omega) (rel_one hy)
   refine ⟨w',r1,?_⟩
   obtain ⟨cs',s1,s2,s3,s4⟩:=setL_look (l:=vy.cells) (off:=off) hb (by rw [hlen];exact hl)
   have hin:=(h.idH id _ hb).2
   have hcell:∀ (j:Nat) (x:Cell),cs'[j]?=some x→x.inS S∧∃ u,arr'[j]?=some u∧Den D ρ x u:=by
    intro j x hj
    rw [s4,hlen] at hj
    rw [r4]
    simp only [Nat.add_zero,Array.length_toList,hy.1,hlen]
    by_cases hc:off≤j∧j<off+sz
    ·rw [if_pos hc] at hj
     rw [if_pos hc]
     obtain ⟨u,hu,hd⟩:=hy.2 _ _ hj
     exact ⟨hyS _ _ hj,u,by simpa using hu,hd⟩
    ·rw [if_neg hc] at hj
     rw [if_neg hc]
     exact ⟨hin _ _ hj,q4 _ _ hj⟩
   have hs:=h.upd (b' := .box e cs') hb (max1_ne q0) r2 ⟨by rw [q0,s3],arr',fz,r2.at_,by rw [r3,q2,s3],by rw [r3];exact q3,fun j x hj=>(hcell j x hj).2⟩ (fun j x hj=>(hcell j x hj).1)
   refine hs.congr (fun t=>by rw [s1];rfl) (fun j => ?_)
   rw [s2]
   exact (look_put _ _ _ _).symm
 | rp s id e o =>
  simp only [ev_bind,ev_guard] at hf
  obtain ⟨r,hr,_,hle,hf⟩:=hf
  obtain ⟨hfl,hle⟩:=bAnd_eq hle
  obtain ⟨hle1,hle2⟩:=bAnd_eq hle
  have hle1:=(beq_eq _ _).1 hle1
  have hle2:=Nat.le_of_ble_eq_true hle2
  have hrow:=row_ev hr
  have hden:a.eval x = .pointer (some ⟨(ρ id).1,e*s+o,none⟩):=hden
  rw [run _ _ hden]
  have hrs:=h.hp id _ hrow
  have hkey:e<r.2.2.1∧∃ b',eff.wr=[(.bk id,.bk b')]∧BlkEqv (.row r.1 r.2.1 r.2.2.1 (rowSet r.2.2.2 e o sz vy.cells)) b':=by
   unfold blkM at hf
   cases hl:look E.bs i with
   | none =>
    simp only [hl,ev_ret] at hf
    subst hf
    exact ⟨hvc _ (by simp),_,rfl,BlkEqv.refl _⟩
   | some b' =>
    simp only [hl,ev_ret] at hf
    subst hf
    exact ⟨hvc _ (by simp),b',rfl,hvc _ (by simp)⟩
  obtain ⟨hlt,b',hwr,heq⟩:=hkey
  rw [hwr]
  obtain ⟨arr,fz,e1,e2,e3,e4,e5,e6,e7,e8⟩:=hrs.resolve_left (fun hh=>by have:=hh.2.1;omega)
  have hlv:Live ρ id (.row r.1 r.2.1 r.2.2.1 r.2.2.2):=by show (ρ id).2≠0;omega
  have hbd:e*s+s≤arr.size:=by
   rw [e2,← hle1]
   have:(e+1)*s≤(ρ id).2*s:=Nat.mul_le_mul_right _ oM
   rw [Nat.add_mul] at this
   omega
  obtain ⟨w',arr',r1,r2,r3,r4⟩:=storeCells_run (P:=Γ.P) (e*s+o) (a.eval y).cells.toList 0 w arr e1 e3 (by simp [hy.1,hlen];omega) (rel_one hy)
  refine ⟨w',r1,?_⟩
  simp only [St.sets]
  refine h.upd hrow hlv r2 (heq.1 _ _ _ _ (.inr ⟨arr',fz,r2.at_,by rw [r3];exact e2,by rw [r3];exact e3,e4,e5,e6,?_,?_⟩)) (heq.2 _ trivial)
  ·intro j u hu
   rw [r4] at hu
   split at hu
   ·exact rel_one hy u (List.mem_of_getElem? hu)
   ·exact e7 j u hu
  ·intro k hk j hj
   rw [r4]
   simp only [Nat.add_zero,Array.length_toList,hy.1,hlen]
   rw [← hle1] at hj ⊢
   by_cases hc:k=e∧o≤j∧j<o+sz
   ·obtain ⟨rfl,h1,h2⟩:=hc
    rw [if_pos ⟨by omega,by omega⟩]
    obtain ⟨u,hu,hd⟩:=nth_rel hy (j:=j-o) oM
    refine ⟨u,?_,?_⟩
    ·have:k*s+j-(k*s+o)=j-o:=by omega
     rw [this];simpa using hu
    ·unfold rowSet;rw [if_pos ⟨rfl,h1,h2⟩]
     have hjl:j-o<vy.cells.length:=by omega
     have e':vy.cells[j-o]?=some vy.cells[j-o]:=by simp [hjl]
     refine Den.flat ?_ hd
     simp only [nthD,nth_eq,e']
     exact flats_get hfl e'
   ·have hno:¬ (e*s+o≤k*s+j∧k*s+j<e*s+o+sz):=by
     intro hh
     apply hc
     have hke:k=e:=by
      rcases Nat.lt_trichotomy k e with hlt' | heq' | hgt
      ·have:(k+1)*s≤e*s:=Nat.mul_le_mul_right _ hlt'
       rw [Nat.add_mul] at this
       omega
      ·exact heq'
      ·have:(e+1)*s≤k*s:=Nat.mul_le_mul_right _ hgt
       rw [Nat.add_mul] at this
       omega
     subst hke
     exact ⟨rfl,by omega,by omega⟩
    rw [if_neg hno]
    obtain ⟨u,hu,hd⟩:=e8 k hk j oM
    refine ⟨u,by rw [← hu,← hle1],?_⟩
    unfold rowSet;rw [if_neg hc];exact hd
 | _=>simp [ev_fail] at hf
end
end Go.Sv
end
section
namespace Go.Sv
open M
def ResDen (D:Dat) (ρ:Rho) (rs:List V1) (v:Value):Prop:=match rs with
 | [x]=>DenV D ρ x v
 | rs=>∃ vs:Array Value,v = .tuple vs∧DenL D ρ rs vs
structure After (G:Nat→Option (List Cell)) (kn:Nat) (D:Dat) (ρ:Rho) (w:World) (D':Dat) (ρ':Rho) (w':World) (hout:List (Nat×Blk)):Prop where
 hp:∀ id b,look hout id=some b→BlkSat D' ρ' id w' b
 inj:∀ i j bi bj,look hout i=some bi→look hout j=some bj→Live ρ' i bi→Live ρ' j bj→(ρ' i).1=(ρ' j).1→i=j
 sep:∀ id b,look hout id=some b→Live ρ' id b→∀ o,D' (ρ' id).1 o=none
 agree:Agree D' w'
 le:DatLe D D'
 kin:∀ i,i<kn→ρ' i=ρ i
 own:∀ id b,look hout id=some b→Live ρ' id b→w.heap.size≤(ρ' id).1∨∃ i,i<kn∧(ρ i).2≠0∧(ρ i).1=(ρ' id).1
 newD:∀ b o v,D' b o=some v→D b o=some v∨w.heap.size≤b∨∃ i,i<kn∧(ρ i).2≠0∧(ρ i).1=b
 frame:∀ b,b<w.heap.size→(∀ i,i<kn→(ρ i).2≠0→(ρ i).1≠b)→w'.heap[b]?=w.heap[b]?
 os:w'.os=w.os
 tape:w'.tape=w.tape
 output:w'.output=w.output
 grow:w.heap.size≤w'.heap.size
 drawn:NoBack G→w.drawn≤w'.drawn
 ids:∀ id b,look hout id=some b→b.inS (fun i=>∃ c,look hout i=some c)
def Fn (P:Program) (G:Nat→Option (List Cell)) (f:FuncId) (hin:List Blk) (args:List V1) (R:List V1→List (Nat×Blk)→Prop):Prop :=
 ∀ (D:Dat) (ρ:Rho) (w:World) (vs:Array Value),DenL D ρ args vs→GlobOk G D→GlobW G w→Agree D w →
  (∀ (i:Nat) (b:Blk),hin[i]?=some b→BlkSat D ρ i w b∧(Live ρ i b→∀ o,D (ρ i).1 o=none)) →
  (∀ (i j:Nat) (bi bj:Blk),hin[i]?=some bi→hin[j]?=some bj→Live ρ i bi→Live ρ j bj→(ρ i).1=(ρ j).1→i=j) →
  Calls P f vs w fun e w'=>∃ rs hout D' ρ' v,e = .returned v∧R rs hout∧ResDen D' ρ' rs v∧(∀ (j:Nat) (x:V1),rs[j]?=some x→x.inS (fun i=>∃ c,look hout i=some c))∧After G hin.length D ρ w D' ρ' w' hout
theorem Fn.mono {P:Program} {G:Nat→Option (List Cell)} {f:FuncId} {hin:List Blk} {args:List V1} {R R':List V1→List (Nat×Blk)→Prop} (h:Fn P G f hin args R) (hr:∀ rs ho,R rs ho→R' rs ho):Fn P G f hin args R' :=
 fun D ρ w vs h1 h2 hgw h3 h4 h5=>(h D ρ w vs h1 h2 hgw h3 h4 h5).mono fun e w' ⟨rs,ho,D',ρ',v,q1,q2,q3⟩=>⟨rs,ho,D',ρ',v,q1,hr _ _ q2,q3⟩
def Pur (P:Program) (G:Nat→Option (List Cell)) (f:FuncId) (args rs:List V1):Prop:=Fn P G f [] args (fun r h=>r=rs∧h=[])
structure CallE (P:Program) (G:Nat→Option (List Cell)) where
 f:FuncId
 m:List Nat
 args:List V1
 hin:List Blk
 rs:List V1
 hout:List (Nat×Blk)
 prf:Fn P G f hin args (fun r h=>r=rs∧h=hout)
def pc {P:Program} {G:Nat→Option (List Cell)} {f:FuncId} {args rs:List V1} (h:Pur P G f args rs):CallE P G:=⟨f,[],args,[],rs,[],h⟩
structure Eqs where
 el:List V1
 er:List V1
 bl:List Blk
 br:List Blk
def isGo (P:Program) (f:FuncId):Bool:=match P.funcs[f]? with
 | some fn=>bAnd (match fn.body with | some _=>true | none=>false) (fn.name != "runtime.NumGoroutine")
 | none=>false
def sigIn (m:List Nat) (i:Nat):Nat:=match nth m i with
 | some j=>j
 | none=>i
def sigOut (m:List Nat) (nid:Nat) (i:Nat):Nat:=match nth m i with
 | some j=>j
 | none=>nid+(i-len m)
def notIn (x:Nat):List Nat→Bool
 | []=>true
 | y::r=>match Nat.beq x y with
  | true=>false
  | false=>notIn x r
def nodupB:List Nat→Bool
 | []=>true
 | x::r=>bAnd (notIn x r) (nodupB r)
def blksM:List Nat→M (List Blk)
 | []=>ret []
 | id::r=>bind (rd (.bk id)) fun
  | .bk b=>bind (blksM r) fun l=>ret (b::l)
  | _=>fail
def houtOk (kin:Nat):List (Nat×Blk)→Bool
 | []=>true
 | (id,_)::r=>bAnd (Nat.blt id (kin+16)) (houtOk kin r)
def goneL:List Nat→List (Key×KV)
 | []=>[]
 | id::r=>(.bk id,.gone)::goneL r
def outL (m:List Nat) (nid:Nat):List (Nat×Blk)→List (Key×KV)
 | []=>[]
 | (id,b)::r=>(.bk (sigOut m nid id),.bk (b.ren (sigOut m nid)))::outL m nid r
def resTV (rs:List V1):TV:=match rs with
 | [x] => .v x
 | rs => .tup rs
def mapL {α β:Type} (f:α→β):List α→List β
 | []=>[]
 | x::r=>f x::mapL f r
def fstL:List (Nat×Blk)→List Nat
 | []=>[]
 | (i,_)::r=>i::fstL r
def V1.flat:V1→Bool
 | .c x=>x.flat
 | .agg l=>flats l
def flatsV:List V1→Bool
 | []=>true
 | x::r=>bAnd x.flat (flatsV r)
def isNil {α:Type}:List α→Bool
 | []=>true
 | _=>false
theorem mapL_eq {α β:Type} (f:α→β) (l:List α):mapL f l=l.map f:=by
 induction l with
 | nil=>rfl
 | cons x r ih=>simp [mapL,ih]
def calleeM (E:Env) (g:OG):Operand→M (FuncId×List V1×List V1)
 | .func f=>ret (f,[],[])
 | x=>bind (opdM E g x) fun
  | .c (.clo f k sh c)=>match Nat.blt f 1000000000 with
   | true=>ret (f,[],upL (fun i=>match sh i with | none=>V1.c (c i 0) | some m=>V1.agg (upL (c i) 0 m)) 0 k)
   | false=>ret (f-1000000000,upL (fun i=>match sh i with | none=>V1.c (c i 0) | some m=>V1.agg (upL (c i) 0 m)) 0 k,[])
  | _=>fail
def methOf (P:Program) (t:TypeId) (name:String):Option FuncId:=match P.info? t with
 | some inf=>match inf.methods.find? (fun m=>m.name==name) with
  | some m=>match m.path.toList,m.func with
   | [],some (f,false)=>match P.underlying t with
    | some (.pointer _)=>none
    | some _=>some f
    | none=>none
   | _,_=>none
  | none=>none
 | none=>none
def calM (E:Env) (g:OG):Callee→M (FuncId×List V1×List V1)
 | .value x=>calleeM E g x
 | .invoke x name=>bind (opdM E g x) fun
  | .c (.ifc t sh c)=>bind (opt (methOf E.P t name)) fun f=>ret (f,[match sh with | none=>V1.c (c 0) | some m=>V1.agg (upL c 0 m)],[])
  | _=>fail
 | _=>fail
def callM (E:Env) (cs:List (Nat×CallE E.P E.G)) (i nid:Nat) (g:OG) (d:Option Nat) (f:Callee) (args:List Operand):M (Eff×Eqs) :=
 bind (opt (look cs i)) fun c=>bind (calM E g f) fun q=>bind (guard (bAnd (Nat.beq q.1 c.f) (isGo E.P c.f))) fun _ =>
 bind (opdsM E g args) fun vs =>
 match g with
 | none=>bind (blksM c.m) fun bs =>
   bind (guard (bAnd (nodupB c.m) (bAnd (Nat.beq (len c.m) (len c.hin)) (bAnd (houtOk (len c.m) c.hout) (nodupB (fstL c.hout)))))) fun _ =>
   ret (⟨goneL c.m++(outL c.m nid c.hout++(match d with | some d=>[(.tm d,.tv (resTV (mapL (V1.ren (sigOut c.m nid)) c.rs)))] | none=>[])),[]⟩,
    ⟨q.2.1++(vs++q.2.2),mapL (V1.ren (sigIn c.m)) c.args,bs,mapL (Blk.ren (sigIn c.m)) c.hin⟩)
 | some gd=>match d,c.rs with
  | some d,[x]=>bind (guard (bAnd (isNil c.m) (bAnd (isNil c.hin) (bAnd (isNil c.hout) x.flat)))) fun _=>ret (⟨[(.tm d,.tv (.cnd gd.t gd.w x))],[]⟩,⟨q.2.1++(vs++q.2.2),c.args,[],[]⟩)
  | _,_=>fail
end Go.Sv
end
