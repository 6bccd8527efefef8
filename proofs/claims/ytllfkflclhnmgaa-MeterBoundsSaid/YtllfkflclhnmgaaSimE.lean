/- The value of an operation that looks at no memory: 'valK', its law, and that the model's operation yields it. -/
import Derived.Test.YtllfkflclhnmgaaSimD
namespace Go.Sim
variable {β : Type}

def isNilA : AV → Bool
  | .nil => true
  | _ => false

def binK (P : Program) (op : BinOp) (t : TypeId) (v u : AV) (K : AV → Option β) : Option β :=
  match v, u with
  | .int k a, .int k' b => intOpK op k a k' b K
  | .str a, .str b =>
    match op with
    | .eql => K (.bool (a == b))
    | .neq => K (.bool (!(a == b)))
    | .lss => K (.bool (Op.bytesLess a b))
    | .geq => K (.bool (!(Op.bytesLess a b)))
    | .leq => K (.bool (Op.bytesLess a b || (a == b)))
    | .gtr => K (.bool (!(Op.bytesLess a b || (a == b))))
    | _ => none
  | .bool a, .bool b =>
    match P.underlying t with
    | some .bool =>
      match op with
      | .eql => K (.bool (a == b))
      | .neq => K (.bool (!(a == b)))
      | _ => none
    | _ => none
  | .ptr _ _, .nil =>
    match P.underlying t with
    | some (.pointer _) =>
      match op with
      | .eql => K (.bool false)
      | .neq => K (.bool true)
      | _ => none
    | _ => none
  | .nil, .ptr _ _ =>
    match P.underlying t with
    | some (.pointer _) =>
      match op with
      | .eql => K (.bool false)
      | .neq => K (.bool true)
      | _ => none
    | _ => none
  | .nil, .nil =>
    match P.underlying t with
    | some (.pointer _) =>
      match op with
      | .eql => K (.bool true)
      | .neq => K (.bool false)
      | _ => none
    | _ => none
  | v, u =>
    bif v.isAgg && u.isAgg && !P.eqGuardType P.depth t then
      match eqT P 9 t v u with
      | some b =>
        match op with
        | .eql => K (.bool b)
        | .neq => K (.bool (!b))
        | _ => none
      | none => none
    else none

def unK (op : UnOp) (v : AV) (K : AV → Option β) : Option β :=
  match op, v with
  | .not, .bool b => K (.bool (!b))
  | .neg, .int k n => K (.int k (wr k (0 - n)))
  | .xor, .int k n => K (.int k (xorI k (if k.signed then -1 else k.max) n))
  | _, _ => none

def isIntT (P : Program) (t : TypeId) : Bool :=
  match P.underlying t with
  | some (.int _) => true
  | _ => false

def indexAddrK (P : Program) (t : TypeId) (x i : AV) (K : AV → Option β) : Option β :=
  match P.underlying t with
  | some (.array len e) =>
    match x with
    | .ptr n p =>
      match i with
      | .int _ i =>
        match P.info? e with
        | some ie =>
          bif inB i len then
            bif isIntT P e then
              bif Nat.beq ie.size 1 then K (.ptr n (p ++ [.elt i.toNat])) else none
            else K (.ptr n (p ++ [.fld (i.toNat * ie.size) i.toNat]))
          else none
        | none => none
      | _ => none
    | _ => none
  | _ => none

def indexK (P : Program) (t : TypeId) (x i : AV) (K : AV → Option β) : Option β :=
  match i with
  | .int _ i =>
    match x with
    | .arr k m l =>
      match P.underlying t with
      | some (.array len e) => bif Nat.beq len m && fits P e (.int k 0) then bif inB i len then K (.int k (l.getD i.toNat 0)) else none else none
      | _ => none
    | .agg ts =>
      match P.underlying t with
      | some (.array len e) =>
        match P.info? e with
        | some ie =>
          bif inB i len then
            match ts[i.toNat]? with
            | some u => bif Nat.beq (AV.sizeL (ts.take i.toNat)) (i.toNat * ie.size) && fits P e u then K u else none
            | none => none
          else none
        | none => none
      | _ => none
    | .str s =>
      match P.underlying t with
      | some .string => bif inB i s.length then K (.int .u8 ((s.getD i.toNat 0).toNat)) else none
      | _ => none
    | _ => none
  | _ => none

def minmaxA (mx : Bool) : List AV → Option AV
  | [.int k a, .int k' b] => bif decide (k = k') then some (.int k (bif mx then (if b > a then b else a) else (if b < a then b else a))) else none
  | _ => none

def valK (P : Program) (tm : Tm) (o : Oper) (K : AV → Option β) : Option β :=
  match o.op with
  | .move x => getK tm x K
  | .assign x => getK tm x K
  | .pick c a b =>
    match opv tm c with
    | some (.bool t) => bif t then getK tm a K else getK tm b K
    | _ => none
  | .nilCheck x =>
    match opv tm x with
    | some (.ptr n p) => K (.ptr n p)
    | _ => none
  | .binOp op t x y _ =>
    match opv tm x with
    | some v => match opv tm y with
      | some u => binK P op t v u K
      | none => none
    | none => none
  | .unOp op _ x =>
    match opv tm x with
    | some v => unK op v K
    | none => none
  | .convert s d x =>
    match P.underlying s with
    | some _ => match P.underlying d with
      | some (.int k) => match opv tm x with
        | some (.int _ n) => K (.int k (wr k n))
        | _ => none
      | _ => none
    | none => none
  | .fieldAddr s x f =>
    match P.underlying s with
    | some (.struct fs) => match opv tm x with
      | some (.ptr n p) => match fs[f]? with
        | some fd => match P.info? fd.type with
          | some i => bif Nat.beq i.size 0 then none else K (.ptr n (p ++ [.fld fd.offset f]))
          | none => none
        | none => none
      | _ => none
    | _ => none
  | .field s x f =>
    match P.underlying s with
    | some (.struct fs) => match opv tm x with
      | some (.agg ts) => match fs[f]? with
        | some fd => match ts[f]? with
          | some u => bif Nat.beq (AV.sizeL (ts.take f)) fd.offset && fits P fd.type u then K u else none
          | none => none
        | none => none
      | _ => none
    | _ => none
  | .indexAddr t x i =>
    match opv tm x with
    | some v => match opv tm i with
      | some u => indexAddrK P t v u K
      | none => none
    | none => none
  | .index t x i =>
    match opv tm x with
    | some v => match opv tm i with
      | some u => indexK P t v u K
      | none => none
    | none => none
  | .extract x i =>
    match opv tm x with
    | some (.tup ts) => match ts[i]? with
      | some v => K v
      | none => none
    | _ => none
  | .build t ps =>
    match partsV tm ps.toList with
    | some vs => match buildA P t vs with
      | some v => bif v.isAgg then K v else none
      | none => none
    | none => none
  | .call c =>
    match c.callee with
    | .builtin .min => match opvs tm c.args.toList with
      | some vs => match minmaxA false vs with
        | some v => K v
        | none => none
      | none => none
    | .builtin .max => match opvs tm c.args.toList with
      | some vs => match minmaxA true vs with
        | some v => K v
        | none => none
      | none => none
    | .builtin .len => match opvs tm c.args.toList with
      | some [.str s] => match c.argTypes[0]? with
        | some t => match P.underlying t with
          | some .string => K (.int .i64 s.length)
          | _ => none
        | none => none
      | _ => none
    | _ => none
  | _ => none

def val (P : Program) (tm : Tm) (o : Oper) : Option AV := valK P tm o some

theorem binK_eq (P : Program) (op : BinOp) (t : TypeId) (v u : AV) (K : AV → Option β) : binK P op t v u K = (binK P op t v u some).bind K := by
  unfold binK
  split
  · exact intOpK_eq ..
  · split <;> rfl
  · split
    · split <;> rfl
    · rfl
  · split
    · split <;> rfl
    · rfl
  · split
    · split <;> rfl
    · rfl
  · split
    · split <;> rfl
    · rfl
  · cases (_ && _ && !_) with
    | false => rfl
    | true =>
      simp only [cond_true]
      split
      · split <;> rfl
      · rfl

theorem indexAddrK_eq (P : Program) (t : TypeId) (x i : AV) (K : AV → Option β) : indexAddrK P t x i K = (indexAddrK P t x i some).bind K := by
  unfold indexAddrK
  repeat' (first | rfl | split)
  all_goals first | rfl | (cases inB _ _ <;> cases isIntT P _ <;> cases Nat.beq _ _ <;> rfl)

theorem indexK_eq (P : Program) (t : TypeId) (x i : AV) (K : AV → Option β) : indexK P t x i K = (indexK P t x i some).bind K := by
  unfold indexK
  repeat' (first | rfl | split)
  all_goals first | rfl | (cases inB _ _ <;> rfl) | (cases (_ && _) <;> cases inB _ _ <;> rfl)

theorem valK_eq (P : Program) (tm : Tm) (o : Oper) (K : AV → Option β) : valK P tm o K = (val P tm o).bind K := by
  unfold val valK
  split
  · unfold getK; split <;> rfl
  · unfold getK; split <;> rfl
  · split
    · rename_i t _
      unfold getK
      cases t <;> simp only [cond_true, cond_false] <;> split <;> rfl
    · rfl
  · split <;> rfl
  · split
    · split
      · exact binK_eq ..
      · rfl
    · rfl
  · split
    · unfold unK; split <;> rfl
    · rfl
  · split
    · split
      · split <;> rfl
      · rfl
    · rfl
  · split
    · split
      · split
        · split
          · cases Nat.beq _ _ <;> rfl
          · rfl
        · rfl
      · rfl
    · rfl
  · split
    · split
      · split
        · split
          · cases (_ && _) <;> rfl
          · rfl
        · rfl
      · rfl
    · rfl
  · split
    · split
      · exact indexAddrK_eq ..
      · rfl
    · rfl
  · split
    · split
      · exact indexK_eq ..
      · rfl
    · rfl
  · split
    · split <;> rfl
    · rfl
  · split
    · split
      · cases AV.isAgg _ <;> rfl
      · rfl
    · rfl
  · split
    · split
      · split <;> rfl
      · rfl
    · split
      · split <;> rfl
      · rfl
    · split
      · split
        · split <;> rfl
        · rfl
      · rfl
    · rfl
  · rfl
end Go.Sim
