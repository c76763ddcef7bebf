/- Part VexFast of a checked interpreter for closed calls: what it answers, the machine of the model answers; its conditions are those of its theorems. -/
import Derived.Test.YtikkljdbpckihaaGreatDoorVexDefs
set_option linter.unusedVariables false
namespace Go.Vex

/-! the same machine, with its frames taken apart: no chain of projections grows while the kernel runs it -/

def finishF (f : AF) (v : AV) : E AF := match f with
  | ⟨fn, tm, nt, todo, defers, mode, dfr, rnd⟩ => match mode with
    | .run => match todo with
      | .ops all (o :: rem) :: k => bd (setDst o v nt tm) fun tm' => .ok ⟨fn, tm', nt, restItem all rem k, defers, mode, dfr, rnd⟩
      | .inRF l :: k => .ok ⟨fn, tm, nt, .endRF l :: k, defers, mode, dfr, rnd⟩
      | _ => .no 201
    | _ => .no 200

theorem finishF_eq (f : AF) (v : AV) : finishF f v = finishA f v := by
  obtain ⟨fn, tm, nt, todo, defers, mode, dfr, rnd⟩ := f
  rfl

def raiseF (f : AF) (ch : List (AV × Bool)) : AF := match f with
  | ⟨fn, tm, nt, todo, defers, mode, dfr, rnd⟩ => match mode with
    | .pan old => ⟨fn, tm, nt, todo, defers, .pan (ch ++ old), dfr, rnd⟩
    | _ => ⟨fn, tm, nt, todo, defers, .pan ch, dfr, rnd⟩

theorem raiseF_eq (f : AF) (ch : List (AV × Bool)) : raiseF f ch = raiseA f ch := by
  obtain ⟨fn, tm, nt, todo, defers, mode, dfr, rnd⟩ := f
  rfl

/-- the frame of which a deferred call ends -/
def dfrF (c : AF) : AF := match c with
  | ⟨fn, tm, nt, todo, defers, mode, dfr, rnd⟩ => match mode with
    | .pan ((_, true) :: _) => ⟨fn, tm, nt, todo, defers, .returning, dfr, rnd⟩
    | _ => ⟨fn, tm, nt, todo, defers, mode, dfr, rnd⟩

def backF (fin : St) (v : AV) (dfr : Bool) (cs : List AF) (h : H) : E St :=
  match cs with
  | c :: cs' => match dfr with
    | false => bd (finishF c v) fun c' => .ok (.go c' cs' h)
    | true => .ok (.go (dfrF c) cs' h)
  | [] => match dfr with | false => .ok fin | true => .no 207

theorem backF_eq (fin : St) (v : AV) (dfr : Bool) (cs : List AF) (h : H) : backF fin v dfr cs h = backA fin v dfr cs h := by
  cases cs with
  | nil => rfl
  | cons c cs =>
    cases dfr
    · simp only [backF, backA, finishF_eq]
    · obtain ⟨fn, tm, nt, todo, defers, mode, dfr, rnd⟩ := c
      simp only [backF, backA, dfrF]
      congr 2

def leaveRF (l : Nat) (dfr : Bool) (cs : List AF) (h : H) (jump : Option Code) : E St :=
  match h with
  | ⟨m, c, g⟩ => match m.get l with
    | some (.loop _ _ fn tm nt ps a b d) =>
      backF (.doneR (AV.bool (match jump with | none => true | some _ => false)) ⟨m.set l (.loop (match jump with | none => .ready | some _ => .done) jump fn tm nt ps a b d), c, g⟩)
        (AV.bool (match jump with | none => true | some _ => false)) dfr cs ⟨m.set l (.loop (match jump with | none => .ready | some _ => .done) jump fn tm nt ps a b d), c, g⟩
    | _ => .no 209

theorem leaveRF_eq (l : Nat) (dfr : Bool) (cs : List AF) (h : H) (jump : Option Code) : leaveRF l dfr cs h jump = leaveR l dfr cs h jump := by
  obtain ⟨m, c, g⟩ := h
  simp only [leaveRF, leaveR, backF_eq]; rfl

def leaveF (f : AF) (cs : List AF) (h : H) (jump : Option Code) : E St := match f with
  | ⟨fn, tm, nt, todo, defers, mode, dfr, rnd⟩ => match rnd with
    | none => match jump with
      | none => .ok (.go ⟨fn, tm, nt, todo, defers, .returning, dfr, rnd⟩ cs h)
      | some .ret => .ok (.go ⟨fn, tm, nt, todo, defers, .returning, dfr, rnd⟩ cs h)
      | _ => .no 208
    | some l => leaveRF l dfr cs h jump

theorem leaveF_eq (f : AF) (cs : List AF) (h : H) (jump : Option Code) : leaveF f cs h jump = leaveA f cs h jump := by
  obtain ⟨fn, tm, nt, todo, defers, mode, dfr, rnd⟩ := f
  cases rnd
  · rfl
  · simp only [leaveF, leaveA, leaveRF_eq]

def recovF (f : AF) (cs : List AF) (h : H) : E St := match f with
  | ⟨fn, tm, nt, todo, defers, mode, dfr, rnd⟩ => match dfr, rnd, cs with
    | true, none, c :: cs' => match c with
      | ⟨fn', tm', nt', todo', defers', mode', dfr', rnd'⟩ => match mode' with
        | .pan ((v, false) :: older) => bd (finishF ⟨fn, tm, nt, todo, defers, mode, dfr, rnd⟩ v) fun f' => .ok (.go f' (⟨fn', tm', nt', todo', defers', .pan ((v, true) :: older), dfr', rnd'⟩ :: cs') h)
        | _ => bd (finishF ⟨fn, tm, nt, todo, defers, mode, dfr, rnd⟩ .nilIface) fun f' => .ok (.go f' cs h)
    | _, _, _ => .no 211

def deferF (f : AF) (cs : List AF) (g : FuncId) (args : List AV) (h : H) : E St := match f with
  | ⟨fn, tm, nt, todo, defers, mode, dfr, rnd⟩ => match rnd with
    | none => bd (finishF ⟨fn, tm, nt, todo, .fn g args :: defers, mode, dfr, rnd⟩ (.tuple [])) fun f' => .ok (.go f' cs h)
    | some _ => .no 214

def applyF (Γ : Env) (f : AF) (cs : List AF) (r : R) (h : H) : E St :=
  match r with
  | .val v h' => bd (finishF f v) fun f' => .ok (.go f' cs h')
  | .skip h' => bd (finishF f (.tuple [])) fun f' => .ok (.go f' cs h')
  | .enter g args h' => bd (enterA Γ g args false) fun c => .ok (.go c (f :: cs) h')
  | .fields s h' => gd 210 (allAscii s && Nat.blt s.length 4294967281)
    (bd (finishF f (newWord h' (fieldsGo s [] [])).1) fun f' => .ok (.go f' cs (newWord h' (fieldsGo s [] [])).2))
  | .defer g args => deferF f cs g args h
  | .recov => recovF f cs h
  | .panic v => .ok (.go (raiseF f [(v, false)]) cs h)
  | .yield l args => bd (roundA l args h) fun c => .ok (.go c (f :: cs) h)

theorem applyF_eq (Γ : Env) (f : AF) (cs : List AF) (r : R) (h : H) : applyF Γ f cs r h = applyA Γ f cs r h := by
  cases r with
  | defer g args =>
    obtain ⟨fn, tm, nt, todo, defers, mode, dfr, rnd⟩ := f
    cases rnd
    · simp only [applyF, applyA, deferF, finishF_eq]
    · rfl
  | recov =>
    obtain ⟨fn, tm, nt, todo, defers, mode, dfr, rnd⟩ := f
    cases dfr
    · rfl
    · cases rnd
      · cases cs with
        | nil => rfl
        | cons c cs =>
          obtain ⟨fn', tm', nt', todo', defers', mode', dfr', rnd'⟩ := c
          cases mode' with
          | run => simp only [applyF, applyA, recovF, finishF_eq]
          | returning => simp only [applyF, applyA, recovF, finishF_eq]
          | pan l =>
            cases l with
            | nil => simp only [applyF, applyA, recovF, finishF_eq]
            | cons p l =>
              obtain ⟨v, b⟩ := p
              cases b <;> simp only [applyF, applyA, recovF, finishF_eq]
      · rfl
  | panic v => simp only [applyF, applyA, raiseF_eq]
  | _ => simp only [applyF, applyA, finishF_eq]

def rangeF (Γ : Env) (f : AF) (cs : List AF) (h : H) (k : List AItem) (x : Operand) (params : List Nat) (assign body : Code) : E St := match f with
  | ⟨fn, tm, nt, todo, defers, mode, dfr, rnd⟩ =>
      bd (match rnd with
        | none => .ok (h.c, ({ h with m := h.m.set h.c (.defr true), c := h.c + 1 } : H), [AD.coll h.c])
        | some l => match h.m.get l with
          | some (.loop _ _ _ _ _ _ _ _ d) => .ok (d, h, [])
          | _ => .no 216) fun (d, h1, mark) =>
      let l := h1.c
      let h2 : H := { h1 with m := h1.m.set l (.loop .ready none fn tm nt params assign body d), c := l + 1 }
      bd (ev Γ tm x) fun v => match v with
        | .func g first captured =>
          bd (callF Γ g (first ++ ([.yieldv l] ++ captured)) h2) fun r =>
            applyF Γ ⟨fn, tm, nt, .inRF l :: k, mark ++ defers, mode, dfr, rnd⟩ cs r h2
        | _ => .no 217

def execF (Γ : Env) (big : AF → H → E BR) (f : AF) (cs : List AF) (h : H) : E St := match f with
  | ⟨fn, tm, nt, todo, defers, mode, dfr, rnd⟩ =>
  match todo with
  | [] => leaveF ⟨fn, tm, nt, todo, defers, mode, dfr, rnd⟩ cs h none
  | .ops all (o :: rem) :: k =>
    bd (wantedA o all tm) fun w => match w with
      | true => bd (opA Γ tm h o) fun r => applyF Γ ⟨fn, tm, nt, todo, defers, mode, dfr, rnd⟩ cs r h
      | false => bd (finishF ⟨fn, tm, nt, todo, defers, mode, dfr, rnd⟩ (.tuple [])) fun f' => .ok (.go f' cs h)
  | .ops _ [] :: k | .inBlock _ :: k | .inScope _ :: k => .ok (.go ⟨fn, tm, nt, k, defers, mode, dfr, rnd⟩ cs h)
  | .inLoop body :: k => .ok (.go ⟨fn, tm, nt, .code body :: .inLoop body :: k, defers, mode, dfr, rnd⟩ cs h)
  | .code c :: k => match c with
    | .seq a b => .ok (.go ⟨fn, tm, nt, .code a :: .code b :: k, defers, mode, dfr, rnd⟩ cs h)
    | .region _ ops false => .ok (.go ⟨fn, tm, nt, .ops ops.toList ops.toList :: k, defers, mode, dfr, rnd⟩ cs h)
    | .region _ ops true => bd (drawA Γ big ops.toList nt tm h) fun r => match r with
      | .go tm' h' => .ok (.go ⟨fn, tm', nt, k, defers, mode, dfr, rnd⟩ cs h')
      | .pan ch h' => match defers with
        | [] => (match cs with
          | c :: cs' => .ok (.go (raiseF c ch) cs' h')
          | [] => .ok (.dead ch h'))
        | _ => .no 214
    | .cond c thn els => bd (ev Γ tm c) fun v => match v with
      | .bool b => .ok (.go ⟨fn, tm, nt, .code (match b with | true => thn | false => els) :: k, defers, mode, dfr, rnd⟩ cs h)
      | _ => .no 215
    | .skip | .label _ => .ok (.go ⟨fn, tm, nt, k, defers, mode, dfr, rnd⟩ cs h)
    | .block id body => .ok (.go ⟨fn, tm, nt, .code body :: .inBlock id :: k, defers, mode, dfr, rnd⟩ cs h)
    | .loop body => .ok (.go ⟨fn, tm, nt, .code body :: .inLoop body :: k, defers, mode, dfr, rnd⟩ cs h)
    | .scope body => .ok (.go ⟨fn, tm, nt, .code body :: .inScope body :: k, defers, mode, dfr, rnd⟩ cs h)
    | .exit id => match popExit id k with
      | some k' => .ok (.go ⟨fn, tm, nt, k', defers, mode, dfr, rnd⟩ cs h)
      | none => leaveF ⟨fn, tm, nt, todo, defers, mode, dfr, rnd⟩ cs h (some (.exit id))
    | .goto l => match gotoA l k with
      | some k' => .ok (.go ⟨fn, tm, nt, k', defers, mode, dfr, rnd⟩ cs h)
      | none => leaveF ⟨fn, tm, nt, todo, defers, mode, dfr, rnd⟩ cs h (some (.goto l))
    | .ret => leaveF ⟨fn, tm, nt, todo, defers, mode, dfr, rnd⟩ cs h (some .ret)
    | .rangeFunc x params assign body => rangeF Γ ⟨fn, tm, nt, todo, defers, mode, dfr, rnd⟩ cs h k x params.toList assign body
    | .refuse _ => .no 218
  | .beginRound :: k => match rnd with
    | some l => match h.m.get l with
      | some (.loop .ready p fn1 tm1 nt1 ps a b d) => .ok (.go ⟨fn, tm, nt, k, defers, mode, dfr, rnd⟩ cs { h with m := h.m.set l (.loop .busy p fn1 tm1 nt1 ps a b d) })
      | _ => .no 219
    | none => .no 220
  | .endRF l :: k => match h.m.get l with
    | some (.loop st p fn1 tm1 nt1 ps a b d) => match st with
      | .busy => .no 221
      | _ => .ok (.go ⟨fn, tm, nt, (p.map AItem.code).toList ++ k, defers, mode, dfr, rnd⟩ cs { h with m := h.m.set l (.loop .exhausted p fn1 tm1 nt1 ps a b d) })
    | _ => .no 222
  | .inRF _ :: _ => .no 223

theorem execF_eq (Γ : Env) (big : AF → H → E BR) (f : AF) (cs : List AF) (h : H) : execF Γ big f cs h = execA Γ big f cs h := by
  obtain ⟨fn, tm, nt, todo, defers, mode, dfr, rnd⟩ := f
  cases todo with
  | nil => simp only [execF, execA, leaveF_eq]
  | cons i k =>
    cases i with
    | code c =>
      cases c with
      | region id ops b =>
        cases b
        · rfl
        · simp only [execF, execA, raiseF_eq]; rfl
      | rangeFunc => simp only [execF, execA, rangeF, applyF_eq]; rfl
      | _ => first | rfl | simp only [execF, execA, leaveF_eq]
    | ops all l =>
      cases l with
      | nil => rfl
      | cons o rem => simp only [execF, execA, applyF_eq, finishF_eq]; rfl
    | _ => first | rfl | simp only [execF, execA]

def unwindF (Γ : Env) (f : AF) (cs : List AF) (h : H) : E St := match f with
  | ⟨fn, tm, nt, todo, defers, mode, dfr, rnd⟩ =>
  match defers with
  | .coll b :: ds => match h.m.get b with
    | some (.defr true) => .ok (.go ⟨fn, tm, nt, todo, ds, mode, dfr, rnd⟩ cs { h with m := h.m.set b (.defr false) })
    | _ => .no 224
  | .fn g args :: ds => bd (callF Γ g args h) fun r => match r with
    | .enter g args h' => bd (enterA Γ g args true) fun c => .ok (.go c (⟨fn, tm, nt, todo, ds, mode, dfr, rnd⟩ :: cs) h')
    | _ => .no 225
  | [] => match mode with
    | .run => .no 226
    | .pan ch => match cs with
      | c :: cs' => .ok (.go (raiseF c ch) cs' h)
      | [] => .ok (.dead ch h)
    | .returning => match rnd with
      | some _ => .no 227
      | none => bd (og 228 (Γ.ft.get fn)) fun fn1 => bd (resultsA Γ tm h fn1.results.toList) fun vs =>
        backF (.done fn (oneOf vs) h) (oneOf vs) dfr cs h

theorem unwindF_eq (Γ : Env) (f : AF) (cs : List AF) (h : H) : unwindF Γ f cs h = unwindA Γ f cs h := by
  obtain ⟨fn, tm, nt, todo, defers, mode, dfr, rnd⟩ := f
  cases defers with
  | nil =>
    cases mode with
    | run => rfl
    | pan ch => simp only [unwindF, unwindA, raiseF_eq]; rfl
    | returning => simp only [unwindF, unwindA, backF_eq]; rfl
  | cons d ds => cases d <;> rfl

def stepF (Γ : Env) (big : AF → H → E BR) (f : AF) (cs : List AF) (h : H) : E St := match f with
  | ⟨fn, tm, nt, todo, defers, mode, dfr, rnd⟩ => match mode with
    | .run => execF Γ big ⟨fn, tm, nt, todo, defers, mode, dfr, rnd⟩ cs h
    | _ => unwindF Γ ⟨fn, tm, nt, todo, defers, mode, dfr, rnd⟩ cs h

theorem stepF_eq (Γ : Env) (big : AF → H → E BR) (f : AF) (cs : List AF) (h : H) : stepF Γ big f cs h = stepA Γ big f cs h := by
  obtain ⟨fn, tm, nt, todo, defers, mode, dfr, rnd⟩ := f
  cases mode <;> simp only [stepF, stepA, execF_eq, unwindF_eq]

def runF (Γ : Env) : Nat → AF → List AF → H → E BR
  | 0, _, _, _ => .no 230
  | n + 1, f, cs, h =>
    match stepF Γ (fun c h' => runF Γ n c [] h') f cs h with
    | .ok (.go f' cs' h') => runF Γ n f' cs' h'
    | .ok (.done fn v h') => .ok (.ret fn v h')
    | .ok (.doneR v h') => .ok (.retR v h')
    | .ok (.dead ch h') => .ok (.pan ch h')
    | .no k => .no k

theorem runF_eq (Γ : Env) : ∀ (n : Nat) (f : AF) (cs : List AF) (h : H), runF Γ n f cs h = runA Γ n f cs h
  | 0, _, _, _ => rfl
  | n + 1, f, cs, h => by
    have ih := runF_eq Γ n
    have hb : (fun c h' => runF Γ n c [] h') = fun c h' => runA Γ n c [] h' := by funext c h'; exact ih c [] h'
    simp only [runF, runA, stepF_eq, hb]
    cases stepA Γ (fun c h' => runA Γ n c [] h') f cs h with
    | no k => rfl
    | ok s => cases s <;> simp only [ih]

def runCallF (Γ : Env) (n : Nat) (g : FuncId) (args : List AV) (h : H) : E BR := bd (enterA Γ g args false) fun c => runF Γ n c [] h

theorem runCallF_eq (Γ : Env) (n : Nat) (g : FuncId) (args : List AV) (h : H) : runCallF Γ n g args h = runCallA Γ n g args h := by
  simp only [runCallF, runCallA, runF_eq]

end Go.Vex
